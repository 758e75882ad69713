/- Part of the claim: see its last text. -/
import Derived.Test.YtjhogglgkjcacaaGreatMa20
set_option linter.all false
namespace Go.AM
def sD:Value→Value→Bool
 | .int k a,.int k' b=>decide (k=k')&&a==b
 | .bool a,.bool b=>a==b
 | .string a,.string b=>decide (a=b)
 | .pointer none,.pointer none=>true
 | .map none,.map none=>true
 | .nilFunc,.nilFunc=>true
 | .nilIface,.nilIface=>true
 | _,_=>false
theorem vh:∀ {a b:Value},sD a b=true→a=b:=by
 intro a b h
 unfold sD at h
 split at h <;> simp_all
mutual
def fe:AV→AV→Bool
 | .undef,.undef=>true
 | .sc a,.sc b=>sD a b
 | .agg a,.agg b=>iN a b
 | .tup a,.tup b=>iN a b
 | .ptr g e o,.ptr g' e' o'=>g==g'&&e==e'&&o==o'
 | .zp a o,.zp b o'=>iN a b&&o==o'
 | .row g z o n,.row g' z' o' n'=>g==g'&&z==z'&&o==o'&&n==n'
 | .sl a f,.sl b f'=>mU a b&&f==f'
 | .map g,.map g'=>g==g'
 | _,_=>false
def iN:List AV→List AV→Bool
 | [],[]=>true
 | a::as,b::bs=>fe a b&&iN as bs
 | _,_=>false
def mU:List (List AV)→List (List AV)→Bool
 | [],[]=>true
 | a::as,b::bs=>iN a b&&mU as bs
 | _,_=>false
end
mutual
theorem oh:∀ (a b:AV),fe a b=true→a=b
 | .undef,b,h=>by cases b <;> simp_all [fe]
 | .sc a,b,h=>by
  cases b <;> simp_all [fe]
  exact vh h
 | .agg a,b,h=>by
  cases b <;> simp_all [fe]
  exact iv _ _ h
 | .tup a,b,h=>by
  cases b <;> simp_all [fe]
  exact iv _ _ h
 | .ptr g e o,b,h=>by cases b <;> simp_all [fe]
 | .zp a o,b,h=>by
  cases b <;> simp_all [fe]
  exact iv _ _ h.1
 | .row g z o n,b,h=>by cases b <;> simp_all [fe]
 | .sl a f,b,h=>by
  cases b <;> simp_all [fe]
  exact pW _ _ h.1
 | .map g,b,h=>by cases b <;> simp_all [fe]
 | .fn f a c,b,h=>by cases b <;> simp_all [fe]
 | .ifc t v,b,h=>by cases b <;> simp_all [fe]
theorem iv:∀ (a b:List AV),iN a b=true→a=b
 | [],b,h=>by cases b <;> simp_all [iN]
 | x::a,b,h=>by
  cases b <;> simp_all [iN]
  exact ⟨oh _ _ h.1,iv _ _ h.2⟩
theorem pW:∀ (a b:List (List AV)),mU a b=true→a=b
 | [],b,h=>by cases b <;> simp_all [mU]
 | x::a,b,h=>by
  cases b <;> simp_all [mU]
  exact ⟨iv _ _ h.1,pW _ _ h.2⟩
end
def rdB (i:I) (sl:Slots) (s:St):Option AV:=match i with
 | .ld ag x=>ldI ag (x.ev sl) s
 | .lk kk z ok m k=>lkI kk z ok (m.ev sl) (k.ev sl) s
 | .nt x=>ntI (x.ev sl) s
 | .len k x=>dT k (x.ev sl) s
 | .cv k x=>cvI k (x.ev sl) s
 | _=>none
theorem wU {i:I} {sl:Slots} {s:St} {v:AV} (h:rdB i sl s=some v):aH i .plain sl s=some (v,s):=by
 unfold rdB at h
 split at h
 all_goals first | cases h | (simp [aH,h])
def reB (q:Nat×Option (Nat×Bool)×I) (sl:Slots) (s:St):Bool:=match gdI q.2.1 sl with
 | some false=>true
 | some true=>match rdB q.2.2 sl s with
  | some v=>fe v (sl q.1)
  | none=>false
 | none=>false
theorem wV {q:Nat×Option (Nat×Bool)×I} {sl:Slots} {s:St} (h:reB q sl s=true):ed q sl s:=by
 unfold reB at h
 unfold ed
 split at h
 ·rename_i e; exact .inl e
 ·rename_i e
  split at h
  ·rename_i v hv
   have:=oh _ _ h
   exact .inr ⟨e,by rw [wU hv,this]⟩
  ·cases h
 ·cases h
def qI (op:BinOp) (x:AV) (s:St) (K:AV→St→Bool):Bool:=(decide (op=.eql)||decide (op=.neq))&&match x with
 | .sl (_::_) _=>K (.bool (op==.neq)) s
 | .row _ _ _ (_+1)=>K (.bool (op==.neq)) s
 | .sl [] _=>K (.bool true) s&&K (.bool false) s
 | .row _ _ _ 0=>K (.bool true) s&&K (.bool false) s
 | _=>false
def nxB (it:AV) (s:St) (K:AV→St→Bool):Bool:=match it with
 | .ptr g 0 0=>match s.h g with
  | some (.iter m ver done)=>match s.h m with
   | some (.map kv ver')=>ver'==ver&&((List.range kv.length).any (fun i=>!done.contains i)||K (.tup [.bool false]) s) &&
    (List.range kv.length).all fun i=>done.contains i||match kv[i]? with
     | some p=>K (.tup [.bool true,p.1,p.2]) { h:=upd s.h g (some (.iter m ver (done++[i]))),c:=s.c }
     | none=>true
   | _=>false
  | _=>false
 | _=>false
abbrev CallB:=FuncId→List AV→St→(AV→St→Bool)→Bool
def opB (call:CallB) (o:AO) (sl:Slots) (s:St) (K:AV→St→Bool):Bool:=match o.i with
 | .call f args=>call f (cD o.md sl args) s K
 | .callv x args=>match x.ev sl with
  | .fn (.func f) a b=>call f (a++cD o.md sl args++b) s K
  | _=>false
 | .bin .slNil op x _=>qI op (x.ev sl) s K
 | .nx x=>nxB (x.ev sl) s K
 | .inv tab x args=>match x.ev sl with
  | .ifc t v=>match tab.find? fun q=>q.1==t with
   | some (_,f,none)=>call f (v::cD o.md sl args) s K
   | some (_,f,some ag)=>match ldI ag v s with
    | some u=>call f (u::cD o.md sl args) s K
    | none=>false
   | none=>false
  | _=>false
 | i=>match aH i o.md sl s with
  | some (v,s')=>K v s'
  | none=>false
def kO (call:CallB):List AO→(Slots→St→Bool)→Slots→St→Bool
 | [],K,sl,s=>K sl s
 | o::r,K,sl,s=>match gdI o.grd sl with
  | some false=>kO call r K (put sl o.dst (.tup [])) s
  | some true=>opB call o sl s fun v s'=>match cF o.md v s' with
   | some (v',s'')=>o.re.all (fun q=>reB q sl s'')&&kO call r K (put sl o.dst v') s''
   | none=>false
  | none=>false
def pF (call:CallB) (a:AO) (post:List AO) (K:Slots→St→Bool):List (Bool×AO)→Slots→St→Bool
 | [],sl,s=>kO call (a::post) K sl s
 | (b,e)::r,sl,s=>(!b||kO call (a.cut (e::r.map (·.2))::e::(r.map (·.2)++post)) K sl s)&&kO call [e] (pF call a post K r) sl s
def pE (F:(Ex→Slots→St→Bool)→Slots→St→Bool) (Q:Ex→Slots→St→Bool):Nat→Slots→St→Bool
 | 0,_,_=>false
 | n+1,sl,s=>F (fun e sl' s'=>match e with | .normal=>pE F Q n sl' s' | e=>Q e sl' s') sl s
def acB (call:CallB) (n:Nat):AC→(Ex→Slots→St→Bool)→Slots→St→Bool
 | .skip,Q,sl,s=>Q .normal sl s
 | .ops l,Q,sl,s=>kO call l (Q .normal) sl s
 | .roam a pre post,Q,sl,s=>pF call a post (Q .normal) pre sl s
 | .seq a b,Q,sl,s=>acB call n a (fun e sl' s'=>match e with | .normal=>acB call n b Q sl' s' | e=>Q e sl' s') sl s
 | .cond c a b,Q,sl,s=>match c.ev sl with
  | .sc (.bool t)=>if t=true then acB call n a Q sl s else acB call n b Q sl s
  | _=>false
 | .block id a,Q,sl,s=>acB call n a (fun e sl' s'=>match e with | .exit i=>if i=id then Q .normal sl' s' else Q (.exit i) sl' s' | e=>Q e sl' s') sl s
 | .loop a,Q,sl,s=>pE (acB call n a) Q n sl s
 | .exit id,Q,sl,s=>Q (.exit id) sl s
 | .ret,Q,sl,s=>Q .ret sl s
def vq (rxs:List RX) (K:AV→St→Bool):Ex→Slots→St→Bool:=fun e sl s'=>match e with
 | .exit _=>false
 | _=>match ee rxs sl s' with
  | some r=>K r s'
  | none=>false
inductive Ent where
 | code (ac:AC) (rs:List RX)
 | ext (g:List AV→Option AV)
def look:List (Nat×Ent)→Nat→Option Ent
 | [],_=>none
 | (k,e)::r,f=>if (k==f)=true then some e else look r f
def py (tab:List (Nat×Ent)):Nat→CallB
 | 0,_,_,_,_=>false
 | n+1,f,args,s,K=>match look tab f with
  | some (.code ac rs)=>acB (py tab n) n ac (vq rs K) (nP args) s
  | some (.ext g)=>match g args with
   | some v=>K v s
   | none=>false
  | none=>false
def jp (P:Program) (call:CallB):Prop:=∀ (f:FuncId) (args:List AV) (s:St) (K:AV→St→Bool),call f args s K=true→ACalls P f args s fun v s'=>K v s'=true
theorem tE {op:BinOp} {x:AV} {s:St} {K:AV→St→Bool} (h:qI op x s K=true):jC op x s fun v s'=>K v s'=true:=by
 unfold qI at h
 unfold jC
 simp only [Bool.and_eq_true,Bool.or_eq_true,decide_eq_true_eq] at h
 refine ⟨h.1,?_⟩
 have h2:=h.2
 clear h
 split at h2 <;> simp_all
theorem wS {it:AV} {s:St} {K:AV→St→Bool} (h:nxB it s K=true):nxW it s fun v s'=>K v s'=true:=by
 unfold nxB at h
 unfold nxW
 split at h
 ·split at h
  ·split at h
   ·rename_i kv ver' hk
    simp only [Bool.and_eq_true,Bool.or_eq_true,beq_iff_eq,List.any_eq_true,List.all_eq_true,List.mem_range] at h
    obtain ⟨⟨h1,h2⟩,h3⟩:=h
    simp only [*]
    refine ⟨trivial,fun hall=>?_,fun i p hi hd=>?_⟩
    ·rcases h2 with ⟨i,hi,hn⟩ | h2
     ·have:=hall i hi
      simp at hn
      exact absurd this hn
     ·exact h2
    ·have hlt:=(List.getElem?_eq_some_iff.1 hi).1
     have:=h3 i hlt
     rcases this with h4 | h4
     ·simp at h4; exact absurd h4 hd
     ·rw [hi] at h4; exact h4
   ·cases h
  ·cases h
 ·cases h
theorem wT {P:Program} {call:CallB} (hc:jp P call) {o:AO} {sl:Slots} {s:St} {K:AV→St→Bool} (h:opB call o sl s K=true):opW P o sl s fun v s'=>K v s'=true:=by
 unfold opB at h
 unfold opW
 split at h
 ·rename_i e; simp only [e]; exact hc _ _ _ _ h
 ·rename_i e
  split at h
  ·rename_i e2; simp only [e,e2]; exact hc _ _ _ _ h
  ·cases h
 ·rename_i e; simp only [e]; exact tE h
 ·rename_i e; simp only [e]; exact wS h
 ·rename_i e
  simp only [e]
  split at h
  ·rename_i e2
   simp only [e2]
   split at h
   ·rename_i e3; simp only [e3]; exact hc _ _ _ _ h
   ·rename_i e3
    simp only [e3]
    split at h
    ·rename_i e4; simp only [e4]; exact hc _ _ _ _ h
    ·cases h
   ·cases h
  ·cases h
 ·rename_i n1 n2 n3 n4 n5
  split at h
  ·rename_i v s' e
   split
   ·exact absurd ‹_› (n1 _ _)
   ·exact absurd ‹_› (n2 _ _)
   ·exact absurd ‹_› (n3 _ _ _)
   ·exact absurd ‹_› (n4 _)
   ·exact absurd ‹_› (n5 _ _ _)
   ·rw [e]; exact h
  ·cases h
theorem ik {P:Program} {call:CallB} (hc:jp P call):∀ (l:List AO) {K:Slots→St→Bool} {sl:Slots} {s:St},kO call l K sl s=true→aM P l (fun sl s=>K sl s=true) sl s
 | [],_,_,_,h=>h
 | o::r,K,sl,s,h=>by
  simp only [kO] at h
  simp only [aM]
  split at h
  ·rename_i e; simp only [e]; exact ik hc r h
  ·rename_i e
   simp only [e]
   refine fX (wT hc h) fun v s' hv=>?_
   cases hf:cF o.md v s' with
   | none=>simp [hf] at hv
   | some p=>
    obtain ⟨v',s''⟩:=p
    simp only [hf,Bool.and_eq_true,List.all_eq_true] at hv
    exact ⟨fun q hq=>wV (hv.1 q hq),ik hc r hv.2⟩
  ·cases h
theorem qF {P:Program} {call:CallB} (hc:jp P call) {a:AO} {post:List AO} {K:Slots→St→Bool}:∀ (r:List (Bool×AO)) {sl:Slots} {s:St},pF call a post K r sl s=true→ce P a post (fun sl s=>K sl s=true) r sl s
 | [],_,_,h=>ik hc _ h
 | (b,e)::r,sl,s,h=>by
  simp only [pF,Bool.and_eq_true,Bool.or_eq_true,Bool.not_eq_true'] at h
  refine ⟨fun hb=>?_,cV _ (ik hc _ h.2) fun sl s h'=>qF hc r h'⟩
  rcases h.1 with h1 | h1
  ·rw [h1] at hb; cases hb
  ·exact ik hc _ h1
theorem iq {P:Program} {call:CallB} (hc:jp P call) (n:Nat):∀ (a:AC) {Q:Ex→Slots→St→Bool} {sl:Slots} {s:St},acB call n a Q sl s=true→acW P a (fun e sl s=>Q e sl s=true) sl s
 | .skip,_,_,_,h=>h
 | .ops l,_,_,_,h=>ik hc l h
 | .roam a pre post,_,_,_,h=>qF hc pre h
 | .seq a b,_,_,_,h=>by
  simp only [acB] at h
  simp only [acW]
  refine bL a (iq hc n a h) fun e sl s he=>?_
  cases e with
  | normal=>exact iq hc n b he
  | exit id=>exact he
  | ret=>exact he
 | .cond c a b,_,_,_,h=>by
  simp only [acB] at h
  simp only [acW]
  split at h
  ·rename_i t e
   simp only [e]
   cases t
   ·simp at h ⊢; exact iq hc n b h
   ·simp at h ⊢; exact iq hc n a h
  ·cases h
 | .block id a,_,_,_,h=>by
  simp only [acB] at h
  simp only [acW]
  refine bL a (iq hc n a h) fun e sl s he=>?_
  cases e with
  | normal=>exact he
  | exit i=>
   simp only at he ⊢
   split at he
   ·rename_i hi; rw [if_pos hi]; exact he
   ·rename_i hi; rw [if_neg hi]; exact he
  | ret=>exact he
 | .loop a,Q,sl,s,h=>by
  simp only [acB] at h
  simp only [acW]
  refine ⟨n,?_⟩
  have key:∀ k sl s,pE (acB call n a) Q k sl s=true→eE (acW P a) (fun e sl s=>Q e sl s=true) k sl s:=by
   intro k
   induction k with
   | zero=>intro sl s h; cases h
   | succ k ih=>
    intro sl s h
    simp only [pE] at h
    simp only [eE]
    refine bL a (iq hc n a h) fun e sl s he=>?_
    cases e with
    | normal=>exact ih _ _ he
    | exit id=>exact he
    | ret=>exact he
  exact key n sl s h
 | .exit id,_,_,_,h=>h
 | .ret,_,_,_,h=>h
def vl (P:Program) (f:FuncId) (args:List AV) (v:AV):Prop:=∀ s:St,ACalls P f args s fun av s'=>av=v∧s'=s
def pw (P:Program) (f:FuncId):Ent→Prop
 | .code ac rs=>aj P f ac rs
 | .ext g=>∀ args v,g args=some v→vl P f args v
def mT (P:Program):List (Nat×Ent)→Prop
 | []=>True
 | p::r=>pw P p.1 p.2∧mT P r
theorem ot {P:Program}:∀ {tab:List (Nat×Ent)},mT P tab→∀ {f e},look tab f=some e→pw P f e
 | [],_,f,e,h=>by cases h
 | (k,x)::r,ht,f,e,h=>by
  unfold look at h
  split at h
  ·rename_i hk
   have:=beq_iff_eq.1 hk
   subst this
   injection h with h
   subst h; exact ht.1
  ·exact ot ht.2 h
theorem qa {P:Program} {tab:List (Nat×Ent)} (ht:mT P tab):∀ n,jp P (py tab n)
 | 0=>fun f args s K h=>by cases h
 | n+1=>fun f args s K h=>by
  simp only [py] at h
  split at h
  ·rename_i ac rs e
   refine ot ht e .keep ?_
   refine bL ac (iq (qa ht n) n ac h) fun e sl s' he=>?_
   unfold vq at he
   unfold ma
   split at he
   ·cases he
   ·rename_i hne
    split
    ·rename_i i; exact absurd rfl (hne i)
    ·split at he
     ·rename_i r hr
      simp only [hr,qh]
      exact he
     ·cases he
  ·rename_i g e
   split at h
   ·rename_i v hv
    exact (ot ht e args v hv s).mono fun av s' _ ⟨h1,h2⟩=>by rw [h1,h2]; exact h
   ·cases h
  ·cases h
theorem sT {P:Program} {f:FuncId} {tab:List (Nat×Ent)} (ht:mT P tab) (n:Nat)
  (h:py tab n f [] ⟨fun _=>none,0⟩ (fun v _=>fe v (.bool true))=true):aG P f [] (.bool true):=by
 intro s G w vs hS hv
 have hS0:Sim ⟨fun _=>none,fun _ _=>none⟩ ⟨fun _=>none,0⟩ w:=by
  refine ⟨fun _ _ _ h=>?_,fun _ _ h=>?_,fun _ _ h=>?_,fun _ _ _ _ _ _ _ h=>?_⟩ <;> cases h
 have hc:=qa ht n f [] _ _ h ⟨fun _=>none,fun _ _=>none⟩ w vs hS0 ⟨hv.1,fun j a v ha _=>by simp at ha⟩
 refine hc.mono fun v w' ⟨av,G',s',h1,h2,h3,h4⟩=>?_
 have e:=oh _ _ h4
 subst e
 have hk:∀ b,b<w.heap.size→w'.heap[b]?=w.heap[b]?:=fun b hb=>h1.keep b hb fun ⟨g,body,l,hg,_⟩=>by cases hg
 refine ⟨_,G,s,⟨.refl G,Nat.le_refl _,h1.os,h1.tape,h1.output,h1.size,fun b hb _=>hk b hb,fun _ _ h=>h⟩,hS.grow hk,?_,rfl,rfl⟩
 cases h3 with
 | sc _ h=>exact .sc _ h
end Go.AM
