/- Part of the claim: see its last text. -/
import Derived.Test.YtjhogglgkjcacaaGreatMa20
import Derived.RangeFuncRecord
import Derived.RangeFuncSeq
import Derived.LoopNIn
import Derived.RegionIn
import Derived.TacticsIn
set_option linter.all false
namespace Go.AM
def vu:Value->Value->Bool
 | .int c a,.int d b=>decide (c=d)&&a==b
 | .bool a,.bool b=>a==b
 | .string a,.string b=>decide (a=b)
 | .pointer none,.pointer none=>true
 | .map none,.map none=>true
 | .nilFunc,.nilFunc=>true
 | .nilIface,.nilIface=>true
 | _,_=>false
theorem zu:∀ {a b:Value},vu a b=true->a=b:=by
 intro a b c;unfold vu at c;split at c <;> simp_all
mutual
def gO:AV->AV->Bool
 | .undef,.undef=>true
 | .sc a,.sc b=>vu a b
 | .agg a,.agg b=>ky a b
 | .tup a,.tup b=>ky a b
 | .ptr g e o,.ptr g' e' o'=>g==g'&&e==e'&&o==o'
 | .zp a o,.zp b o'=>ky a b&&o==o'
 | .row g z o n,.row g' z' o' n'=>g==g'&&z==z'&&o==o'&&n==n'
 | .sl a f,.sl b f'=>pE a b&&f==f'
 | .map g,.map g'=>g==g'
 | _,_=>false
def ky:List AV->List AV->Bool
 | [],[]=>true
 | a::as,b::bs=>gO a b&&ky as bs
 | _,_=>false
def pE:List (List AV)->List (List AV)->Bool
 | [],[]=>true
 | a::as,b::bs=>ky a b&&pE as bs
 | _,_=>false
end
mutual
theorem qx:∀ (a b:AV),gO a b=true->a=b
 | .undef,b,h=>by cases b <;> simp_all [gO]
 | .sc a,b,h=>by
  cases b <;> simp_all [gO];exact zu h
 | .agg a,b,h=>by
  cases b <;> simp_all [gO];exact jT _ _ h
 | .tup a,b,h=>by
  cases b <;> simp_all [gO];exact jT _ _ h
 | .ptr g e o,b,h=>by cases b <;> simp_all [gO]
 | .zp a o,b,h=>by
  cases b <;> simp_all [gO];exact jT _ _ h.1
 | .row g z o n,b,h=>by cases b <;> simp_all [gO]
 | .sl a f,b,h=>by
  cases b <;> simp_all [gO];exact sQ _ _ h.1
 | .map g,b,h=>by cases b <;> simp_all [gO]
 | .fn f a c,b,h=>by cases b <;> simp_all [gO]
 | .ifc t v,b,h=>by cases b <;> simp_all [gO]
theorem jT:∀ (a b:List AV),ky a b=true->a=b
 | [],b,h=>by cases b <;> simp_all [ky]
 | x::a,b,h=>by
  cases b <;> simp_all [ky];exact ⟨qx _ _ h.1,jT _ _ h.2⟩
theorem sQ:∀ (a b:List (List AV)),pE a b=true->a=b
 | [],b,h=>by cases b <;> simp_all [pE]
 | x::a,b,h=>by
  cases b <;> simp_all [pE];exact ⟨jT _ _ h.1,sQ _ _ h.2⟩
end
def rdB (i:I) (sl:Slots) (s:St):Option AV:=match i with
 | .ld c a=>ldI c (a.ev sl) s
 | .lk d f ok e b=>lkI d f ok (e.ev sl) (b.ev sl) s
 | .nt a=>ntI (a.ev sl) s
 | .len b a=>eL b (a.ev sl) s
 | .cv b a=>cvI b (a.ev sl) s
 | _=>none
theorem A1 {i:I} {sl:Slots} {s:St} {v:AV} (h:rdB i sl s=some v):aO i .plain sl s=some (v,s):=by
 unfold rdB at h;split at h
 all_goals first | cases h | (simp [aO,h])
def reB (a:Nat×Option (Nat×Bool)×I) (sl:Slots) (s:St):Bool:=match gdI a.2.1 sl with
 | some false=>true
 | some true=>match rdB a.2.2 sl s with
  | some b=>gO b (sl a.1)
  | none=>false
 | none=>false
theorem A3 {b:Nat×Option (Nat×Bool)×I} {sl:Slots} {s:St} (h:reB b sl s=true):fG b sl s:=by
 unfold reB at h;unfold fG;split at h
 ·rename_i a; exact .inl a
 ·rename_i a;split at h
  ·rename_i d c;have:=qx _ _ h;exact .inr ⟨a,by rw [A1 c,this]⟩
  ·cases h
 ·cases h
def tO (op:BinOp) (x:AV) (s:St) (K:AV->St->Bool):Bool:=(decide (op=.eql)||decide (op=.neq))&&match x with
 | .sl (_::_) _=>K (.bool (op==.neq)) s
 | .row _ _ _ (_+1)=>K (.bool (op==.neq)) s
 | .sl [] _=>K (.bool true) s&&K (.bool false) s
 | .row _ _ _ 0=>K (.bool true) s&&K (.bool false) s
 | _=>false
def nxB (e:AV) (s:St) (K:AV->St->Bool):Bool:=match e with
 | .ptr b 0 0=>match s.h b with
  | some (.iter c ver done)=>match s.h c with
   | some (.map a f)=>f==ver&&((List.range a.length).any (fun i=>!done.contains i)||K (.tup [.bool false]) s) &&
    (List.range a.length).all fun i=>done.contains i||match a[i]? with
     | some d=>K (.tup [.bool true,d.1,d.2]) { h:=upd s.h b (some (.iter c ver (done++[i]))),c:=s.c }
     | none=>true
   | _=>false
  | _=>false
 | _=>false
abbrev CallB:=FuncId->List AV->St->(AV->St->Bool)->Bool
def opB (call:CallB) (o:AO) (sl:Slots) (s:St) (K:AV->St->Bool):Bool:=match o.i with
 | .call a c=>call a (dh o.md sl c) s K
 | .callv b c=>match b.ev sl with
  | .fn (.func a) e g=>call a (e++dh o.md sl c++g) s K
  | _=>false
 | .bin .slNil h b _=>tO h (b.ev sl) s K
 | .nx b=>nxB (b.ev sl) s K
 | .inv p b c=>match b.ev sl with
  | .ifc m d=>match p.find? fun k=>k.1==m with
   | some (_,a,none)=>call a (d::dh o.md sl c) s K
   | some (_,a,some f)=>match ldI f d s with
    | some q=>call a (q::dh o.md sl c) s K
    | none=>false
   | none=>false
  | _=>false
 | i=>match aO i o.md sl s with
  | some (d,l)=>K d l
  | none=>false
def nD (call:CallB):List AO->(Slots->St->Bool)->Slots->St->Bool
 | [],c,a,s=>c a s
 | b::r,c,a,s=>match gdI b.grd a with
  | some false=>nD call r c (put a b.dst (.tup [])) s
  | some true=>opB call b a s fun g f=>match dt b.md g f with
   | some (h,d)=>b.re.all (fun e=>reB e a d)&&nD call r c (put a b.dst h) d
   | none=>false
  | none=>false
def rV (call:CallB) (a:AO) (post:List AO) (K:Slots->St->Bool):List (Bool×AO)->Slots->St->Bool
 | [],b,s=>nD call (a::post) K b s
 | (d,c)::r,b,s=>(!d||nD call (a.cut (c::r.map (·.2))::c::(r.map (·.2)++post)) K b s)&&nD call [c] (rV call a post K r) b s
def rS (F:(Ex->Slots->St->Bool)->Slots->St->Bool) (Q:Ex->Slots->St->Bool):Nat->Slots->St->Bool
 | 0,_,_=>false
 | n+1,d,s=>F (fun a c b=>match a with | .normal=>rS F Q n c b | a=>Q a c b) d s
def acB (call:CallB) (n:Nat):AC->(Ex->Slots->St->Bool)->Slots->St->Bool
 | .skip,a,b,s=>a .normal b s
 | .ops k,a,b,s=>nD call k (a .normal) b s
 | .roam c pre l,a,b,s=>rV call c l (a .normal) pre b s
 | .seq c g,a,b,s=>acB call n c (fun d f e=>match d with | .normal=>acB call n g a f e | d=>a d f e) b s
 | .cond h c g,a,b,s=>match h.ev b with
  | .sc (.bool m)=>if m=true then acB call n c a b s else acB call n g a b s
  | _=>false
 | .block id c,a,b,s=>acB call n c (fun d f e=>match d with | .exit i=>if i=id then a .normal f e else a (.exit i) f e | d=>a d f e) b s
 | .loop c,a,b,s=>rS (acB call n c) a n b s
 | .exit id,a,b,s=>a (.exit id) b s
 | .ret,a,b,s=>a .ret b s
def zA (c:List RX) (K:AV->St->Bool):Ex->Slots->St->Bool:=fun b d a=>match b with
 | .exit _=>false
 | _=>match fH c d a with
  | some r=>K r a
  | none=>false
inductive Ent where
 | code (ac:AC) (rs:List RX)
 | ext (g:List AV->Option AV)
def look:List (Nat×Ent)->Nat->Option Ent
 | [],_=>none
 | (c,b)::r,a=>if (c==a)=true then some b else look r a
def rP (c:List (Nat×Ent)):Nat->CallB
 | 0,_,_,_,_=>false
 | n+1,d,b,s,a=>match look c d with
  | some (.code ac f)=>acB (rP c n) n ac (zA f a) (jp b) s
  | some (.ext e)=>match e b with
   | some g=>a g s
   | none=>false
  | none=>false
def lc (P:Program) (call:CallB):Prop:=∀ (c:FuncId) (b:List AV) (s:St) (a:AV->St->Bool),call c b s a=true->ACalls P c b s fun e d=>a e d=true
theorem wI {op:BinOp} {x:AV} {s:St} {K:AV->St->Bool} (h:tO op x s K=true):lK op x s fun v s'=>K v s'=true:=by
 unfold tO at h;unfold lK;simp only [q9,vv,decide_eq_true_eq] at h;refine ⟨h.1,?_⟩;have a:=h.2;clear h;split at a <;> simp_all
theorem AY {e:AV} {s:St} {K:AV->St->Bool} (h:nxB e s K=true):nxW e s fun v s'=>K v s'=true:=by
 unfold nxB at h;unfold nxW;split at h
 ·split at h
  ·split at h
   ·rename_i p t o;simp only [q9,vv,beq_iff_eq,v8,rx,uc] at h;obtain ⟨⟨m,c⟩,f⟩:=h;simp only [*];refine ⟨trivial,fun g=>?_,fun i q b k=>?_⟩
    ·rcases c with ⟨i,b,d⟩ | c
     ·have:=g i b;simp at d;exact absurd this d
     ·exact c
    ·have l:=(q4.1 b).1;have:=f i l;rcases this with a | a
     ·simp at a; exact absurd a k
     ·rw [b] at a; exact a
   ·cases h
  ·cases h
 ·cases h
theorem AZ {P:Program} {call:CallB} (b:lc P call) {o:AO} {sl:Slots} {s:St} {K:AV->St->Bool} (h:opB call o sl s K=true):opW P o sl s fun v s'=>K v s'=true:=by
 unfold opB at h;unfold opW;split at h
 ·rename_i a; simp only [a]; exact b _ _ _ _ h
 ·rename_i a;split at h
  ·rename_i c; simp only [a,c]; exact b _ _ _ _ h
  ·cases h
 ·rename_i a; simp only [a]; exact wI h
 ·rename_i a; simp only [a]; exact AY h
 ·rename_i a;simp only [a];split at h
  ·rename_i c;simp only [c];split at h
   ·rename_i d; simp only [d]; exact b _ _ _ _ h
   ·rename_i d;simp only [d];split at h
    ·rename_i e; simp only [e]; exact b _ _ _ _ h
    ·cases h
   ·cases h
  ·cases h
 ·rename_i f g k l m;split at h
  ·rename_i v s' a;split
   ·exact absurd ‹_› (f _ _)
   ·exact absurd ‹_› (g _ _)
   ·exact absurd ‹_› (k _ _ _)
   ·exact absurd ‹_› (l _)
   ·exact absurd ‹_› (m _ _ _)
   ·rw [a]; exact h
  ·cases h
theorem jL {P:Program} {call:CallB} (d:lc P call):∀ (l:List AO) {K:Slots->St->Bool} {sl:Slots} {s:St},nD call l K sl s=true->aQ P l (fun sl s=>K sl s=true) sl s
 | [],_,_,_,a=>a
 | g::r,K,sl,s,a=>by
  simp only [nD] at a;simp only [aQ];split at a
  ·rename_i c; simp only [c]; exact jL d r a
  ·rename_i c;simp only [c];refine iU (AZ d a) fun o m b=>?_;cases e:dt g.md o m with
   | none=>simp [e] at b
   | some h=>
    obtain ⟨q,p⟩:=h;simp only [e,q9,rx] at b;exact ⟨fun k f=>A3 (b.1 k f),jL d r b.2⟩
  ·cases a
theorem tI {P:Program} {call:CallB} (c:lc P call) {a:AO} {post:List AO} {K:Slots->St->Bool}:∀ (r:List (Bool×AO)) {sl:Slots} {s:St},rV call a post K r sl s=true->cE P a post (fun sl s=>K sl s=true) r sl s
 | [],_,_,b=>jL c _ b
 | (g,h)::r,sl,s,b=>by
  simp only [rV,q9,vv,y5] at b;refine ⟨fun e=>?_,dL _ (jL c _ b.2) fun sl s f=>tI c r f⟩;rcases b.1 with d | d
  ·rw [d] at e; cases e
  ·exact jL c _ d
theorem jP {P:Program} {call:CallB} (d:lc P call) (n:Nat):∀ (a:AC) {Q:Ex->Slots->St->Bool} {sl:Slots} {s:St},acB call n a Q sl s=true->acW P a (fun e sl s=>Q e sl s=true) sl s
 | .skip,_,_,_,b=>b
 | .ops m,_,_,_,b=>jL d m b
 | .roam a pre q,_,_,_,b=>tI d pre b
 | .seq a g,_,_,_,b=>by
  simp only [acB] at b;simp only [acW];refine bT a (jP d n a b) fun e sl s c=>?_;cases e with
  | normal=>exact jP d n g c
  | exit id=>exact c
  | ret=>exact c
 | .cond p a g,_,_,_,b=>by
  simp only [acB] at b;simp only [acW];split at b
  ·rename_i o e;simp only [e];cases o
   ·simp at b ⊢; exact jP d n g b
   ·simp at b ⊢; exact jP d n a b
  ·cases b
 | .block id a,_,_,_,b=>by
  simp only [acB] at b;simp only [acW];refine bT a (jP d n a b) fun e sl s c=>?_;cases e with
  | normal=>exact c
  | exit i=>
   simp only at c ⊢;split at c
   ·rename_i h; rw [if_pos h]; exact c
   ·rename_i h; rw [if_neg h]; exact c
  | ret=>exact c
 | .loop a,Q,sl,s,b=>by
  simp only [acB] at b;simp only [acW];refine ⟨n,?_⟩;have l:∀ f sl s,rS (acB call n a) Q f sl s=true->fV (acW P a) (fun e sl s=>Q e sl s=true) f sl s:=by
   intro f
   induction f with
   | zero=>intro sl s b; cases b
   | succ f k=>
    intro sl s b;simp only [rS] at b;simp only [fV];refine bT a (jP d n a b) fun e sl s c=>?_;cases e with
    | normal=>exact k _ _ c
    | exit id=>exact c
    | ret=>exact c
  exact l n sl s b
 | .exit id,_,_,_,b=>b
 | .ret,_,_,_,b=>b
def zw (P:Program) (f:FuncId) (args:List AV) (v:AV):Prop:=∀ s:St,ACalls P f args s fun av a=>av=v/\a=s
def rO (P:Program) (f:FuncId):Ent->Prop
 | .code ac d=>aj P f ac d
 | .ext c=>∀ a b,c a=some b->zw P f a b
def pD (P:Program):List (Nat×Ent)->Prop
 | []=>True
 | a::r=>rO P a.1 a.2/\pD P r
theorem qE {P:Program}:∀ {c:List (Nat×Ent)},pD P c->∀ {f e},look c f=some e->rO P f e
 | [],_,f,e,a=>by cases a
 | (g,h)::r,b,f,e,a=>by
  unfold look at a;split at a
  ·rename_i d;have:=beq_iff_eq.1 d;subst this;injection a with a;subst a; exact b.1
  ·exact qE b.2 a
theorem sT {P:Program} {f:List (Nat×Ent)} (d:pD P f):∀ n,lc P (rP f n)
 | 0=>fun h e s g a=>by cases a
 | n+1=>fun h e s g a=>by
  simp only [rP] at a;split at a
  ·rename_i ac v c;refine qE d c .keep ?_;refine bT ac (jP (sT d n) n ac a) fun c w q b=>?_;unfold zA at b;unfold oO;split at b
   ·cases b
   ·rename_i m;split
    ·rename_i i; exact absurd rfl (m i)
    ·split at b
     ·rename_i r o;simp only [o,te];exact b
     ·cases b
  ·rename_i u c;split at a
   ·rename_i t p;exact (qE d c e t p s).mono fun av q _ ⟨k,l⟩=>by rw [k,l]; exact a
   ·cases a
  ·cases a
theorem vP {P:Program} {f:FuncId} {k:List (Nat×Ent)} (x:pD P k) (n:Nat)
  (h:rP k n f [] ⟨fun _=>none,0⟩ (fun v _=>gO v (.bool true))=true):aG P f [] (.bool true):=by
 intro s e c z p y;have q:Sim ⟨fun _=>none,fun _ _=>none⟩ ⟨fun _=>none,0⟩ c:=by
  refine ⟨fun _ _ _ h=>?_,fun _ _ h=>?_,fun _ _ h=>?_,fun _ _ _ _ _ _ _ h=>?_⟩ <;> cases h
 have u:=sT x n f [] _ _ h ⟨fun _=>none,fun _ _=>none⟩ c z q ⟨y.1,fun j G v t _=>by simp at t⟩
 refine u.mono fun v C ⟨av,D,M,b,J,m,o⟩=>?_;have l:=qx _ _ o;subst l;have g:∀ a,a<c.heap.size->C.heap[a]?=c.heap[a]?:=fun a d=>b.keep a d fun ⟨H,body,K,w,_⟩=>by cases w
 refine ⟨_,e,s,⟨.refl e,q5 _,b.os,b.tape,b.output,b.size,fun a d _=>g a d,fun _ _ h=>h⟩,p.grow g,?_,rfl,rfl⟩;cases m with
 | sc _ h=>exact .sc _ h
def iY:Obj->Prop
 | .cells .. | .map .. | .mapIter ..=>False
 | _=>True
theorem Sim.off {G:Gh} {s:St} {w w':World} {l:Nat} {o:Obj} (g:Sim G s w) (z:w.heap[l]?=some o) (H:iY o) (f:∀ b,b≠l->w'.heap[b]?=w.heap[b]?):Sim G s w':=by
 have ne:∀ {b:Nat} {M:Obj},w.heap[b]?=some M->¬iY M->b≠l:=fun c T m=>by subst m; rw [z] at c; injection c with c; subst c; exact T H
 have D:∀ d b l,s.h d=some b->G.loc d=some l->0<l.cap->w'.heap[l.b]?=w.heap[l.b]?:=by
  intro d b t h k u;obtain ⟨ai,C,a⟩:=g.blk d b h;rw [k] at C; injection C with m; subst m;cases b with
  | row aa p Z Y=>obtain ⟨ag,m,e,_⟩:=a.2.2.1.2 u; exact f _ (ne e (by simp [iY]))
  | map v ver=>obtain ⟨⟨_,p,x,e,_⟩,_⟩:=a; exact f _ (ne e (by simp [iY]))
  | iter W ver done=>obtain ⟨_,_,J,K,last,seen,e,q,_⟩:=a; exact f _ (ne q (by simp [iY]))
 refine ⟨fun b j ab S=>?_,g.dom,fun d b h=>?_,g.ov⟩
 ·have c:=g.mem b j ab S;have Q:b≠l:=by
   rintro rfl;simp only [World.cell?] at c;rw [z] at c;cases o <;> first | (exact H.elim) | (simp at c)
  rw [d6 (f b Q)]; exact c
 ·obtain ⟨t,k,a⟩:=g.blk d b h;refine ⟨t,k,?_⟩;cases b with
  | row aa p Z Y=>exact ⟨a.1,a.2.1,a.2.2.1.keep (.refl G) (fun u=>D d _ t h k u),a.2.2.2⟩
  | map v ver=>exact ⟨MapOk.keep a.1 (.refl G) (D d _ t h k a.1.1),a.2⟩
  | iter W ver done=>
   obtain ⟨N,U,J,K,last,seen,e,q,O⟩:=a;refine ⟨N,U,J,K,last,seen,e,(f _ (ne q (by simp [iY]))).trans q,fun v R=>?_⟩
   obtain ⟨p,x,y,P⟩:=O v R;exact ⟨p,x,(f _ (ne y (by simp [iY]))).trans y,P⟩
theorem Sim.notOwned {G:Gh} {s:St} {w:World} {l:Nat} {o:Obj} (p:Sim G s w) (c:w.heap[l]?=some o) (d:iY o):¬nV G s l:=by
 rintro ⟨m,f,z,t,u,rfl,q⟩;obtain ⟨C,h,e⟩:=p.blk m f t;rw [u] at h; injection h with g; subst g;cases f with
 | row N k M J=>obtain ⟨v,g,a,_⟩:=e.2.2.1.2 q; rw [c] at a; injection a with a; subst a; exact d
 | map y ver=>obtain ⟨⟨_,k,x,a,_⟩,_⟩:=e; rw [c] at a; injection a with a; subst a; exact d
 | iter H ver done=>obtain ⟨_,_,D,K,last,seen,a,b,_⟩:=e; rw [c] at b; injection b with b; subst b; exact d
theorem Stp.obj {G b:Gh} {s s':St} {w w':World} {l:Nat} {o:Obj} (h:Stp G s w b s' w') (c:Sim G s w) (a:w.heap[l]?=some o) (d:iY o):w'.heap[l]?=some o:=
 (h.keep l (cF a) (c.notOwned a d)).trans a
theorem Stp.around {G G1 G2:Gh} {s s1 s2:St} {w w1 w2 w3 w4:World} {l:Nat} {o:Obj} (hS:Sim G s w) (hl:w.heap[l]?=some o) (hno:iY o)
  (h1:Stp G s w G1 s1 w1) (e1:∀ b,b≠l->w2.heap[b]?=w1.heap[b]?) (z1:w2.heap.size=w1.heap.size) (q1:w2.os=w1.os/\w2.tape=w1.tape/\w2.output=w1.output)
  (h2:Stp G1 s1 w2 G2 s2 w3) (e2:∀ b,b≠l->w4.heap[b]?=w3.heap[b]?) (z2:w4.heap.size=w3.heap.size) (q2:w4.os=w3.os/\w4.tape=w3.tape/\w4.output=w3.output)
  (hl4:w4.heap[l]?=some o):Stp G s w G2 s2 w4 where
 le:=h1.le.trans h2.le
 c:=ts h1.c h2.c
 os:=by rw [q2.1,h2.os,q1.1,h1.os]
 tape:=by rw [q2.2.1,h2.tape,q1.2.1,h1.tape]
 output:=by rw [q2.2.2,h2.output,q1.2.2,h1.output]
 size:=by have a:=h1.size; have b:=h2.size; omega
 keep b hb ho:=by
  by_cases e:b=l
  ·subst e; rw [hl4,hl]
  ·have a:=h1.size;rw [e2 b e,h2.keep b (by omega) (fun x=>ho (h1.own b hb x)),e1 b e,h1.keep b hb ho]
 own b hb x:=h1.own b hb (h2.own b (by have a:=h1.size; omega) x)
def qb:I->Bool
 | .call .. | .callv .. | .inv .. | .nx _ | .bin .slNil ..=>false
 | _=>true
theorem wG {P:Program} {c:AO} {sl:Slots} {s:St} {K:AV->St->Prop} (a:qb c.i=true) (h:opW P c sl s K):∃ v s',aO c.i c.md sl s=some (v,s')/\K v s':=by
 unfold opW at h;split at h
 ·rename_i g e b; rw [b] at a; cases a
 ·rename_i d e b; rw [b] at a; cases a
 ·rename_i k d m b; rw [b] at a; cases a
 ·rename_i d b; rw [b] at a; cases a
 ·rename_i l d e b; rw [b] at a; cases a
 ·split at h
  ·rename_i v s' f; exact ⟨v,s',f,h⟩
  ·exact h.elim
theorem iV {P:Program} {F:Fence} {nF:Nat} (C:∀ f,F.fn f) {n:Nat} {md:Tmp->Md} {b:Array Oper} {Q:Exit->Act->World->Prop} {rest:List Oper} (O:∀ (j:Nat) o t,b[j]?=some o->o.dst=some t->t<n) :
  ∀ (os:List Oper) (cs:List AO),os.mapM (cD P n md b)=some cs->cs.all (fun c=>qb c.i)=true->∀ {K:Slots->St->Prop} {sl:Slots} {s:St} {G:Gh} {w:World} {a:Act},aQ P cs K sl s->Sim G s w->RepSl G sl a->n<=a.tmps.size ->
   (∀ q s' g d w',K q s'->Stp G s w g s' w'->Sim g s' w'->RepSl g q d->d.tmps.size=a.tmps.size->d.defers=a.defers->wpListIn F nF P b Q rest d w')->wpListIn F nF P b Q (os++rest) a w
 | [],cs,e,v,K,sl,s,G,w,a,k,H,l,p,D=>by
  simp at e; subst e;exact D sl s G a w k (Stp.refl G s w) H l rfl rfl
 | o::os,cs,e,v,K,sl,s,G,w,a,k,H,l,p,D=>by
  rw [v1] at e;cases y:cD P n md b o with
  | none=>simp [y] at e
  | some c=>
   cases z:os.mapM (cD P n md b) with
   | none=>simp [y,z] at e
   | some cs'=>
    simp [y,z] at e;subst e;rw [yn,q9] at v;obtain ⟨h,ab,ag,bf,ai,bi,bj⟩:=jW y;simp only [aQ] at k;rw [t1];unfold wpListIn;have am:∀ j J t,o.guard=some (j,J)->(b[j]?).bind (·.dst)=some t->t<a.tmps.size:=by
     intro j J t _ m;cases N:b[j]? with
     | none=>simp [N] at m
     | some a3=>simp [N] at m; exact ro (O j a3 t N m) p
    split at k
    ·rename_i M;rw [nZ l am ai M,if_neg (by simp)]
     refine ⟨fun f _=>C f,iV C O os cs' z v.2 k H ?_ (by rw [cT]; exact p) ?_⟩
     ·rw [ab];exact d8 l (fun t m=>ro (ag t m) p) (mt _)
     ·intro q s' g d w' S T U W Y Z;exact D q s' g d w' S T U W (by rw [Y,cT]) (by rw [Z,d5])
    ·rename_i M;rw [nZ l am ai M,if_pos rfl];obtain ⟨bm,bk,R,aa⟩:=wG v.1 k;refine ⟨fun f _=>C f,?_⟩;unfold cOp at h;cases x:aS P o with
     | none=>
      rw [x] at h;simp only [Option.getD_none,xk] at h;rw [<-h] at R;simp [aO,exI,X.ev] at R
     | some i=>
      rw [x] at h;simp only [ym,xk] at h;have ax:aS P o=some c.i:=by rw [x,h]
      have a1:∀ ao,o.op≠.defer ao:=fun ao ap=>by simp [aS,ap] at x
      obtain ⟨a2,J,a',bb,ar,u,a4,a5,a6⟩:=zE ax R H l;rw [Oper.semAt_eq _ _ _ a1,ar];have go:wpListIn F nF P b Q (os++rest) (a.put o.dst J) a':=by
       split at aa
       ·rename_i bo bl a0;obtain ⟨bc,a7,a8,a9⟩:=nY a0 a6 a5;have al:=a4.trans a7;refine iV C O os cs' z v.2 aa.2 a8 ?_ (by rw [cT]; exact p) ?_
        ·rw [ab];exact d8 (l.mono al.le) (fun t m=>ro (ag t m) p) a9
        ·intro q s' g d w' S T U W Y Z;exact D q s' g d w' S (al.trans T) U W (by rw [Y,cT]) (by rw [Z,d5])
       ·exact aa.elim
      cases a2 <;> simp only [vw] at u <;> first
       | (injection u with u; subst u; exact go)
       | (cases u; done)
    ·exact k.elim
theorem tL {P:Program} {n m:Nat} {l:Nat} {f:FuncId} {tmps:Array Value} {a body:Code} {w:World} {R:Ending->World->Prop} (h:RoundIn Fence.wide n P l f tmps a body w R):RoundIn Fence.wide m P l f tmps a body w R:=
 ⟨h.1,fun b c _=>h.2 b c (room_wide _)⟩
theorem zg {P:Program} {n:Nat} {md:Tmp->Md} {l aid bid kid:Nat} {aops bops:Array Oper} {o q:List AO} {a:Loop} {p:Tmp} {sl:Slots} {x:AV} {K:St->Prop}
  (S:aops.toList.mapM (cD P n md aops)=some o) (T:bops.toList.mapM (cD P n md bops)=some q) (a3:o.all (fun c=>qb c.i)=true) (a4:q.all (fun c=>qb c.i)=true)
  (m:a.state=.ready) (u:a.pending=none) (bk:a.assign=.region aid aops false) (bl:a.body=.block kid (.region bid bops false)) (Z:a.params=#[p]) (a2:p<a.tmps.size) (U:n<=a.tmps.size)
  {G:Gh} {s:St} {w:World} {v:Value} (y:Sim G s w) (z:w.heap[l]?=some (.loop a)) (a5:RepSl G sl { tmps:=a.tmps,defers:=[] }) (a6:Rep G x v)
  (ax:aQ P o (fun aa s1=>aQ P q (fun _ H=>K H) aa s1) (put sl (some p) x) s) :
  YieldAt Fence.wide 0 P l #[v] w fun e w'=>e=.returned (.bool true)/\w'.heap[l]?=some (.loop a)/\∃ d s',Stp G s w d s' w'/\Sim d s' w'/\K s':=by
 refine ⟨a.fn,a.tmps.setIfInBounds p v,a.assign,a.body,?_,roundIn_of_wpIn trivial ?_⟩
 ·have:=run_yield (P:=P) (args:=#[v]) z (by rw [Z]; rfl)
  rw [this,Z];simp
 rw [bk];refine wpIn_region_list ?_;have Q:∀ M,(Fence.wide.inRound l).fn M:=fun M=>trivial;have N:=iV (F:=Fence.wide.inRound l) (nF:=0) (rest:=[]) (Q:=Exit.then (fun am bx=>∃ ab,(Instr.beginRound l).run P bx=.ok () ab/\a.body.wpIn (Fence.wide.inRound l) 0 P (roundPost P l fun e w'=>e=.returned (.bool true)/\w'.heap[l]?=some (.loop a)/\∃ d s',Stp G s w d s' w'/\Sim d s' w'/\K s') am ab) (fun _ _ _=>False)) Q (jZ S) aops.toList o S a3 (a:={ tmps:=a.tmps.setIfInBounds p v,defers:=[] }) ax y (d8 a5 (fun b6 D=>by injection D with D; subst D; exact a2) a6) (by simpa using U) ?_
 ·rw [xg] at N; exact N
 intro aa s1 ag bW g a7 W a8 a9 a' b1;have C:=W.obj y z trivial;refine ⟨_,run_beginRound C m,?_⟩;obtain ⟨b,k⟩:∃ b,b=g.putObj l (.loop { a with state:=.busy }):=⟨_,rfl⟩;have J:∀ f,f≠l->b.heap[f]?=g.heap[f]?:=fun f h=>by rw [k]; exact World.putObj_heap_other h
 have bN:b.heap.size=g.heap.size:=by rw [k]; simp
 have a0:b.heap[l]?=some (.loop { a with state:=.busy }):=by rw [k]; exact World.putObj_heap_same (cF C)
 have bj:b.os=g.os/\b.tape=g.tape/\b.output=g.output:=by rw [k]; exact ⟨rfl,rfl,rfl⟩
 rw [<-k,bl];have R:Sim ag s1 b:=a8.off C trivial J;refine wpIn_block (wpIn_region_list ?_);have O:=iV (F:=Fence.wide.inRound l) (nF:=0) (rest:=[]) (Q:=Exit.inBlock kid (roundPost P l fun e w'=>e=.returned (.bool true)/\w'.heap[l]?=some (.loop a)/\∃ d s',Stp G s w d s' w'/\Sim d s' w'/\K s')) Q (jZ T) bops.toList q T a4 a7 R a9 (by rw [a']; simpa using U) ?_
 ·rw [xg] at O; exact O
 intro b5 H ai b0 bt bb Y bc b2 b3 b4;have t:=Y.obj R a0 trivial;refine ⟨_,_,run_endRound none t,rfl,?_,?_⟩
 ·rw [World.putObj_heap_same (cF t)];obtain ⟨bm,bi,ar,bo,bf,al,ao,ap⟩:=a;simp only at m u;subst m; subst u; rfl
 ·have a1:(bt.putObj l (.loop { { a with state:=.busy } with state:=if (none:Option Code).isNone then .ready else .done,pending:=none })).heap[l]?=some (.loop a):=by
   rw [World.putObj_heap_same (cF t)];obtain ⟨bm,bi,ar,bo,bf,al,ao,ap⟩:=a;simp only at m u;subst m; subst u; rfl
  exact ⟨ai,H,Stp.around y z trivial W J bN bj Y (fun f h=>World.putObj_heap_other h) (by simp) ⟨rfl,rfl,rfl⟩ a1,bc.off t trivial (fun f h=>World.putObj_heap_other h),bb⟩
structure YieldOk (P:Program) (G0:Gh) (l:Nat) (rec:Loop) (ok:List AV->AV->Prop) (J:List AV->(Nat->Prop)->St->Prop):Prop where
 frame:∀ {pre D s s'},J pre D s->(∀ k,D k->s'.h k=s.h k)->s.c<=s'.c->J pre D s'
 lt:∀ {pre D s},J pre D s->∀ k,D k->k<s.c
 round:∀ {pre x D G s w v},J pre D s->ok pre x->Sim G s w->G0.Le G->Rep G x v->w.heap[l]?=some (.loop rec) ->
  YieldAt Fence.wide 0 P l #[v] w fun e w'=>e=.returned (.bool true)/\w'.heap[l]?=some (.loop rec)/\∃ G' s',Stp G s w G' s' w'/\Sim G' s' w'/\∃ D',J (pre++[x]) D' s'/\(∀ k,D' k->D k\/(s.c<=k/\k<s'.c))/\∀ k,k<s.c->¬D k->s'.h k=s.h k
theorem sU {P:Program} {n:Nat} {b:Array Oper} {Q:Exit->Act->World->Prop} {rest:List Oper} {o:Oper} {c:Call} {h g f:Tmp} {a:Act} {w:World} {l:Nat} {v:Value} {R:Ending->World->Prop}
  (d:o.op=.call c) (t:c.callee=.value (.tmp h)) (u:c.args=#[.tmp g]) (x:o.dst=some f) (y:o.guard=none) (S:a.eval (.tmp h)=.func (.yield l) #[] #[]) (O:a.eval (.tmp g)=v)
  (D:YieldAt Fence.wide 0 P l #[v] w R) (z:∀ e w',R e w'->e=.returned (.bool true)/\wpListIn Fence.wide n P b Q rest (a.put (some f) (.bool true)) w') :
  wpListIn Fence.wide n P b Q (o::rest) a w:=by
 obtain ⟨p,T,m,body,M,K⟩:=D;have N:Region.wanted o (yielded b a.tmps)=true:=by simp [Region.wanted,y]
 unfold wpListIn;rw [if_pos N];refine ⟨fun U _=>trivial,?_⟩;have J:∀ k,o.op≠.defer k:=fun k e=>by rw [d] at e; cases e
 have G:(execOp a.eval o).run P w=.ok (.round l p T m body) w:=by
  unfold execOp;simp [d,resolve,t,u,S,O,Deferred.ofValue,invoke,M]
 rw [Oper.semAt_eq _ _ _ J,G];rw [Oper.uponIn_round];refine ⟨fun q=>by simp [Fence.wide] at q,(tL K).mono fun e w' C=>?_⟩
 obtain ⟨rfl,H⟩:=z e w' C;simp only [x];exact H
end Go.AM
