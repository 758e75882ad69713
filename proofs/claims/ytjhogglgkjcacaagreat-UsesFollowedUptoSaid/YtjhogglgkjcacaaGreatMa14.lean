/- Part of the claim: see its last text. -/
import Derived.Test.YtjhogglgkjcacaaGreatMa13
import Derived.Orders
set_option linter.all false
namespace Go.AM
def I.xs:I->List X
 | .mv a | .bx a _ | .ld _ a | .nc a | .un _ a | .cv _ a | .fa _ a | .fd _ _ a | .ex a _ | .len _ a | .mi _ a | .rg a | .nx a | .nt a | .cl _ _ a | .ta _ a=>[a]
 | .pk b c e | .mu _ b c e=>[b,c,e]
 | .al _ | .mm=>[]
 | .bd _ f=>f.map (·.2.2)
 | .bs _ _ _ f=>f.map (·.2)
 | .st _ b c | .bin _ _ b c | .ms _ _ _ b c | .ia _ b c | .ix b c | .lk _ _ _ b c | .ap _ _ b c | .cp _ b c | .dl _ b c=>[b,c]
 | .mf _ b c=>b++c
 | .ss a b c=>a::(b.toList++c.toList)
 | .sr _ a b c e=>a::(b.toList++c.toList++e.toList)
 | .mx d | .mn d=>d
 | .call _ d=>d
 | .callv a d=>a::d
 | .inv _ a d=>a::d
theorem ke {l:List X} {sl a:Slots} (h:∀ x∈l,x.ev sl=x.ev a):l.map (·.ev sl)=l.map (·.ev a):=v6 h
theorem nE {o:Option X} {sl a:Slots} (h:∀ x∈o.toList,x.ev sl=x.ev a):o.map (·.ev sl)=o.map (·.ev a):=by
 cases o with
 | none=>rfl
 | some x=>simp [h x (by simp)]
theorem kZ {i:I} {md:Md} {sl e:Slots} {s:St} (h:∀ x∈i.xs,x.ev sl=x.ev e):aO i md sl s=aO i md e s:=by
 cases i <;> simp only [I.xs,se,rd,List.not_mem_nil,or_false,forall_eq_or_imp,forall_eq] at h <;> simp only [aO]
 case bd o d=>
  have:d.map (fun (x:Nat×Nat×X)=>(x.1,x.2.1,x.2.2.ev sl))=d.map (fun (x:Nat×Nat×X)=>(x.1,x.2.1,x.2.2.ev e)):=v6 fun g f=>by rw [h _ (rf.2 ⟨g,f,rfl⟩)]
  simp only [this]
 case bs m o n d=>
  have:d.map (fun (x:Nat×X)=>(x.1,x.2.ev sl))=d.map (fun (x:Nat×X)=>(x.1,x.2.ev e)):=v6 fun g f=>by rw [h _ (rf.2 ⟨g,f,rfl⟩)]
  simp only [this]
 case mf p b c=>rw [ke (l:=b) fun x a=>h x (.inl a),ke (l:=c) fun x a=>h x (.inr a)]
 case ss x b c=>rw [h.1,nE (o:=b) fun x a=>h.2 x (.inl a),nE (o:=c) fun x a=>h.2 x (.inr a)]
 case sr m x b c k=>rw [h.1,nE (o:=b) fun x a=>h.2 x (.inl (.inl a)),nE (o:=c) fun x a=>h.2 x (.inl (.inr a)),nE (o:=k) fun x a=>h.2 x (.inr a)]
 case mv x=>
  have:mvI md x sl=mvI md x e:=by
   unfold mvI;split
   ·rfl
   ·exact h
  rw [this]
 case mx l=>rw [ke h]
 case mn l=>rw [ke h]
 all_goals first | rfl | (rw [h]; done) | (rw [h.1,h.2]; done) | (rw [h.1,h.2.1,h.2.2]; done) | (simp only [h]; done)
def X.slot:X->Option Nat
 | .t n=>some n
 | _=>none
def AO.looks (o:AO):List Nat:=o.i.xs.filterMap X.slot++(match o.grd with | some (a,_)=>[a] | none=>[])
theorem yL {x:X} {sl a:Slots} (h:∀ t,x.slot=some t->sl t=a t):x.ev sl=x.ev a:=by
 cases x with
 | t n=>exact h n rfl
 | c b=>rfl
 | f n=>rfl
def Alike (o:AO) (sl b:Slots):Prop:=∀ a∈o.looks,sl a=b a
theorem Alike.xs {o:AO} {sl a:Slots} (h:Alike o sl a):∀ x∈o.i.xs,x.ev sl=x.ev a:=fun x c=>yL fun d b=>h d (by
 simp only [AO.looks,rd,Es];exact .inl ⟨x,c,b⟩)
theorem Alike.grd {o:AO} {sl a:Slots} (h:Alike o sl a):gdI o.grd sl=gdI o.grd a:=by
 unfold gdI;split
 ·rfl
 ·rename_i c d b;rw [h c (by simp [AO.looks,b])]
theorem wF {P:Program} {o:AO} {sl f:Slots} {s:St} {K:AV->St->Prop} (h:Alike o sl f):opW P o sl s K=opW P o f s K:=by
 have b:=h.xs;unfold opW;split
 ·rename_i g d c;rw [c] at b;simp only [I.xs] at b;unfold dh;rw [ke b];have:d.map (fun a=>norm (a.ev sl))=d.map (fun a=>norm (a.ev f)):=v6 fun a e=>by rw [b a e]
  rw [this]
 ·rename_i a d c;rw [c] at b;simp only [I.xs,se,forall_eq_or_imp] at b;unfold dh;rw [b.1,ke b.2];have:d.map (fun a=>norm (a.ev sl))=d.map (fun a=>norm (a.ev f)):=v6 fun a e=>by rw [b.2 a e]
  rw [this]
 ·rename_i k a m c;rw [c] at b;rw [b a (by simp [I.xs])]
 ·rename_i a c;rw [c] at b;rw [b a (by simp [I.xs])]
 ·rename_i l a d c;rw [c] at b;simp only [I.xs,se,forall_eq_or_imp] at b;unfold dh;rw [b.1,ke b.2];have:d.map (fun a=>norm (a.ev sl))=d.map (fun a=>norm (a.ev f)):=v6 fun a e=>by rw [b.2 a e]
  rw [this]
 ·rw [kZ b]
theorem iU {P:Program} {o:AO} {sl:Slots} {s:St} {K b:AV->St->Prop} (h:opW P o sl s K) (a:∀ v s',K v s'->b v s'):opW P o sl s b:=by
 unfold opW at *;split at h
 ·exact h.mono fun v s' _=>a v s'
 ·split at h
  ·exact ACalls.mono h fun v s' _=>a v s'
  ·exact h
 ·unfold lK at *;refine ⟨h.1,?_⟩;have h:=h.2;split at h
  ·exact a _ _ h
  ·exact a _ _ h
  ·exact ⟨a _ _ h.1,a _ _ h.2⟩
  ·exact ⟨a _ _ h.1,a _ _ h.2⟩
  ·exact a _ _ h
  ·exact h
 ·unfold nxW at *;split at h
  ·split at h
   ·split at h
    ·exact ⟨h.1,fun e=>a _ _ (h.2.1 e),fun i f c d=>a _ _ (h.2.2 i f c d)⟩
    ·exact h
   ·exact h
  ·exact h
 ·split at h
  ·split at h
   ·exact ACalls.mono h fun v s' _=>a v s'
   ·split at h
    ·exact ACalls.mono h fun v s' _=>a v s'
    ·exact h
   ·exact h
  ·exact h
 ·split at h
  ·exact a _ _ h
  ·exact h
def dD:I->Bool
 | .bin .slNil _ _ _=>false
 | .mv _ | .pk .. | .bd .. | .bs .. | .nc _ | .bin .. | .un .. | .mf .. | .ss .. | .sr .. | .fa .. | .fd .. | .ia .. | .ix .. | .ex .. | .mx _ | .mn _ | .mi ..=>true
 | .cv .b2s _=>false
 | .cv ..=>true
 | .len 2 _=>false
 | .len ..=>true
 | _=>false
def iA:I->Bool
 | .ld .. | .lk .. | .nt _=>true
 | .cv .b2s _=>true
 | .len 2 _=>true
 | _=>false
theorem kI {i:I} (d:dD i=true) {sl:Slots} {s s':St} {v:AV} (h:aO i .plain sl s=some (v,s')):s'=s/\∀ s1,aO i .plain sl s1=some (v,s1):=by
 have k:∀ {c:Option AV},c.map (·,s)=some (v,s')->s'=s/\∀ s1:St,c.map (·,s1)=some (v,s1):=by
  intro c t;obtain ⟨l,b,a⟩:=ay t;injection a with a o;exact ⟨o.symm,fun s1=>by rw [b,<-a]; rfl⟩
 cases i <;> (try simp only [dD] at d) <;> first | (cases d; done) | skip
 case mv c=>simp only [aO] at h ⊢; injection h with h; injection h with b a; subst b; subst a; exact ⟨rfl,fun _=>rfl⟩
 case pk u m l=>
  simp only [aO] at h ⊢;split at h
  ·injection h with h; injection h with b a; subst b; subst a; exact ⟨rfl,fun _=>rfl⟩
  ·cases h
 case bs C G n z=>
  simp only [aO,bsI] at h ⊢;split at h
  ·rename_i p;split at h
   ·rename_i w y;rw [if_neg (by simp)] at h
    injection h with h; injection h with b a; subst b; subst a;exact ⟨rfl,fun s1=>by rw [if_pos p]; simp⟩
   ·cases h
  ·cases h
 case nc c=>
  simp only [aO] at h ⊢;split at h <;> first
   | (injection h with h; injection h with b a; subst b; subst a; exact ⟨rfl,fun _=>rfl⟩)
   | cases h
 case mf x m l=>simp only [aO] at h ⊢; injection h with h; injection h with b a; subst b; subst a; exact ⟨rfl,fun _=>rfl⟩
 case mi D c=>
  simp only [aO] at h ⊢;split at h
  ·rename_i q;injection h with h; injection h with b a; subst b; subst a;exact ⟨rfl,fun _=>by rw [if_pos q]⟩
  ·cases h
 case cv f c=>
  cases f <;> simp only [dD] at d <;> first | (cases d; done) | skip
  all_goals
   simp only [aO] at h ⊢;obtain ⟨b,a⟩:=k h;refine ⟨b,fun s1=>?_⟩;have:=a s1;subst b;rw [show ∀ g,g≠CK.b2s->cvI g (c.ev sl) s1=cvI g (c.ev sl) s' from fun g e=>by unfold cvI; split <;> first | rfl | (exact absurd rfl e)]
   ·exact a s1
   ·intro e; cases e
 case len f c=>
  simp only [aO] at h ⊢;obtain ⟨b,a⟩:=k h;refine ⟨b,fun s1=>?_⟩;have:=a s1;subst b;have e:f≠2:=by rintro rfl; simp [dD] at d
  have:eL f (c.ev sl) s1=eL f (c.ev sl) s':=by
   unfold eL;split <;> first | rfl | (exact absurd rfl e)
  rw [this]; exact a s1
 all_goals (simp only [aO] at h ⊢; exact k h)
theorem rt {i:I} (b:iA i=true) {sl:Slots} {s s':St} {v:AV} (h:aO i .plain sl s=some (v,s')):s'=s:=by
 have f:∀ {c:Option AV},c.map (·,s)=some (v,s')->s'=s:=by
  intro c e;obtain ⟨g,k,a⟩:=ay e;injection a with a d;exact d.symm
 cases i <;> simp only [iA] at b <;> first | (cases b; done) | skip
 all_goals (simp only [aO] at h; exact f h)
def AO.quiet (o:AO):Bool:=o.md==.plain&&o.re.isEmpty&&(dD o.i||iA o.i)
def jr (a:AO) (sl:Slots) (s:St):Option AV:=match gdI a.grd sl with
 | some false=>some (.tup [])
 | some true=>(aO a.i .plain sl s).map (·.1)
 | none=>none
theorem dG {i:I} (h:(dD i||iA i)=true):(∀ f a,i≠.call f a)/\(∀ x a,i≠.callv x a)/\(∀ op x y,i≠.bin .slNil op x y)/\(∀ x,i≠.nx x)/\∀ b x a,i≠.inv b x a:=by
 refine ⟨?_,?_,?_,?_,?_⟩
 ·rintro f a rfl; simp [dD,iA] at h
 ·rintro x a rfl; simp [dD,iA] at h
 ·rintro op x y rfl; simp [dD,iA] at h
 ·rintro x rfl; simp [dD,iA] at h
 ·rintro b x a rfl; simp [dD,iA] at h
theorem vi {P:Program} {a:AO} (l:a.quiet=true) {r:List AO} {K:Slots->St->Prop} {sl:Slots} {s:St}:aQ P (a::r) K sl s↔∃ v,jr a sl s=some v/\aQ P r K (put sl a.dst v) s:=by
 simp only [AO.quiet,q9,beq_iff_eq,y9] at l;obtain ⟨⟨k,q⟩,d⟩:=l;simp only [aQ,jr];cases z:gdI a.grd sl with
 | none=>simp
 | some o=>
  cases o with
  | false=>simp
  | true=>
   simp only;have t:∀ f:AV->St->Prop,opW P a sl s f↔match aO a.i .plain sl s with | some (v,h)=>f v h | none=>False:=by
    intro f;unfold opW;split
    ·rename_i p e b; exact absurd b ((dG d).1 p e)
    ·rename_i c e b; exact absurd b ((dG d).2.1 c e)
    ·rename_i u c y b; exact absurd b ((dG d).2.2.1 u c y)
    ·rename_i c b; exact absurd b ((dG d).2.2.2.1 c)
    ·rename_i x c e b; exact absurd b ((dG d).2.2.2.2 x c e)
    ·rw [k]; exact Iff.rfl
   rw [t];cases m:aO a.i .plain sl s with
   | none=>simp
   | some w=>
    obtain ⟨v,h⟩:=w;have:h=s:=by
     rcases (by simpa using d:dD a.i=true\/iA a.i=true) with g | g
     ·exact (kI g m).1
     ·exact rt g m
    subst this;simp [k,q,dt]
def js:List AO->Slots->St->Option Slots
 | [],a,s=>some a
 | b::r,a,s=>match jr b a s with
  | some c=>js r (put a b.dst c) s
  | none=>none
theorem jn {P:Program}:∀ (A:List AO) (b:∀ a∈A,a.quiet=true) {r:List AO} {K:Slots->St->Prop} {sl:Slots} {s:St},aQ P (A++r) K sl s↔∃ c,js A sl s=some c/\aQ P r K c s
 | [],_,r,K,sl,s=>by simp [js]
 | a::A,b,r,K,sl,s=>by
  rw [t1,vi (b a (by simp))]
  simp only [js];cases e:jr a sl s with
  | none=>simp
  | some f=>
   simp only [xk,exists_eq_left'];exact jn A (fun a d=>b a (by simp [d]))
theorem vk {a:AO} {sl b:Slots} {s:St} (h:Alike a sl b):jr a sl s=jr a b s:=by
 unfold jr;rw [h.grd,kZ h.xs]
def apart (x y:AO):Bool:=
 (match x.dst with | some a=>!y.looks.contains a&&y.dst != some a | none=>true)&&(match y.dst with | some a=>!x.looks.contains a | none=>true)
theorem oh {x y:AO} (h:apart x y=true) {sl:Slots} {v:AV}:Alike y (put sl x.dst v) sl/\Alike x (put sl y.dst v) sl:=by
 simp only [apart,q9] at h;constructor
 ·intro d c;cases b:x.dst with
  | none=>rfl
  | some a=>
   rw [b] at h;have:d≠a:=by
    rintro rfl;have:=h.1;simp at this;exact this.1 c
   simp [put,this]
 ·intro d c;cases b:y.dst with
  | none=>rfl
  | some a=>
   rw [b] at h;have:d≠a:=by
    rintro rfl;have:=h.2;simp at this;exact this c
   simp [put,this]
theorem vE {x y:AO} (h:apart x y=true):∀ a,x.dst=some a->y.dst≠some a:=by
 intro a b;simp only [apart,q9,b] at h;have:=h.1;simp at this;exact this.2
theorem ze {sl:Slots} {a e:Option Nat} (h:∀ t,a=some t->e≠some t) (f v:AV):put (put sl a f) e v=put (put sl e v) a f:=by
 cases a with
 | none=>rfl
 | some a=>
  cases e with
  | none=>rfl
  | some e=>
   have c:a≠e:=by rintro rfl; exact h a rfl rfl
   funext d;simp only [put];by_cases b:d=e
   ·by_cases g:d=a
    ·exact absurd (g.symm.trans b) c
    ·simp [b,s4 c]
   ·simp [b]
theorem Alike.trans {o:AO} {a b c:Slots} (h:Alike o a b) (k:Alike o b c):Alike o a c:=fun e d=>(h e d).trans (k e d)
theorem Alike.symm {o:AO} {a b:Slots} (h:Alike o a b):Alike o b a:=fun d c=>(h d c).symm
theorem kl {x:AO} {s:St} {v:AV}:∀ (A:List AO) (c:∀ e∈A,apart e x=true) {sl b:Slots},js A sl s=some b->js A (put sl x.dst v) s=some (put b x.dst v)/\Alike x b sl
 | [],_,sl,b,a=>by simp [js] at a; subst a; exact ⟨rfl,fun _ _=>rfl⟩
 | e::A,c,sl,b,a=>by
  have d:=c e (by simp)
  simp only [js] at a ⊢;have h:=oh d (sl:=sl) (v:=v);rw [vk h.2];split at a
  ·rename_i m o;obtain ⟨f,g⟩:=kl (x:=x) (v:=v) A (fun l k=>c l (by simp [k])) a
   rw [ze (vE d)] at f;exact ⟨f,g.trans (oh d (sl:=sl) (v:=m)).1⟩
  ·cases a
def d7 (x y:AO):Bool:=dD x.i||(match y.dst with | some a=>!x.looks.contains a&&x.dst != some a | none=>true)
def my (x:AO):Bool:=dD x.i||(match x.dst with | some a=>!x.looks.contains a | none=>false)
theorem rz {s s1:St}:∀ (A:List AO) (v:∀ a∈A,a.quiet=true/\my a=true) (o:A.Pairwise fun x y=>d7 x y=true) {sl f:Slots},js A sl s=some f ->
  (∀ a∈A,dD a.i=true\/∃ g,a.dst=some g/\fG (g,a.grd,a.i) f s1) ->
  js A sl s1=some f/\∀ t,(∀ a∈A,a.dst≠some t)->f t=sl t
 | [],_,_,sl,f,h,_=>by simp [js] at h; subst h; exact ⟨rfl,fun _ _=>rfl⟩
 | a::A,v,o,sl,f,h,D=>by
  obtain ⟨P,z⟩:=v a (by simp)
  simp only [AO.quiet,q9,beq_iff_eq] at P;rw [w5] at o;simp only [js] at h ⊢;split at h
  ·rename_i G c;obtain ⟨H,u⟩:=rz A (fun b e=>v b (by simp [e])) o.2 h (fun b e=>D b (by simp [e]))
   have K:∀ t,(∀ b∈a::A,b.dst≠some t)->f t=sl t:=by
    intro t p;rw [u t fun b e=>p b (by simp [e])]
    cases l:a.dst with
    | none=>rfl
    | some g=>
     have:t≠g:=by rintro rfl; exact p a (by simp) l
     simp [put,this]
   refine ⟨?_,K⟩;have R:jr a sl s1=some G:=by
    rcases D a (by simp) with m | ⟨g,l,Q⟩
    ·unfold jr at c ⊢;split at c
     ·exact c
     ·cases d:aO a.i .plain sl s with
      | none=>simp [d] at c
      | some b=>
       obtain ⟨T,S⟩:=b;simp [d] at c; subst c;rw [(kI m d).2 s1]; rfl
     ·cases c
    ·by_cases m:dD a.i=true
     ·unfold jr at c ⊢;split at c
      ·exact c
      ·cases d:aO a.i .plain sl s with
       | none=>simp [d] at c
       | some b=>
        obtain ⟨T,S⟩:=b;simp [d] at c; subst c;rw [(kI m d).2 s1]; rfl
      ·cases c
     ·
      have w:Alike a f sl:=by
       intro t p;by_cases C:∃ b∈A,b.dst=some t
       ·obtain ⟨b,N,O⟩:=C;have:=o.1 b N;simp only [d7,O,m,w0] at this;simp at this;exact absurd p this.1
       ·have M:t≠g:=by
         rintro rfl;simp only [my,l,m,w0] at z;simp at z;exact z p
        rw [u t fun b e q=>C ⟨b,e,q⟩];simp [put,l,M]
      have J:f g=G:=by
       rw [u g fun b e q=>?_]
       ·simp [put,l]
       ·have:=o.1 b e;simp only [d7,q,m,w0] at this;simp [l] at this
      rcases Q with k | ⟨k,d⟩
      ·simp only at k;unfold jr at c ⊢;rw [w.grd] at k;rw [k] at c ⊢;exact c
      ·simp only at k d;rw [w.grd] at k;rw [kZ w.xs,J] at d;unfold jr;rw [k,d]; rfl
   rw [R];exact H
  ·cases h
theorem mo {P:Program} {A B:List AO} {x:AO} (l:∀ a∈A,a.quiet=true/\my a=true/\apart a x=true) (Q:A.Pairwise fun x y=>d7 x y=true)
  (t:x.quiet=true\/∀ a∈A,dD a.i=true\/∃ k,a.dst=some k/\(k,a.grd,a.i)∈x.re) {K:Slots->St->Prop} {sl:Slots} {s:St} (h:aQ P (A++x::B) K sl s) :
  match gdI x.grd sl with
  | some false=>aQ P (A++B) K (put sl x.dst (.tup [])) s
  | some true=>opW P x sl s fun v s'=>match dt x.md v s' with
   | some (v',g)=>aQ P (A++B) K (put sl x.dst v') g
   | none=>False
  | none=>False:=by
 have o:∀ a∈A,a.quiet=true:=fun a e=>(l a e).1;have m:∀ a∈A,apart a x=true:=fun a e=>(l a e).2.2;obtain ⟨W,p,c⟩:=(jn A o).1 h;have C:Alike x W sl:=(kl (v:=.tup []) A m p).2;simp only [aQ] at c;rw [C.grd] at c;cases D:gdI x.grd sl with
 | none=>rw [D] at c; exact c.elim
 | some H=>
 rw [D] at c;cases H
 ·simp only at c ⊢;exact (jn A o).2 ⟨_,(kl (v:=.tup []) A m p).1,c⟩
 ·simp only at c ⊢;rw [wF C] at c;rcases t with d | t
  ·
   have ag:=d;simp only [AO.quiet,q9,beq_iff_eq] at d;unfold opW at c ⊢;split
   ·rename_i G f b; exact absurd b ((dG d.2).1 _ _)
   ·rename_i y f b; exact absurd b ((dG d.2).2.1 _ _)
   ·rename_i U y f b; exact absurd b ((dG d.2).2.2.1 _ _ _)
   ·rename_i y b; exact absurd b ((dG d.2).2.2.2.1 _)
   ·rename_i Y y f b; exact absurd b ((dG d.2).2.2.2.2 _ _ _)
   ·rename_i i z Z aa ab;split at c
    ·rename_i G f b; exact absurd b ((dG d.2).1 _ _)
    ·rename_i y f b; exact absurd b ((dG d.2).2.1 _ _)
    ·rename_i U y f b; exact absurd b ((dG d.2).2.2.1 _ _ _)
    ·rename_i y b; exact absurd b ((dG d.2).2.2.2.1 _)
    ·rename_i Y y f b; exact absurd b ((dG d.2).2.2.2.2 _ _ _)
    ·split at c
     ·rename_i v s' u;have T:s'=s:=by
       rw [d.1.1] at u;rcases (by simpa using d.2:dD x.i=true\/iA x.i=true) with q | q
       ·exact (kI q u).1
       ·exact rt q u
      subst T;show match dt x.md v s' with | some (v',g)=>aQ P (A++B) K (put sl x.dst v') g | none=>False
      simp only [d.1.1,dt] at c ⊢;exact (jn A o).2 ⟨_,(kl A m p).1,c.2⟩
     ·exact c.elim
  ·refine iU c fun v s' w=>?_;split at w
   ·rename_i v' g N;obtain ⟨S,J⟩:=w;obtain ⟨z,_⟩:=rz (s1:=g) A (fun a e=>⟨(l a e).1,(l a e).2.1⟩) Q p fun a e=>by
     rcases t a e with R | ⟨k,M,O⟩
     ·exact .inl R
     ·exact .inr ⟨k,M,S _ O⟩
    show match dt x.md v s' with | some (v',g)=>aQ P (A++B) K (put sl x.dst v') g | none=>False
    simp only [N];exact (jn A o).2 ⟨_,(kl A m z).1,J⟩
   ·exact w.elim
end Go.AM
