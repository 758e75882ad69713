/- Part of the claim: see its last text. -/
import Derived.Test.YtjhogglgkjcacaaGreatMa18
set_option linter.all false
namespace Go.Wb
open Go.AM
structure Array where
 key:ByteArray
 sizes:List Int
structure Term where
 name:ByteArray
 coef:Int
structure Form where
 const:Int
 terms:List Term
structure Bound where
 form:Form
 div:Int
inductive Expr where
 | mk (op n:Int) (form:Form) (array:ByteArray) (subs:List Form) (args:List Expr)
inductive Step where
 | mk (kind:Int) (name:ByteArray) (low high:List Bound) (conds:List Form) (body:List Step) (array:ByteArray) (subs:List Form) (expr:Expr)
structure Prog where
 arrays:List Array
 steps:List Step
structure Spot where
 array:ByteArray
 cell:Int
abbrev row (l:List (List AV)):AV:=.sl l false
def an (l:List Int):List (List AV):=l.map fun n=>[.int n]
def ak (l:List ByteArray):List (List AV):=l.map fun s=>[.str s]
def bz (l:List Bool):List (List AV):=l.map fun a=>[.bool a]
def Array.cells (a:Array):List AV:=[.str a.key,row (an a.sizes)]
def Term.cells (t:Term):List AV:=[.str t.name,.int t.coef]
def Form.cells (f:Form):List AV:=[.int f.const,row (f.terms.map Term.cells)]
def Bound.cells (b:Bound):List AV:=[.int b.form.const,row (b.form.terms.map Term.cells),.int b.div]
def Spot.cells (s:Spot):List AV:=[.str s.array,.int s.cell]
mutual
def Expr.cells:Expr->List AV
 | .mk op n form array subs args=>[.int op,.int n,.int form.const,row (form.terms.map Term.cells),.str array,row (subs.map Form.cells),row (Expr.list args)]
def Expr.list:List Expr->List (List AV)
 | []=>[]
 | e::es=>Expr.cells e::Expr.list es
end
mutual
def Step.cells:Step->List AV
 | .mk kind name low high conds body array subs expr=>[.int kind,.str name,row (low.map Bound.cells),row (high.map Bound.cells),row (conds.map Form.cells),row (Step.list body),.str array,row (subs.map Form.cells)]++expr.cells
def Step.list:List Step->List (List AV)
 | []=>[]
 | e::es=>Step.cells e::Step.list es
end
theorem Expr.list_map:∀ l,Expr.list l=l.map Expr.cells
 | []=>rfl
 | b::a=>by rw [Expr.list,Expr.list_map a]; rfl
theorem Step.list_map:∀ l,Step.list l=l.map Step.cells
 | []=>rfl
 | b::a=>by rw [Step.list,Step.list_map a]; rfl
def Form.av (f:Form):AV:=.agg f.cells
def Bound.av (b:Bound):AV:=.agg b.cells
def Expr.av (e:Expr):AV:=.agg e.cells
def Step.av (e:Step):AV:=.agg e.cells
def Array.av (a:Array):AV:=.agg a.cells
def Prog.av (p:Prog):AV:=.agg [row (p.arrays.map Array.cells),row (p.steps.map Step.cells)]
theorem cu {a:Type} {f:a->List AV} (h:∀ x,br (f x)=f x):∀ l:List a,aP (l.map f)=l.map f
 | []=>rfl
 | x::l=>by simp [aP,h x,cu h l]
@[simp] theorem El (v:Value):norm (.sc v)=.sc v:=rfl
@[simp] theorem Dp (l:List (List AV)):norm (row l)=row (aP l):=rfl
@[simp] theorem vg (l:List Int):aP (an l)=an l:=cu (fun _=>rfl) l
@[simp] theorem eE (l:List ByteArray):aP (ak l)=ak l:=cu (fun _=>rfl) l
@[simp] theorem oG (l:List Bool):aP (bz l)=bz l:=cu (fun _=>rfl) l
@[simp] theorem oI (l:List Term):aP (l.map Term.cells)=l.map Term.cells:=cu (fun _=>rfl) l
@[simp] theorem um (a:Array):br a.cells=a.cells:=by simp [Array.cells,br]
@[simp] theorem qa (a:Form):br a.cells=a.cells:=by simp [Form.cells,br]
@[simp] theorem uo (a:Bound):br a.cells=a.cells:=by simp [Bound.cells,br]
@[simp] theorem vh (a:Spot):br a.cells=a.cells:=by simp [Spot.cells,br]
@[simp] theorem oH (l:List Form):aP (l.map Form.cells)=l.map Form.cells:=cu qa l
@[simp] theorem tD (l:List Bound):aP (l.map Bound.cells)=l.map Bound.cells:=cu uo l
@[simp] theorem kf (l:List Array):aP (l.map Array.cells)=l.map Array.cells:=cu um l
mutual
theorem jB:∀ e:Expr,br e.cells=e.cells
 | .mk op n form array subs args=>by simp [Expr.cells,br,lF args]
theorem lF:∀ l:List Expr,aP (Expr.list l)=Expr.list l
 | []=>rfl
 | e::es=>by simp [Expr.list,aP,jB e,lF es]
end
mutual
theorem ml:∀ e:Step,br e.cells=e.cells
 | .mk kind name low high conds body array subs expr=>by simp [Step.cells,br,lH body,jB expr]
theorem lH:∀ l:List Step,aP (Step.list l)=Step.list l
 | []=>rfl
 | e::es=>by simp [Step.list,aP,ml e,lH es]
end
attribute [simp] jB ml
@[simp] theorem kS (l:List Step):aP (l.map Step.cells)=l.map Step.cells:=cu ml l
@[simp] theorem ul (l:List Expr):aP (l.map Expr.cells)=l.map Expr.cells:=cu jB l
@[simp] theorem CP (f:Form):norm f.av=f.av:=by simp [Form.av,norm]
@[simp] theorem Cb (f:Bound):norm f.av=f.av:=by simp [Bound.av,norm]
@[simp] theorem CO (f:Expr):norm f.av=f.av:=by simp [Expr.av,norm]
@[simp] theorem CU (f:Step):norm f.av=f.av:=by simp [Step.av,norm]
@[simp] theorem Ca (f:Array):norm f.av=f.av:=by simp [Array.av,norm]
@[simp] theorem CR (f:Prog):norm f.av=f.av:=by simp [Prog.av,norm,br]
end Go.Wb
namespace Go.AM
mutual
def small:AV->Prop
 | .agg cs=>fR cs
 | .tup cs=>fR cs
 | .sl es _=>es.length<=68719476736/\qf es
 | _=>True
def fR:List AV->Prop
 | []=>True
 | v::vs=>small v/\fR vs
def qf:List (List AV)->Prop
 | []=>True
 | e::es=>fR e/\qf es
end
theorem jq:∀ {cs:List AV},(∀ (j:Nat) (c:AV),cs[j]?=some c->small c)->fR cs
 | [],_=>trivial
 | c::cs,a=>⟨a 0 c rfl,jq fun j b d=>a (j+1) b (by simpa using d)⟩
theorem rB:∀ {es:List (List AV)},(∀ (i:Nat) (e:List AV) (j:Nat) (c:AV),es[i]?=some e->e[j]?=some c->small c)->qf es
 | [],_=>trivial
 | e::es,b=>⟨jq fun j c a=>b 0 e j c rfl a,rB fun i f j c d a=>b (i+1) f j c (by simpa using d) a⟩
theorem Rep.small {G:Gh} {a:AV} {v:Value} (h:Rep G a v):small a:=by
 induction h with
 | agg k d g _ c=>
  refine jq fun j e b=>?_;have f:j<d.size:=by rw [<-g]; exact (q4.1 b).1
  exact c j e d[j] b (rm f)
 | tup k d g _ c=>
  refine jq fun j e b=>?_;have f:j<d.size:=by rw [<-g]; exact (q4.1 b).1
  exact c j e d[j] b (rm f)
 | sl p t a o m z C q b w u y x _ l c=>exact ⟨l,rB c⟩
 | _=>simp [AM.small]
theorem RepL.small {G:Gh} {a:List AV} {vs:List Value} (h:RepL G a vs):fR a:=jq fun j d b=>by
 obtain ⟨e,_,c⟩:=h.get b;exact c.small
theorem ACalls.small {P:Program} {f:FuncId} {args:List AV} {s:St} {R:AV->St->Prop} (h:fR args->ACalls P f args s R):ACalls P f args s R:=
 fun b e d c a=>h a.small b e d c a
@[simp] theorem Ci:fR []=True:=q6 rfl rfl
@[simp] theorem Bp {v:AV} {vs:List AV}:fR (v::vs)=(small v/\fR vs):=q6 rfl rfl
@[simp] theorem DC {v:Value}:small (.sc v)=True:=q6 rfl rfl
@[simp] theorem C2 {cs:List AV}:small (.agg cs)=fR cs:=q6 rfl rfl
@[simp] theorem DD {es:List (List AV)} {b:Bool}:small (.sl es b)=(es.length<=68719476736/\qf es):=q6 rfl rfl
@[simp] theorem C4 {g e o:Nat}:small (.ptr g e o)=True:=q6 rfl rfl
@[simp] theorem DE {cs:List AV} {o:Nat}:small (.zp cs o)=True:=q6 rfl rfl
@[simp] theorem C5 {g z o n:Nat}:small (.row g z o n)=True:=q6 rfl rfl
@[simp] theorem C3 {g:Nat}:small (.map g)=True:=q6 rfl rfl
@[simp] theorem DB {f:Fn} {a b:List AV}:small (.fn f a b)=True:=q6 rfl rfl
def ir (l:List AO):List Nat:=l.filterMap (·.dst)
def AC.wr:AC->List Nat
 | .ops c=>ir c
 | .roam a pre d=>ir (a::(pre.map (·.2)++d))
 | .seq a b=>a.wr++b.wr
 | .cond _ a b=>a.wr++b.wr
 | .block _ a=>a.wr
 | .loop a=>a.wr
 | _=>[]
theorem rr {sl:Slots} {a:Option Nat} {v:AV} {t:Nat} (h:a≠some t):put sl a v t=sl t:=by
 unfold put;split
 ·rename_i a; exact if_neg fun b=>h (by rw [b])
 ·rfl
theorem jJ {o:AO} {r:List AO} {t:Nat} (h:t∉ir (o::r)):o.dst≠some t/\t∉ir r:=by
 unfold ir at *;rw [D1] at h;split at h
 ·rename_i a; exact ⟨by rw [a]; simp,h⟩
 ·rename_i b a;simp only [se,not_or] at h;exact ⟨by rw [a]; simpa using s4 h.1,h.2⟩
theorem jM {P:Program}:∀ (l:List AO) {K:Slots->St->Prop} {sl:Slots} {s:St},aQ P l K sl s->aQ P l (fun e s'=>K e s'/\∀ t,t∉ir l->e t=sl t) sl s
 | [],_,_,_,a=>⟨a,fun _ _=>rfl⟩
 | f::r,_,_,_,a=>by
  simp only [aQ] at a ⊢;split at a
  ·exact dL r (jM r a) fun e s' c=>⟨c.1,fun t b=>by rw [c.2 t (jJ b).2,rr (jJ b).1]⟩
  ·refine iU a fun g s' d=>?_;split at d
   ·exact ⟨d.1,dL r (jM r d.2) fun e s' c=>⟨c.1,fun t b=>by rw [c.2 t (jJ b).2,rr (jJ b).1]⟩⟩
   ·exact d
  ·exact a
theorem pv {P:Program} {a:AO} {post:List AO}:∀ (r:List (Bool×AO)) {K:Slots->St->Prop} {sl:Slots} {s:St},cE P a post K r sl s ->
  cE P a post (fun g s'=>K g s'/\∀ t,t∉ir (a::(r.map (·.2)++post))->g t=sl t) r sl s
 | [],_,_,_,f=>jM _ f
 | (m,b)::r,_,_,_,f=>by
  have c:∀ t,t∉ir (a::(List.map (·.2) ((m,b)::r)++post))->t∉ir (a::(r.map (·.2)++post))/\t∉ir [b]/\t∉ir (a::b::(r.map (·.2)++post)):=by
   intro t d;have k:=jJ d;have h:=jJ k.2;refine ⟨?_,?_,d⟩
   ·unfold ir; rw [D1]; split
    ·exact h.2
    ·rename_i o c; rw [se,not_or]; exact ⟨fun b=>k.1 (by rw [c,b]),h.2⟩
   ·unfold ir; rw [D1]; split
    ·simp
    ·rename_i o c; simp; exact fun b=>h.1 (by rw [c,b])
  refine ⟨fun p=>?_,?_⟩
  ·exact dL _ (jM _ (f.1 p)) fun g s' e=>⟨e.1,fun t d=>e.2 t (c t d).2.2⟩
  ·exact dL _ (jM _ f.2) fun g s' e=>jD r (pv r e.1) fun u q l=>⟨l.1,fun t d=>by rw [l.2 t (c t d).1,e.2 t (c t d).2.1]⟩
theorem ip {P:Program}:∀ (a:AC) {Q:Ex->Slots->St->Prop} {sl:Slots} {s:St},acW P a Q sl s->acW P a (fun e k s'=>Q e k s'/\∀ t,t∉a.wr->k t=sl t) sl s
 | .skip,_,_,_,b=>⟨b,fun _ _=>rfl⟩
 | .ops D,_,_,_,b=>jM D b
 | .roam a pre H,_,_,_,b=>pv pre b
 | .seq a l,Q,sl,s,b=>by
  simp only [acW] at b ⊢;refine bT a (ip a b) fun e h m c=>?_;obtain ⟨c,f⟩:=c;have u:∀ t,t∉(AC.seq a l).wr->h t=sl t:=fun t d=>f t fun b=>d (by simp [AC.wr,b])
  cases e with
  | normal=>exact bT l (ip l c) fun e v w g=>⟨g.1,fun t d=>by rw [g.2 t fun b=>d (by simp [AC.wr,b]),u t d]⟩
  | exit id=>exact ⟨c,u⟩
  | ret=>exact ⟨c,u⟩
 | .cond G a l,Q,sl,s,b=>by
  simp only [acW] at b ⊢;split at b
  ·rename_i t d;split at b
   ·rename_i p; rw [if_pos p];exact bT a (ip a b) fun e k s' g=>⟨g.1,fun t d=>g.2 t fun b=>d (by simp [AC.wr,b])⟩
   ·rename_i p; rw [if_neg p];exact bT l (ip l b) fun e k s' g=>⟨g.1,fun t d=>g.2 t fun b=>d (by simp [AC.wr,b])⟩
  ·exact b
 | .block id a,Q,sl,s,b=>by
  simp only [acW] at b ⊢;refine bT a (ip a b) fun e h m c=>?_;obtain ⟨c,f⟩:=c;cases e with
  | normal=>exact ⟨c,f⟩
  | exit i=>
   simp only at c ⊢;split at c
   ·rename_i q; rw [if_pos q]; exact ⟨c,f⟩
   ·rename_i q; rw [if_neg q]; exact ⟨c,f⟩
  | ret=>exact ⟨c,f⟩
 | .loop a,Q,sl,s,b=>by
  simp only [acW] at b ⊢;obtain ⟨n,y⟩:=b;refine ⟨n,?_⟩;have C:∀ n h m,(∀ t,t∉a.wr->h t=sl t)->fV (acW P a) Q n h m->fV (acW P a) (fun e k s'=>Q e k s'/\∀ t,t∉a.wr->k t=sl t) n h m:=by
   intro n
   induction n with
   | zero=>intro h m _ b; exact b
   | succ n z=>
    intro h m x b;simp only [fV] at b ⊢;refine bT a (ip a b) fun e v w c=>?_;obtain ⟨c,f⟩:=c;have o:∀ t,t∉a.wr->v t=sl t:=fun t d=>by rw [f t d,x t d]
    cases e with
    | normal=>exact z v w o c
    | exit id=>exact ⟨c,o⟩
    | ret=>exact ⟨c,o⟩
  exact C n sl s (fun _ _=>rfl) y
 | .exit id,_,_,_,b=>⟨b,fun _ _=>rfl⟩
 | .ret,_,_,_,b=>⟨b,fun _ _=>rfl⟩
def ov (W:List Nat) (sl v:Slots):Slots:=fun a=>if W.elem a=true then v a else sl a
@[simp] theorem ov_get {W:List Nat} {sl v:Slots} {t:Nat}:ov W sl v t=if W.elem t=true then v t else sl t:=q6 rfl rfl
theorem rU {W:List Nat} {sl v:Slots} (h:∀ t,t∉W->v t=sl t):ov W sl v=v:=by
 funext t;unfold ov;split
 ·rfl
 ·rename_i a; exact (h t (by simpa using a)).symm
def iH (a W:List Nat):Bool:=a.all (W.elem ·)
theorem kN {a W:List Nat} (h:iH a W=true) {t:Nat} (c:t∉W):t∉a:=by
 intro b;have:=rx.1 h t b;simp at this;exact c this
theorem cJ {P:Program} {a:AC} {Q:Ex->Slots->St->Prop} (W:List Nat) (o:iH a.wr W=true) (d:Nat->Slots->St->Prop) (n:Nat) {sl:Slots} {s:St} (l:d n sl s)
  (x:∀ n v s,d n (ov W sl v) s->acW P a (fJ (fun f s'=>∃ m,m<n/\d m f s') Q) (ov W sl v) s):acW P (.loop a) Q sl s:=by
 refine lU (fun n f s'=>d n f s'/\∀ b,b∉W->f b=sl b) n ⟨l,fun _ _=>rfl⟩ ?_;rintro n w u ⟨g,h⟩;have e:=rU h;rw [<-e] at g;have:=ip a (x n w u g);rw [e] at this;refine bT a this fun e z y c=>?_;obtain ⟨c,p⟩:=c;cases e with
 | normal=>
  obtain ⟨m,t,q⟩:=c;exact ⟨m,t,q,fun b k=>by rw [p b (kN o k),h b k]⟩
 | exit id=>exact c
 | ret=>exact c
theorem aZ {q:Type} {P:Program} {a:AC} {Q:Ex->Slots->St->Prop} (k:Nat) (W:List Nat) (l:List q) (c:Nat->List q->Slots->St->Prop) {sl:Slots} {s:St} (t:iH a.wr W=true) (C:W.elem k=true) (g:sl k=.int 0/\c 0 l sl s)
  (u:∀ v s,v k=.int l.length->c l.length [] (ov W sl v) s->acW P a (fJ (fun _ _=>False) Q) (ov W sl v) s)
  (G:∀ i x xs v s (w:i<l.length),l[i]=x->l=l.take i++x::xs->v k=.int i->c i (x::xs) (ov W sl v) s->acW P a (fJ (fun d s'=>d k=.int (i+1)/\c (i+1) xs d s') Q) (ov W sl v) s) :
  acW P (.loop a) Q sl s:=by
 refine cJ W t (fun n d s'=>∃ i,i+n=l.length/\d k=.int i/\c i (l.drop i) d s') l.length ⟨0,by omega,g.1,by simpa using g.2⟩ ?_
 rintro n v p ⟨i,w,y,e⟩;have D:k∈W:=by simpa using C
 have o:v k=.int i:=by simpa [ov,D] using y
 by_cases m:i<l.length
 ·have h:l.drop i=l[i]::l.drop (i+1):=xv m;rw [h] at e;refine bT a (G i l[i] (l.drop (i+1)) v p m rfl (by rw [<-h,xa]) o e) fun f J H b=>?_
  cases f with
  | normal=>exact ⟨n-1,by omega,i+1,by omega,by simpa using b.1,b.2⟩
  | exit id=>exact b
  | ret=>exact b
 ·have z:i=l.length:=by omega
  subst z;rw [List.drop_length] at e;refine bT a (u v p o e) fun f J H b=>?_;cases f with
  | normal=>exact b.elim
  | exit id=>exact b
  | ret=>exact b
def aG (P:Program) (f:FuncId) (args:List AV) (v:AV):Prop:=∀ s:St,ACalls P f args s fun av a=>av=v/\a.h=s.h
theorem ACalls.pure {P:Program} {f:FuncId} {args:List AV} {v:AV} {h:Heap} {c:Nat} {K:AV->St->Prop} (g:aG P f args v) (e:∀ c',c<=c'->K v ⟨h,c'⟩):ACalls P f args ⟨h,c⟩ K:=by
 refine (g ⟨h,c⟩).mono fun av b d k=>?_;obtain ⟨rfl,a⟩:=k;have:=e b.c d;obtain ⟨l,c'⟩:=b;simp only at a;subst a;exact this
theorem ACalls.quiet {P:Program} {f:FuncId} {args:List AV} {R:AV->Prop} {h:Heap} {c:Nat} {K:AV->St->Prop} (g:ACalls P f args ⟨h,c⟩ fun av s'=>R av/\s'.h=h) (e:∀ v c',R v->c<=c'->K v ⟨h,c'⟩):ACalls P f args ⟨h,c⟩ K:=by
 refine g.mono fun av s' d a=>?_;obtain ⟨a,b⟩:=a;have:=e av s'.c a d;obtain ⟨k,c'⟩:=s';simp only at b;subst b;exact this
structure Fr (c0:Nat) (h0:Heap) (h:Heap) (c:Nat):Prop where
 c:c0<=c
 h:∀ k,k<c0->h k=h0 k
theorem Fr.refl (h:Heap) (c:Nat):Fr c h h c:=⟨q5 _,fun _ _=>rfl⟩
theorem Fr.le {a c:Nat} {b:Heap} (h:a<=c):Fr a b b c:=⟨h,fun _ _=>rfl⟩
theorem Fr.retH {b c:Nat} {a h:Heap} (d:Fr b a h c):AM.retH b a h=a:=aA d.h
theorem Fr.upd {a g:Nat} {d:Heap} {h:Heap} {c:Nat} {b:Option Body} (e:Fr a d h c) (m:a<=g) {c':Nat} (f:c<=c'):Fr a d (AM.upd h g b) c':=
 ⟨ts e.c f,fun l k=>by rw [qv]; exact e.h l k⟩
theorem Fr.trans {b c1 c:Nat} {d e h:Heap} (a:Fr b d e c1) (k:Fr c1 e h c):Fr b d h c:=
 ⟨ts a.c k.c,fun j f=>by rw [k.h j (ro f a.c)]; exact a.h j f⟩
theorem bu {o:Type} {P:Program} {a:AC} {Q:Ex->Slots->St->Prop} (k:Nat) (W:List Nat) (l:List o) (f:Nat->List o->Slots->St->Prop) {sl:Slots} {d:Heap} {b:Nat} (w:iH a.wr W=true) (z:W.elem k=true) (m:sl k=.int 0/\f 0 l sl ⟨d,b⟩)
  (y:∀ v h c,v k=.int l.length->Fr b d h c->f l.length [] (ov W sl v) ⟨h,c⟩->acW P a (fJ (fun _ _=>False) Q) (ov W sl v) ⟨h,c⟩)
  (C:∀ i x xs v h c (e:i<l.length),l[i]=x->l=l.take i++x::xs->v k=.int i->Fr b d h c->f i (x::xs) (ov W sl v) ⟨h,c⟩ ->
   acW P a (fJ (fun g s'=>g k=.int (i+1)/\Fr b d s'.h s'.c/\f (i+1) xs g s') Q) (ov W sl v) ⟨h,c⟩) :
  acW P (.loop a) Q sl ⟨d,b⟩:=
 aZ k W l (fun i r g s'=>Fr b d s'.h s'.c/\f i r g s') w z ⟨m.1,Fr.refl d b,m.2⟩ (fun v s' D e=>y v s'.h s'.c D e.1 e.2) fun i x xs v s' p q t u e=>C i x xs v s'.h s'.c p q t u e.1 e.2
theorem bM {p:Type} {P:Program} {a:AC} {Q:Ex->Slots->St->Prop} (k:Nat) (W:List Nat) (l:List p) (b:Nat->List p->Slots->Prop) {sl:Slots} {e:Heap} {d:Nat} (z:iH a.wr W=true) (D:W.elem k=true) (o:sl k=.int 0/\b 0 l sl)
  (C:∀ v c,v k=.int l.length->d<=c->b l.length [] (ov W sl v)->acW P a (fJ (fun _ _=>False) Q) (ov W sl v) ⟨e,c⟩)
  (G:∀ i x xs v c (f:i<l.length),l[i]=x->l=l.take i++x::xs->v k=.int i->d<=c->b i (x::xs) (ov W sl v) ->
   acW P a (fJ (fun g s'=>g k=.int (i+1)/\s'.h=e/\d<=s'.c/\b (i+1) xs g) Q) (ov W sl v) ⟨e,c⟩) :
  acW P (.loop a) Q sl ⟨e,d⟩:=
 aZ k W l (fun i r g s'=>s'.h=e/\d<=s'.c/\b i r g) z D ⟨o.1,rfl,q5 _,o.2⟩
  (fun v s' H f=>by
   obtain ⟨q,c⟩:=s';obtain ⟨rfl,h,m⟩:=f;exact C v c H h m)
  fun i x xs v s' t h m u f=>by
   obtain ⟨q,c⟩:=s';obtain ⟨rfl,w,y⟩:=f;exact G i x xs v c t h m u w y
attribute [simp] ad mw
def sle (x y:ByteArray):Bool:=Op.bytesLess x.toList y.toList||decide (x=y)
def slt (x y:ByteArray):Bool:=Op.bytesLess x.toList y.toList
@[simp] theorem strLe (a b:ByteArray):gd .leq a b=some (.bool (sle a b)):=by
 simp only [gd,sle];rw [<-gV,beq_toListBytes]
@[simp] theorem strLt (a b:ByteArray):gd .lss a b=some (.bool (slt a b)):=q6 rfl rfl
variable {κ β:Type} [DecidableEq κ]
structure KeyOk (kk:KK) (enc:κ->AV):Prop where
 wf:∀ a,n9 kk (enc a)=true
 eq:∀ a b,gI kk (enc a) (enc b)=some (decide (a=b))
def kvs (enc:κ->AV) (f:β->AV) (m:List (κ×β)):List (AV×AV):=m.map fun a=>(enc a.1,f a.2)
def bw:List (κ×β)->κ->Option β
 | [],_=>none
 | b::c,a=>if a=b.1 then some b.2 else bw c a
def bG:List (κ×β)->κ->β->List (κ×β)
 | [],a,b=>[(a,b)]
 | d::c,a,b=>if a=d.1 then (a,b)::c else d::bG c a b
def iT:List (κ×β)->κ->Option Nat
 | [],_=>none
 | c::b,a=>if a=c.1 then some 0 else (iT b a).map (·+1)
theorem kF (m:List (κ×β)) (k:κ) (v:β) (b:κ):bw (bG m k v) b=if b=k then some v else bw m b:=by
 induction m with
 | nil=>simp [bG,bw]
 | cons d m e=>
  simp only [bG];by_cases c:k=d.1
  ·rw [if_pos c]; simp only [bw];by_cases a:b=k
   ·simp [a]
   ·rw [if_neg a,if_neg a,if_neg (by rw [<-c]; exact a)]
  ·rw [if_neg c]; simp only [bw,e];by_cases a:b=d.1
   ·rw [if_pos a,if_pos a,if_neg (by rw [a]; exact s4 c)]
   ·rw [if_neg a,if_neg a]
theorem rl {m:List (κ×β)} {k:κ} (h:iT m k=none):bw m k=none/\∀ v,bG m k v=m++[(k,v)]:=by
 induction m with
 | nil=>exact ⟨rfl,fun v=>rfl⟩
 | cons c m b=>
  simp only [iT] at h;split at h
  ·cases h
  ·rename_i a;have:=b (by simpa using h)
   exact ⟨by simp only [bw,if_neg a]; exact this.1,fun v=>by simp only [bG,if_neg a,this.2 v,t1]⟩
theorem rn {m:List (κ×β)} {k:κ} {i:Nat} (h:iT m k=some i):∃ v,m[i]?=some (k,v)/\bw m k=some v/\∀ w,bG m k w=m.set i (k,w):=by
 induction m generalizing i with
 | nil=>cases h
 | cons g m f=>
  simp only [iT] at h;split at h
  ·rename_i a; injection h with h; subst h;exact ⟨g.2,by rw [a]; rfl,by simp only [bw,if_pos a],fun w=>by simp only [bG,if_pos a,List.set_cons_zero]⟩
  ·rename_i a;cases b:iT m k with
   | none=>simp [b] at h
   | some j=>
    simp [b] at h; subst h;obtain ⟨v,c,d,e⟩:=f b;exact ⟨v,by simpa using c,by simp only [bw,if_neg a]; exact d,fun w=>by simp only [bG,if_neg a,e w,List.set_cons_succ]⟩
theorem rh {d:KK} {enc:κ->AV} (b:KeyOk d enc) (f:β->AV) (k:κ):∀ (m:List (κ×β)) (i:Nat),bZ d (enc k) (kvs enc f m) i=some ((iT m k).map (·+i))
 | [],i=>rfl
 | e::m,i=>by
  have c:=rh b f k m (i+1);simp only [kvs,s9,bZ,b.eq,iT] at c ⊢;by_cases a:k=e.1
  ·simp [a]
  ·simp only [a,decide_false,if_false];rw [c];cases iT m k with
   | none=>rfl
   | some j=>simp; omega
theorem ri {b:KK} {enc:κ->AV} (a:KeyOk b enc) (f:β->AV) (m:List (κ×β)) (k:κ):kE b (enc k) (kvs enc f m)=some (iT m k):=by
 unfold kE;rw [if_pos (a.wf k),rh a f k m 0];cases iT m k <;> simp
theorem kb {b:KK} {enc:κ->AV} (e:KeyOk b enc) {f:β->AV} {z:AV} {ok:Bool} {g ver:Nat} {s:St} {m:List (κ×β)} (h:s.h g=some (.map (kvs enc f m) ver)) (k:κ) :
  lkI b z ok (.map g) (enc k) s=some (if ok then .tup [((bw m k).map f).getD z,.bool (bw m k).isSome] else ((bw m k).map f).getD z):=by
 unfold lkI;simp only [h,ri e f m k];cases a:iT m k with
 | none=>simp [(rl a).1]
 | some i=>
  obtain ⟨l,c,d,_⟩:=rn a;simp [kvs,c,d]
theorem iy {b:KK} {enc:κ->AV} (d:KeyOk b enc) {f:β->AV} {g ver:Nat} {s:St} {m:List (κ×β)} (e:s.h g=some (.map (kvs enc f m) ver)) (k:κ) (v:β) :
  muI b (.map g) (enc k) (f v) s=some ⟨upd s.h g (some (.map (kvs enc f (bG m k v)) s.c)),s.c+1⟩:=by
 unfold muI;simp only [e,ri d f m k];cases a:iT m k with
 | none=>simp [(rl a).2 v,kvs]
 | some i=>
  obtain ⟨_,_,_,c⟩:=rn a;simp [kvs,c v,List.map_set]
theorem jK:KeyOk (.one .str) AV.str where
 wf a:=rfl
 eq a b:=rfl
theorem lC:KeyOk (.one .int) AV.int where
 wf a:=rfl
 eq a b:=by simp [gI,eU]; rfl
end Go.AM
namespace Go.AM
theorem iM {sz bytes g len:Nat} {md:Md} {es xs:List (List AV)} {b:Bool} {s:St} (o:md≠.fork) (k:s.h g=some (.row sz es .live none)) (l:es.length=len) (a:0<sz) (f:0<bytes) (h:bytes<=2048)
  (d:∀ e∈xs,aF sz e=true) (m:len+xs.length<=68719476736) :
  apI sz bytes md (.row g sz 0 len) (.sl xs b) s=some (.row s.c sz 0 (len+xs.length),⟨upd (upd s.h g none) s.c (some (.row sz (es++xs) .live none)),s.c+1⟩):=by
 subst l;have c:xs.all (aF sz)=true:=rx.2 d;simp only [apI,St.show_,a,f,c,fp,and_self,if_true,k,h,m,o,if_false]
theorem bE {sz bytes g len:Nat} {md:Md} {es:List (List AV)} {x:List AV} {b:Bool} {s:St} (l:md≠.fork) (f:s.h g=some (.row sz es .live none)) (h:es.length=len) (c:0<sz) (d:0<bytes) (e:bytes<=2048)
  (m:aF sz x=true) (k:len+1<=68719476736) :
  apI sz bytes md (.row g sz 0 len) (.sl [x] b) s=some (.row s.c sz 0 (len+1),⟨upd (upd s.h g none) s.c (some (.row sz (es++[x]) .live none)),s.c+1⟩):=
 iM l f h c d e (fun o a=>by simp at a; rw [a]; exact m) k
theorem dr {sz bytes:Nat} {md:Md} {es xs:List (List AV)} {b:Bool} {s:St} (c:0<sz) (k:0<bytes) (l:bytes<=2048) (m:∀ e∈es,aF sz e=true)
  (h:∀ e∈xs,aF sz e=true) (o:es.length+xs.length<=68719476736) (p:xs≠[]\/es=[]) :
  apI sz bytes md (.sl es true) (.sl xs b) s=some (.row s.c sz 0 (es.length+xs.length),AM.newRow sz (es++xs) s):=by
 have d:xs.all (aF sz)=true:=rx.2 h;have f:es.all (aF sz)=true:=rx.2 m;have g:(xs.isEmpty&&!es.isEmpty)=false:=by
  rcases p with a | a
  ·cases xs <;> simp_all
  ·subst a; simp
 simp only [apI,St.show_,c,k,d,f,g,fp,and_self,if_true,l,o,u1,if_false]
theorem dj {sz g z len:Nat} {es:List (List AV)} {s:St} (a:s.h g=some (.row sz es .live none)) (b:es.length=len):fz1 (.row g z 0 len) s=some (.sl (aP es) false,⟨upd s.h g (some (.row sz es .frz none)),s.c⟩):=by
 subst b;simp [a]
theorem sN {p:Type} {P:Program} {a:AC} {Q:Ex->Slots->St->Prop} (k:Nat) (W:List Nat) (l:List p) (e:Nat) (f:Heap) (d:Nat->List p->Slots->St->Prop) {sl:Slots} {o:Heap} {m:Nat} (y:iH a.wr W=true) (D:W.elem k=true) (C:sl k=.int 0/\Fr e f o m/\d 0 l sl ⟨o,m⟩)
  (z:∀ v h c,v k=.int l.length->Fr e f h c->d l.length [] (ov W sl v) ⟨h,c⟩->acW P a (fJ (fun _ _=>False) Q) (ov W sl v) ⟨h,c⟩)
  (G:∀ i x xs v h c (b:i<l.length),l[i]=x->l=l.take i++x::xs->v k=.int i->Fr e f h c->d i (x::xs) (ov W sl v) ⟨h,c⟩ ->
   acW P a (fJ (fun g s'=>g k=.int (i+1)/\Fr e f s'.h s'.c/\d (i+1) xs g s') Q) (ov W sl v) ⟨h,c⟩) :
  acW P (.loop a) Q sl ⟨o,m⟩:=
 aZ k W l (fun i r g s'=>Fr e f s'.h s'.c/\d i r g s') y D C (fun v s' H b=>z v s'.h s'.c H b.1 b.2) fun i x xs v s' q t u w b=>G i x xs v s'.h s'.c q t u w b.1 b.2
theorem At {t:Nat} {b:Option Nat} {x:X} {sl:Slots} {s:St}:fG (t,none,.ld b x) sl s↔ldI b (x.ev sl) s=some (sl t):=by
 simp only [fG,gdI,aO];constructor
 ·rintro (a | ⟨_,a⟩)
  ·cases a
  ·cases c:ldI b (x.ev sl) s with
   | none=>rw [c] at a; cases a
   | some d=>rw [c] at a; simp at a; rw [a]
 ·intro a;exact .inr ⟨trivial,by rw [a]; rfl⟩
attribute [simp] At
theorem lL {es:List (List AV)} {b:Bool} {s:St} {F:Bx (AV->St->Prop)} (h:es=[]->F.v (.bool true) s) (h':F.v (.bool false) s):@vo .eql (.sl es b) s F:=by
 show (BinOp.eql=.eql\/BinOp.eql=.neq)/\_;refine ⟨.inl rfl,?_⟩;cases es with
 | nil=>exact ⟨h rfl,h'⟩
 | cons a es=>exact h'
theorem kX {c g:Nat} {h h':Heap} {b:Option Body} (e:g<c):retH c h (upd h' g b)=upd (retH c h h') g b:=by
 funext a;show (if a<c then (if a=g then b else h' a) else h a)=if a=g then b else (if a<c then h' a else h a)
 by_cases d:a<c
 ·rw [if_pos d,if_pos d]
 ·rw [if_neg d,if_neg d,if_neg (by omega)]
def Nm (m:List (ByteArray×Bool)) (b:List ByteArray):Prop:=∀ a,((bw m a).getD false)=b.any fun r=>decide (a=r)
theorem Nm.nil:Nm [] []:=fun a=>rfl
theorem Nm.add {m:List (ByteArray×Bool)} {b:List ByteArray} (h:Nm m b) (k:ByteArray):Nm (bG m k true) (b++[k]):=by
 intro c;rw [kF];by_cases a:c=k
 ·simp [a]
 ·rw [if_neg a,h c]; simp [a]
theorem Nm.look {m:List (ByteArray×Bool)} {a:List ByteArray} (h:Nm m a) {g ver:Nat} {s:St} (b:s.h g=some (.map (kvs AV.str AV.bool m) ver)) (x:ByteArray) :
  lkI (.one .str) (.bool false) false (.map g) (.str x) s=some (.bool (a.any fun r=>decide (x=r))):=by
 rw [kb jK b,<-h x];cases bw m x <;> rfl
@[simp] theorem CF {f:Int->Int->Int} {k c:IntKind} {a b:Int}:jd f [.sc (.int k a),.sc (.int c b)]=some (.sc (.int k (f a b))):=q6 rfl rfl
@[simp] theorem Bk {f:Int->Int->Int} {k d e:IntKind} {a b c:Int}:jd f [.sc (.int k a),.sc (.int d b),.sc (.int e c)]=some (.sc (.int k (f (f a b) c))):=q6 rfl rfl
theorem tR {sz n:Nat} {es:List (List AV)} {full:Bool} (f:n<=es.length) (d:∀ e∈es,e.length=sz):srI sz (.sl es full) none (some (.sc (.int .i64 (n:Int)))) none=some (.sl (es.take n) (full&&n==es.length)):=by
 have a:es.all (fun e=>e.length==sz)=true:=rx.2 fun e c=>by simp [d e c]
 have b:(n:Int)<=es.length:=by omega
 simp [srI,a,bnd,b]
end Go.AM
