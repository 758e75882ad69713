/- Part of the claim: see its last text. -/
import Derived.Test.YtjhogglgkjcacaaGreatMa18
set_option linter.all false
namespace Go.Wb
open Go.AM
structure Array where
 key:ByteArray
 sizes:List Int
structure Term where
 name:ByteArray
 coef:Int
structure Form where
 const:Int
 terms:List Term
structure Bound where
 form:Form
 div:Int
inductive Expr where
 | mk (op n:Int) (form:Form) (array:ByteArray) (subs:List Form) (args:List Expr)
inductive Step where
 | mk (kind:Int) (name:ByteArray) (low high:List Bound) (conds:List Form) (body:List Step) (array:ByteArray) (subs:List Form) (expr:Expr)
structure Prog where
 arrays:List Array
 steps:List Step
structure Grid where
 key:ByteArray
 values:List Int
structure Slot where
 name:ByteArray
 value:Int
structure Spot where
 array:ByteArray
 cell:Int
abbrev row (l:List (List AV)):AV:=.sl l false
def be (l:List Int):List (List AV):=l.map fun n=>[.int n]
def am (l:List ByteArray):List (List AV):=l.map fun s=>[.str s]
def Array.cells (a:Array):List AV:=[.str a.key,row (be a.sizes)]
def Term.cells (t:Term):List AV:=[.str t.name,.int t.coef]
def Form.cells (f:Form):List AV:=[.int f.const,row (f.terms.map Term.cells)]
def Bound.cells (b:Bound):List AV:=[.int b.form.const,row (b.form.terms.map Term.cells),.int b.div]
def Grid.cells (g:Grid):List AV:=[.str g.key,row (be g.values)]
def Slot.cells (s:Slot):List AV:=[.str s.name,.int s.value]
def Spot.cells (s:Spot):List AV:=[.str s.array,.int s.cell]
mutual
def Expr.cells:Expr→List AV
 | .mk op n form array subs args=>[.int op,.int n,.int form.const,row (form.terms.map Term.cells),.str array,row (subs.map Form.cells),row (Expr.list args)]
def Expr.list:List Expr→List (List AV)
 | []=>[]
 | e::es=>Expr.cells e::Expr.list es
end
mutual
def Step.cells:Step→List AV
 | .mk kind name low high conds body array subs expr=>[.int kind,.str name,row (low.map Bound.cells),row (high.map Bound.cells),row (conds.map Form.cells),row (Step.list body),.str array,row (subs.map Form.cells)]++expr.cells
def Step.list:List Step→List (List AV)
 | []=>[]
 | e::es=>Step.cells e::Step.list es
end
theorem Expr.list_map:∀ l,Expr.list l=l.map Expr.cells
 | []=>rfl
 | e::es=>by rw [Expr.list,Expr.list_map es]; rfl
theorem Step.list_map:∀ l,Step.list l=l.map Step.cells
 | []=>rfl
 | e::es=>by rw [Step.list,Step.list_map es]; rfl
def Form.av (f:Form):AV:=.agg f.cells
def Bound.av (b:Bound):AV:=.agg b.cells
def Expr.av (e:Expr):AV:=.agg e.cells
def Step.av (e:Step):AV:=.agg e.cells
def Array.av (a:Array):AV:=.agg a.cells
def Grid.av (a:Grid):AV:=.agg a.cells
def Prog.av (p:Prog):AV:=.agg [row (p.arrays.map Array.cells),row (p.steps.map Step.cells)]
theorem bY {α:Type} {f:α→List AV} (h:∀ x,aQ (f x)=f x):∀ l:List α,aP (l.map f)=l.map f
 | []=>rfl
 | x::l=>by simp [aP,h x,bY h l]
@[simp] theorem AX (v:Value):norm (.sc v)=.sc v:=rfl
@[simp] theorem zT (l:List (List AV)):norm (row l)=row (aP l):=rfl
@[simp] theorem yl (l:List Int):aP (be l)=be l:=bY (fun _=>rfl) l
@[simp] theorem yn (l:List ByteArray):aP (am l)=am l:=bY (fun _=>rfl) l
@[simp] theorem eQ (l:List Term):aP (l.map Term.cells)=l.map Term.cells:=bY (fun _=>rfl) l
@[simp] theorem rk (a:Array):aQ a.cells=a.cells:=by simp [Array.cells,aQ]
@[simp] theorem nC (a:Form):aQ a.cells=a.cells:=by simp [Form.cells,aQ]
@[simp] theorem rl (a:Bound):aQ a.cells=a.cells:=by simp [Bound.cells,aQ]
@[simp] theorem sk (a:Grid):aQ a.cells=a.cells:=by simp [Grid.cells,aQ]
@[simp] theorem sm (a:Slot):aQ a.cells=a.cells:=by simp [Slot.cells,aQ]
@[simp] theorem yp (a:Spot):aQ a.cells=a.cells:=by simp [Spot.cells,aQ]
@[simp] theorem rj (l:List Form):aP (l.map Form.cells)=l.map Form.cells:=bY nC l
@[simp] theorem wR (l:List Bound):aP (l.map Bound.cells)=l.map Bound.cells:=bY rl l
@[simp] theorem qz (l:List Array):aP (l.map Array.cells)=l.map Array.cells:=bY rk l
@[simp] theorem xq (l:List Grid):aP (l.map Grid.cells)=l.map Grid.cells:=bY sk l
mutual
theorem g0:∀ e:Expr,aQ e.cells=e.cells
 | .mk op n form array subs args=>by simp [Expr.cells,aQ,jy args]
theorem jy:∀ l:List Expr,aP (Expr.list l)=Expr.list l
 | []=>rfl
 | e::es=>by simp [Expr.list,aP,g0 e,jy es]
end
mutual
theorem jT:∀ e:Step,aQ e.cells=e.cells
 | .mk kind name low high conds body array subs expr=>by simp [Step.cells,aQ,jz body,g0 expr]
theorem jz:∀ l:List Step,aP (Step.list l)=Step.list l
 | []=>rfl
 | e::es=>by simp [Step.list,aP,jT e,jz es]
end
attribute [simp] g0 jT
@[simp] theorem xw (l:List Step):aP (l.map Step.cells)=l.map Step.cells:=bY jT l
@[simp] theorem xp (l:List Expr):aP (l.map Expr.cells)=l.map Expr.cells:=bY g0 l
@[simp] theorem zg (f:Form):norm f.av=f.av:=by simp [Form.av,norm]
@[simp] theorem yr (f:Bound):norm f.av=f.av:=by simp [Bound.av,norm]
@[simp] theorem zf (f:Expr):norm f.av=f.av:=by simp [Expr.av,norm]
@[simp] theorem zm (f:Step):norm f.av=f.av:=by simp [Step.av,norm]
@[simp] theorem yq (f:Array):norm f.av=f.av:=by simp [Array.av,norm]
@[simp] theorem zh (f:Grid):norm f.av=f.av:=by simp [Grid.av,norm]
@[simp] theorem zj (f:Prog):norm f.av=f.av:=by simp [Prog.av,norm,aQ]
end Go.Wb
namespace Go.AM
mutual
def small:AV→Prop
 | .agg cs=>d5 cs
 | .tup cs=>d5 cs
 | .sl es _=>es.length≤68719476736∧fL es
 | _=>True
def d5:List AV→Prop
 | []=>True
 | v::vs=>small v∧d5 vs
def fL:List (List AV)→Prop
 | []=>True
 | e::es=>d5 e∧fL es
end
theorem gL:∀ {cs:List AV},(∀ (j:Nat) (c:AV),cs[j]?=some c→small c)→d5 cs
 | [],_=>trivial
 | c::cs,h=>⟨h 0 c rfl,gL fun j d hd=>h (j+1) d (by simpa using hd)⟩
theorem pp:∀ {es:List (List AV)},(∀ (i:Nat) (e:List AV) (j:Nat) (c:AV),es[i]?=some e→e[j]?=some c→small c)→fL es
 | [],_=>trivial
 | e::es,h=>⟨gL fun j c hc=>h 0 e j c rfl hc,pp fun i x j c hx hc=>h (i+1) x j c (by simpa using hx) hc⟩
theorem Rep.small {G:Gh} {a:AV} {v:Value} (h:Rep G a v):small a:=by
 induction h with
 | agg cs vs hl _ ih=>
  refine gL fun j c hc=>?_
  have hj:j<vs.size:=by rw [←hl]; exact (List.getElem?_eq_some_iff.1 hc).1
  exact ih j c vs[j] hc (Array.getElem?_eq_getElem hj)
 | tup cs vs hl _ ih=>
  refine gL fun j c hc=>?_
  have hj:j<vs.size:=by rw [←hl]; exact (List.getElem?_eq_some_iff.1 hc).1
  exact ih j c vs[j] hc (Array.getElem?_eq_getElem hj)
 | sl es full a cap b o sz f hc hf ha hz hm _ hb ih=>exact ⟨hb,pp ih⟩
 | _=>simp [AM.small]
theorem RepL.small {G:Gh} {as:List AV} {vs:List Value} (h:RepL G as vs):d5 as:=gL fun j c hc=>by
 obtain ⟨v,_,hr⟩:=h.get hc
 exact hr.small
theorem ACalls.small {P:Program} {f:FuncId} {args:List AV} {s:St} {R:AV→St→Prop} (h:d5 args→ACalls P f args s R):ACalls P f args s R:=
 fun G w vs hS hv=>h hv.small G w vs hS hv
@[simp] theorem yC:d5 []=True:=Eq.trans rfl rfl
@[simp] theorem xz {v:AV} {vs:List AV}:d5 (v::vs)=(small v∧d5 vs):=Eq.trans rfl rfl
@[simp] theorem Ac {v:Value}:small (.sc v)=True:=Eq.trans rfl rfl
@[simp] theorem zv {cs:List AV}:small (.agg cs)=d5 cs:=Eq.trans rfl rfl
@[simp] theorem Ad {es:List (List AV)} {b:Bool}:small (.sl es b)=(es.length≤68719476736∧fL es):=Eq.trans rfl rfl
@[simp] theorem zx {g e o:Nat}:small (.ptr g e o)=True:=Eq.trans rfl rfl
@[simp] theorem Ae {cs:List AV} {o:Nat}:small (.zp cs o)=True:=Eq.trans rfl rfl
@[simp] theorem zy {g z o n:Nat}:small (.row g z o n)=True:=Eq.trans rfl rfl
@[simp] theorem zw {g:Nat}:small (.map g)=True:=Eq.trans rfl rfl
@[simp] theorem Ab {f:Fn} {a b:List AV}:small (.fn f a b)=True:=Eq.trans rfl rfl
def fA (l:List AO):List Nat:=l.filterMap (·.dst)
def AC.wr:AC→List Nat
 | .ops l=>fA l
 | .roam a pre post=>fA (a::(pre.map (·.2)++post))
 | .seq a b=>a.wr++b.wr
 | .cond _ a b=>a.wr++b.wr
 | .block _ a=>a.wr
 | .loop a=>a.wr
 | _=>[]
theorem pe {sl:Slots} {d:Option Nat} {v:AV} {t:Nat} (h:d≠some t):put sl d v t=sl t:=by
 unfold put
 split
 ·rename_i d; exact if_neg fun e=>h (by rw [e])
 ·rfl
theorem ij {o:AO} {r:List AO} {t:Nat} (h:t∉fA (o::r)):o.dst≠some t∧t∉fA r:=by
 unfold fA at *
 rw [List.filterMap_cons] at h
 split at h
 ·rename_i e; exact ⟨by rw [e]; simp,h⟩
 ·rename_i d e
  simp only [List.mem_cons,not_or] at h
  exact ⟨by rw [e]; simpa using Ne.symm h.1,h.2⟩
theorem il {P:Program}:∀ (l:List AO) {K:Slots→St→Prop} {sl:Slots} {s:St},aM P l K sl s→aM P l (fun sl' s'=>K sl' s'∧∀ t,t∉fA l→sl' t=sl t) sl s
 | [],_,_,_,h=>⟨h,fun _ _=>rfl⟩
 | o::r,_,_,_,h=>by
  simp only [aM] at h ⊢
  split at h
  ·exact cV r (il r h) fun sl' s' k=>⟨k.1,fun t ht=>by rw [k.2 t (ij ht).2,pe (ij ht).1]⟩
  ·refine fX h fun v s' hv=>?_
   split at hv
   ·exact ⟨hv.1,cV r (il r hv.2) fun sl' s' k=>⟨k.1,fun t ht=>by rw [k.2 t (ij ht).2,pe (ij ht).1]⟩⟩
   ·exact hv
  ·exact h
theorem mI {P:Program} {a:AO} {post:List AO}:∀ (r:List (Bool×AO)) {K:Slots→St→Prop} {sl:Slots} {s:St},ce P a post K r sl s →
  ce P a post (fun sl' s'=>K sl' s'∧∀ t,t∉fA (a::(r.map (·.2)++post))→sl' t=sl t) r sl s
 | [],_,_,_,h=>il _ h
 | (b,e)::r,_,_,_,h=>by
  have hd:∀ t,t∉fA (a::(List.map (·.2) ((b,e)::r)++post))→t∉fA (a::(r.map (·.2)++post))∧t∉fA [e]∧t∉fA (a::e::(r.map (·.2)++post)):=by
   intro t ht
   have h1:=ij ht
   have h2:=ij h1.2
   refine ⟨?_,?_,ht⟩
   ·unfold fA; rw [List.filterMap_cons]; split
    ·exact h2.2
    ·rename_i d hd; rw [List.mem_cons,not_or]; exact ⟨fun e=>h1.1 (by rw [hd,e]),h2.2⟩
   ·unfold fA; rw [List.filterMap_cons]; split
    ·simp
    ·rename_i d hd; simp; exact fun e=>h2.1 (by rw [hd,e])
  refine ⟨fun hb=>?_,?_⟩
  ·exact cV _ (il _ (h.1 hb)) fun sl' s' k=>⟨k.1,fun t ht=>k.2 t (hd t ht).2.2⟩
  ·exact cV _ (il _ h.2) fun sl' s' k=>hO r (mI r k.1) fun sl2 s2 k2=>⟨k2.1,fun t ht=>by rw [k2.2 t (hd t ht).1,k.2 t (hd t ht).2.1]⟩
theorem gD {P:Program}:∀ (a:AC) {Q:Ex→Slots→St→Prop} {sl:Slots} {s:St},acW P a Q sl s→acW P a (fun e sl' s'=>Q e sl' s'∧∀ t,t∉a.wr→sl' t=sl t) sl s
 | .skip,_,_,_,h=>⟨h,fun _ _=>rfl⟩
 | .ops l,_,_,_,h=>il l h
 | .roam a pre post,_,_,_,h=>mI pre h
 | .seq a b,Q,sl,s,h=>by
  simp only [acW] at h ⊢
  refine bL a (gD a h) fun e sl1 s1 he=>?_
  obtain ⟨he,hf⟩:=he
  have hmono:∀ t,t∉(AC.seq a b).wr→sl1 t=sl t:=fun t ht=>hf t fun h=>ht (by simp [AC.wr,h])
  cases e with
  | normal=>exact bL b (gD b he) fun e sl2 s2 k=>⟨k.1,fun t ht=>by rw [k.2 t fun h=>ht (by simp [AC.wr,h]),hmono t ht]⟩
  | exit id=>exact ⟨he,hmono⟩
  | ret=>exact ⟨he,hmono⟩
 | .cond c a b,Q,sl,s,h=>by
  simp only [acW] at h ⊢
  split at h
  ·rename_i t ht
   split at h
   ·rename_i hb; rw [if_pos hb]
    exact bL a (gD a h) fun e sl' s' k=>⟨k.1,fun t ht=>k.2 t fun h=>ht (by simp [AC.wr,h])⟩
   ·rename_i hb; rw [if_neg hb]
    exact bL b (gD b h) fun e sl' s' k=>⟨k.1,fun t ht=>k.2 t fun h=>ht (by simp [AC.wr,h])⟩
  ·exact h
 | .block id a,Q,sl,s,h=>by
  simp only [acW] at h ⊢
  refine bL a (gD a h) fun e sl1 s1 he=>?_
  obtain ⟨he,hf⟩:=he
  cases e with
  | normal=>exact ⟨he,hf⟩
  | exit i=>
   simp only at he ⊢
   split at he
   ·rename_i hi; rw [if_pos hi]; exact ⟨he,hf⟩
   ·rename_i hi; rw [if_neg hi]; exact ⟨he,hf⟩
  | ret=>exact ⟨he,hf⟩
 | .loop a,Q,sl,s,h=>by
  simp only [acW] at h ⊢
  obtain ⟨n,hn⟩:=h
  refine ⟨n,?_⟩
  have key:∀ n sl1 s1,(∀ t,t∉a.wr→sl1 t=sl t)→eE (acW P a) Q n sl1 s1→eE (acW P a) (fun e sl' s'=>Q e sl' s'∧∀ t,t∉a.wr→sl' t=sl t) n sl1 s1:=by
   intro n
   induction n with
   | zero=>intro sl1 s1 _ h; exact h
   | succ n ih=>
    intro sl1 s1 h1 h
    simp only [eE] at h ⊢
    refine bL a (gD a h) fun e sl2 s2 he=>?_
    obtain ⟨he,hf⟩:=he
    have h2:∀ t,t∉a.wr→sl2 t=sl t:=fun t ht=>by rw [hf t ht,h1 t ht]
    cases e with
    | normal=>exact ih sl2 s2 h2 he
    | exit id=>exact ⟨he,h2⟩
    | ret=>exact ⟨he,h2⟩
  exact key n sl s (fun _ _=>rfl) hn
 | .exit id,_,_,_,h=>⟨h,fun _ _=>rfl⟩
 | .ret,_,_,_,h=>⟨h,fun _ _=>rfl⟩
def ov (W:List Nat) (sl v:Slots):Slots:=fun t=>if W.elem t=true then v t else sl t
@[simp] theorem ov_get {W:List Nat} {sl v:Slots} {t:Nat}:ov W sl v t=if W.elem t=true then v t else sl t:=Eq.trans rfl rfl
theorem sp {W:List Nat} {sl v:Slots} (h:∀ t,t∉W→v t=sl t):ov W sl v=v:=by
 funext t
 unfold ov
 split
 ·rfl
 ·rename_i ht; exact (h t (by simpa using ht)).symm
def gN (a W:List Nat):Bool:=a.all (W.elem ·)
theorem lc {a W:List Nat} (h:gN a W=true) {t:Nat} (ht:t∉W):t∉a:=by
 intro h'
 have:=List.all_eq_true.1 h t h'
 simp at this
 exact ht this
theorem di {P:Program} {a:AC} {Q:Ex→Slots→St→Prop} (W:List Nat) (hW:gN a.wr W=true) (Inv:Nat→Slots→St→Prop) (n:Nat) {sl:Slots} {s:St} (h0:Inv n sl s)
  (step:∀ n v s,Inv n (ov W sl v) s→acW P a (eg (fun sl' s'=>∃ m,m<n∧Inv m sl' s') Q) (ov W sl v) s):acW P (.loop a) Q sl s:=by
 refine fP (fun n sl' s'=>Inv n sl' s'∧∀ t,t∉W→sl' t=sl t) n ⟨h0,fun _ _=>rfl⟩ ?_
 rintro n sl1 s1 ⟨h1,h2⟩
 have e:=sp h2
 rw [←e] at h1
 have:=gD a (step n sl1 s1 h1)
 rw [e] at this
 refine bL a this fun e sl2 s2 he=>?_
 obtain ⟨he,hf⟩:=he
 cases e with
 | normal=>
  obtain ⟨m,hm,hi⟩:=he
  exact ⟨m,hm,hi,fun t ht=>by rw [hf t (lc hW ht),h2 t ht]⟩
 | exit id=>exact he
 | ret=>exact he
theorem bz {α:Type} {P:Program} {a:AC} {Q:Ex→Slots→St→Prop} (k:Nat) (W:List Nat) (l:List α) (Inv:Nat→List α→Slots→St→Prop) {sl:Slots} {s:St} (hW:gN a.wr W=true) (hk:W.elem k=true) (h0:sl k=.int 0∧Inv 0 l sl s)
  (hend:∀ v s,v k=.int l.length→Inv l.length [] (ov W sl v) s→acW P a (eg (fun _ _=>False) Q) (ov W sl v) s)
  (hstep:∀ i x xs v s (hi:i<l.length),l[i]=x→l=l.take i++x::xs→v k=.int i→Inv i (x::xs) (ov W sl v) s→acW P a (eg (fun sl' s'=>sl' k=.int (i+1)∧Inv (i+1) xs sl' s') Q) (ov W sl v) s) :
  acW P (.loop a) Q sl s:=by
 refine di W hW (fun n sl' s'=>∃ i,i+n=l.length∧sl' k=.int i∧Inv i (l.drop i) sl' s') l.length ⟨0,by omega,h0.1,by simpa using h0.2⟩ ?_
 rintro n v s1 ⟨i,hi,hik,hinv⟩
 have hkm:k∈W:=by simpa using hk
 have hvk:v k=.int i:=by simpa [ov,hkm] using hik
 by_cases hlt:i<l.length
 ·have hd:l.drop i=l[i]::l.drop (i+1):=List.drop_eq_getElem_cons hlt
  rw [hd] at hinv
  refine bL a (hstep i l[i] (l.drop (i+1)) v s1 hlt rfl (by rw [←hd,List.take_append_drop]) hvk hinv) fun e sl2 s2 he=>?_
  cases e with
  | normal=>exact ⟨n-1,by omega,i+1,by omega,by simpa using he.1,he.2⟩
  | exit id=>exact he
  | ret=>exact he
 ·have hil:i=l.length:=by omega
  subst hil
  rw [List.drop_length] at hinv
  refine bL a (hend v s1 hvk hinv) fun e sl2 s2 he=>?_
  cases e with
  | normal=>exact he.elim
  | exit id=>exact he
  | ret=>exact he
def aG (P:Program) (f:FuncId) (args:List AV) (v:AV):Prop:=∀ s:St,ACalls P f args s fun av s'=>av=v∧s'.h=s.h
theorem ACalls.pure {P:Program} {f:FuncId} {args:List AV} {v:AV} {h:Heap} {c:Nat} {K:AV→St→Prop} (hp:aG P f args v) (hk:∀ c',c≤c'→K v ⟨h,c'⟩):ACalls P f args ⟨h,c⟩ K:=by
 refine (hp ⟨h,c⟩).mono fun av s' hc hr=>?_
 obtain ⟨rfl,hh⟩:=hr
 have:=hk s'.c hc
 obtain ⟨h',c'⟩:=s'
 simp only at hh
 subst hh
 exact this
theorem ACalls.quiet {P:Program} {f:FuncId} {args:List AV} {R:AV→Prop} {h:Heap} {c:Nat} {K:AV→St→Prop} (hp:ACalls P f args ⟨h,c⟩ fun av s'=>R av∧s'.h=h) (hk:∀ v c',R v→c≤c'→K v ⟨h,c'⟩):ACalls P f args ⟨h,c⟩ K:=by
 refine hp.mono fun av s' hc hr=>?_
 obtain ⟨hr,hh⟩:=hr
 have:=hk av s'.c hr hc
 obtain ⟨h',c'⟩:=s'
 simp only at hh
 subst hh
 exact this
structure Fr (c0:Nat) (h0:Heap) (h:Heap) (c:Nat):Prop where
 c:c0≤c
 h:∀ k,k<c0→h k=h0 k
theorem Fr.refl (h:Heap) (c:Nat):Fr c h h c:=⟨Nat.le_refl _,fun _ _=>rfl⟩
theorem Fr.le {c0 c:Nat} {h0:Heap} (h:c0≤c):Fr c0 h0 h0 c:=⟨h,fun _ _=>rfl⟩
theorem Fr.retH {c0 c:Nat} {h0 h:Heap} (hf:Fr c0 h0 h c):AM.retH c0 h0 h=h0:=ay hf.h
theorem Fr.upd {c0 g:Nat} {h0:Heap} {h:Heap} {c:Nat} {b:Option Body} (hf:Fr c0 h0 h c) (hg:c0≤g) {c':Nat} (hc:c≤c'):Fr c0 h0 (AM.upd h g b) c':=
 ⟨Nat.le_trans hf.c hc,fun k hk=>by rw [ad (by omega)]; exact hf.h k hk⟩
theorem Fr.trans {c0 c1 c:Nat} {h0 h1 h:Heap} (a:Fr c0 h0 h1 c1) (k:Fr c1 h1 h c):Fr c0 h0 h c:=
 ⟨Nat.le_trans a.c k.c,fun j hj=>by rw [k.h j (Nat.lt_of_lt_of_le hj a.c)]; exact a.h j hj⟩
theorem bq {α:Type} {P:Program} {a:AC} {Q:Ex→Slots→St→Prop} (k:Nat) (W:List Nat) (l:List α) (Inv:Nat→List α→Slots→St→Prop) {sl:Slots} {h0:Heap} {c0:Nat} (hW:gN a.wr W=true) (hk:W.elem k=true) (hi0:sl k=.int 0∧Inv 0 l sl ⟨h0,c0⟩)
  (hend:∀ v h c,v k=.int l.length→Fr c0 h0 h c→Inv l.length [] (ov W sl v) ⟨h,c⟩→acW P a (eg (fun _ _=>False) Q) (ov W sl v) ⟨h,c⟩)
  (hstep:∀ i x xs v h c (hi:i<l.length),l[i]=x→l=l.take i++x::xs→v k=.int i→Fr c0 h0 h c→Inv i (x::xs) (ov W sl v) ⟨h,c⟩ →
   acW P a (eg (fun sl' s'=>sl' k=.int (i+1)∧Fr c0 h0 s'.h s'.c∧Inv (i+1) xs sl' s') Q) (ov W sl v) ⟨h,c⟩) :
  acW P (.loop a) Q sl ⟨h0,c0⟩:=
 bz k W l (fun i r sl' s'=>Fr c0 h0 s'.h s'.c∧Inv i r sl' s') hW hk ⟨hi0.1,Fr.refl h0 c0,hi0.2⟩ (fun v s' hv hi=>hend v s'.h s'.c hv hi.1 hi.2) fun i x xs v s' h1 h2 h3 h4 hi=>hstep i x xs v s'.h s'.c h1 h2 h3 h4 hi.1 hi.2
theorem bK {α:Type} {P:Program} {a:AC} {Q:Ex→Slots→St→Prop} (k:Nat) (W:List Nat) (l:List α) (Inv:Nat→List α→Slots→Prop) {sl:Slots} {h0:Heap} {c0:Nat} (hW:gN a.wr W=true) (hk:W.elem k=true) (hi0:sl k=.int 0∧Inv 0 l sl)
  (hend:∀ v c,v k=.int l.length→c0≤c→Inv l.length [] (ov W sl v)→acW P a (eg (fun _ _=>False) Q) (ov W sl v) ⟨h0,c⟩)
  (hstep:∀ i x xs v c (hi:i<l.length),l[i]=x→l=l.take i++x::xs→v k=.int i→c0≤c→Inv i (x::xs) (ov W sl v) →
   acW P a (eg (fun sl' s'=>sl' k=.int (i+1)∧s'.h=h0∧c0≤s'.c∧Inv (i+1) xs sl') Q) (ov W sl v) ⟨h0,c⟩) :
  acW P (.loop a) Q sl ⟨h0,c0⟩:=
 bz k W l (fun i r sl' s'=>s'.h=h0∧c0≤s'.c∧Inv i r sl') hW hk ⟨hi0.1,rfl,Nat.le_refl _,hi0.2⟩
  (fun v s' hv hi=>by
   obtain ⟨h,c⟩:=s'
   obtain ⟨rfl,h2,h3⟩:=hi
   exact hend v c hv h2 h3)
  fun i x xs v s' h1 h2 h3 h4 hi=>by
   obtain ⟨h,c⟩:=s'
   obtain ⟨rfl,h5,h6⟩:=hi
   exact hstep i x xs v c h1 h2 h3 h4 h5 h6
attribute [simp] ad jW
def sle (x y:ByteArray):Bool:=Op.bytesLess x.toList y.toList||decide (x=y)
def slt (x y:ByteArray):Bool:=Op.bytesLess x.toList y.toList
@[simp] theorem strLe (a b:ByteArray):dA .leq a b=some (.bool (sle a b)):=by
 simp only [dA,sle]
 rw [←fj,beq_toListBytes]
@[simp] theorem strLt (a b:ByteArray):dA .lss a b=some (.bool (slt a b)):=Eq.trans rfl rfl
end Go.AM
namespace Go.AM
variable {κ β:Type} [DecidableEq κ]
structure KeyOk (kk:KK) (enc:κ→AV):Prop where
 wf:∀ a,lD kk (enc a)=true
 eq:∀ a b,fD kk (enc a) (enc b)=some (decide (a=b))
def kvs (enc:κ→AV) (f:β→AV) (m:List (κ×β)):List (AV×AV):=m.map fun p=>(enc p.1,f p.2)
def cu:List (κ×β)→κ→Option β
 | [],_=>none
 | p::m,k=>if k=p.1 then some p.2 else cu m k
def cB:List (κ×β)→κ→β→List (κ×β)
 | [],k,v=>[(k,v)]
 | p::m,k,v=>if k=p.1 then (k,v)::m else p::cB m k v
def fV:List (κ×β)→κ→Option Nat
 | [],_=>none
 | p::m,k=>if k=p.1 then some 0 else (fV m k).map (·+1)
theorem iV (m:List (κ×β)) (k:κ) (v:β) (k':κ):cu (cB m k v) k'=if k'=k then some v else cu m k':=by
 induction m with
 | nil=>simp [cB,cu]
 | cons p m ih=>
  simp only [cB]
  by_cases h:k=p.1
  ·rw [if_pos h]; simp only [cu]
   by_cases h2:k'=k
   ·simp [h2]
   ·rw [if_neg h2,if_neg h2,if_neg (by rw [←h]; exact h2)]
  ·rw [if_neg h]; simp only [cu,ih]
   by_cases h2:k'=p.1
   ·rw [if_pos h2,if_pos h2,if_neg (by rw [h2]; exact Ne.symm h)]
   ·rw [if_neg h2,if_neg h2]
theorem o0 {m:List (κ×β)} {k:κ} (h:fV m k=none):cu m k=none∧∀ v,cB m k v=m++[(k,v)]:=by
 induction m with
 | nil=>exact ⟨rfl,fun v=>rfl⟩
 | cons p m ih=>
  simp only [fV] at h
  split at h
  ·cases h
  ·rename_i hk
   have:=ih (by simpa using h)
   exact ⟨by simp only [cu,if_neg hk]; exact this.1,fun v=>by simp only [cB,if_neg hk,this.2 v,List.cons_append]⟩
theorem pa {m:List (κ×β)} {k:κ} {i:Nat} (h:fV m k=some i):∃ v,m[i]?=some (k,v)∧cu m k=some v∧∀ w,cB m k w=m.set i (k,w):=by
 induction m generalizing i with
 | nil=>cases h
 | cons p m ih=>
  simp only [fV] at h
  split at h
  ·rename_i hk; injection h with h; subst h
   exact ⟨p.2,by rw [hk]; rfl,by simp only [cu,if_pos hk],fun w=>by simp only [cB,if_pos hk,List.set_cons_zero]⟩
  ·rename_i hk
   cases hi:fV m k with
   | none=>simp [hi] at h
   | some j=>
    simp [hi] at h; subst h
    obtain ⟨v,h1,h2,h3⟩:=ih hi
    exact ⟨v,by simpa using h1,by simp only [cu,if_neg hk]; exact h2,fun w=>by simp only [cB,if_neg hk,h3 w,List.set_cons_succ]⟩
theorem oW {kk:KK} {enc:κ→AV} (he:KeyOk kk enc) (f:β→AV) (k:κ):∀ (m:List (κ×β)) (i:Nat),dI kk (enc k) (kvs enc f m) i=some ((fV m k).map (·+i))
 | [],i=>rfl
 | p::m,i=>by
  have ih:=oW he f k m (i+1)
  simp only [kvs,List.map_cons,dI,he.eq,fV] at ih ⊢
  by_cases h:k=p.1
  ·simp [h]
  ·simp only [h,decide_false,if_false]
   rw [ih]
   cases fV m k with
   | none=>rfl
   | some j=>simp; omega
theorem oX {kk:KK} {enc:κ→AV} (he:KeyOk kk enc) (f:β→AV) (m:List (κ×β)) (k:κ):iU kk (enc k) (kvs enc f m)=some (fV m k):=by
 unfold iU
 rw [if_pos (he.wf k),oW he f k m 0]
 cases fV m k <;> simp
theorem kJ {kk:KK} {enc:κ→AV} (he:KeyOk kk enc) {f:β→AV} {z:AV} {ok:Bool} {g ver:Nat} {s:St} {m:List (κ×β)} (hg:s.h g=some (.map (kvs enc f m) ver)) (k:κ) :
  lkI kk z ok (.map g) (enc k) s=some (if ok then .tup [((cu m k).map f).getD z,.bool (cu m k).isSome] else ((cu m k).map f).getD z):=by
 unfold lkI
 simp only [hg,oX he f m k]
 cases h:fV m k with
 | none=>simp [(o0 h).1]
 | some i=>
  obtain ⟨v,h1,h2,_⟩:=pa h
  simp [kvs,h1,h2]
theorem kL {kk:KK} {enc:κ→AV} (he:KeyOk kk enc) {f:β→AV} {g ver:Nat} {s:St} {m:List (κ×β)} (hg:s.h g=some (.map (kvs enc f m) ver)) (k:κ) (v:β) :
  muI kk (.map g) (enc k) (f v) s=some ⟨upd s.h g (some (.map (kvs enc f (cB m k v)) s.c)),s.c+1⟩:=by
 unfold muI
 simp only [hg,oX he f m k]
 cases h:fV m k with
 | none=>simp [(o0 h).2 v,kvs]
 | some i=>
  obtain ⟨_,_,_,h3⟩:=pa h
  simp [kvs,h3 v,List.map_set]
theorem fp:KeyOk (.one .str) AV.str where
 wf a:=rfl
 eq a b:=rfl
end Go.AM
namespace Go.AM
theorem ig {sz bytes g len:Nat} {md:Md} {es xs:List (List AV)} {b:Bool} {s:St} (hmd:md≠.fork) (hg:s.h g=some (.row sz es .live none)) (hlen:es.length=len) (h0:0<sz) (hb:0<bytes) (hb':bytes≤2048)
  (hall:∀ e∈xs,aA sz e=true) (hm:len+xs.length≤68719476736) :
  apI sz bytes md (.row g sz 0 len) (.sl xs b) s=some (.row s.c sz 0 (len+xs.length),⟨upd (upd s.h g none) s.c (some (.row sz (es++xs) .live none)),s.c+1⟩):=by
 subst hlen
 have h1:xs.all (aA sz)=true:=List.all_eq_true.2 hall
 simp only [apI,St.show_,h0,hb,h1,dW,and_self,if_true,hg,hb',hm,hmd,if_false]
theorem cC {sz bytes g len:Nat} {md:Md} {es:List (List AV)} {x:List AV} {b:Bool} {s:St} (hmd:md≠.fork) (hg:s.h g=some (.row sz es .live none)) (hlen:es.length=len) (h0:0<sz) (hb:0<bytes) (hb':bytes≤2048)
  (hx:aA sz x=true) (hm:len+1≤68719476736) :
  apI sz bytes md (.row g sz 0 len) (.sl [x] b) s=some (.row s.c sz 0 (len+1),⟨upd (upd s.h g none) s.c (some (.row sz (es++[x]) .live none)),s.c+1⟩):=
 ig hmd hg hlen h0 hb hb' (fun e he=>by simp at he; rw [he]; exact hx) hm
theorem db {sz bytes:Nat} {md:Md} {es xs:List (List AV)} {b:Bool} {s:St} (h0:0<sz) (hb:0<bytes) (hb':bytes≤2048) (hes:∀ e∈es,aA sz e=true)
  (hall:∀ e∈xs,aA sz e=true) (hm:es.length+xs.length≤68719476736) (hne:xs≠[]∨es=[]) :
  apI sz bytes md (.sl es true) (.sl xs b) s=some (.row s.c sz 0 (es.length+xs.length),AM.newRow sz (es++xs) s):=by
 have h1:xs.all (aA sz)=true:=List.all_eq_true.2 hall
 have h2:es.all (aA sz)=true:=List.all_eq_true.2 hes
 have h3:(xs.isEmpty&&!es.isEmpty)=false:=by
  rcases hne with h | h
  ·cases xs <;> simp_all
  ·subst h; simp
 simp only [apI,St.show_,h0,hb,h1,h2,h3,dW,and_self,if_true,hb',hm,Bool.false_eq_true,if_false]
theorem dx {sz g z len:Nat} {es:List (List AV)} {s:St} (hg:s.h g=some (.row sz es .live none)) (hlen:es.length=len):fz1 (.row g z 0 len) s=some (.sl (aP es) false,⟨upd s.h g (some (.row sz es .frz none)),s.c⟩):=by
 subst hlen
 simp [hg]
theorem pV {α:Type} {P:Program} {a:AC} {Q:Ex→Slots→St→Prop} (k:Nat) (W:List Nat) (l:List α) (cb:Nat) (hb:Heap) (Inv:Nat→List α→Slots→St→Prop) {sl:Slots} {h0:Heap} {c0:Nat} (hW:gN a.wr W=true) (hk:W.elem k=true) (hi0:sl k=.int 0∧Fr cb hb h0 c0∧Inv 0 l sl ⟨h0,c0⟩)
  (hend:∀ v h c,v k=.int l.length→Fr cb hb h c→Inv l.length [] (ov W sl v) ⟨h,c⟩→acW P a (eg (fun _ _=>False) Q) (ov W sl v) ⟨h,c⟩)
  (hstep:∀ i x xs v h c (hi:i<l.length),l[i]=x→l=l.take i++x::xs→v k=.int i→Fr cb hb h c→Inv i (x::xs) (ov W sl v) ⟨h,c⟩ →
   acW P a (eg (fun sl' s'=>sl' k=.int (i+1)∧Fr cb hb s'.h s'.c∧Inv (i+1) xs sl' s') Q) (ov W sl v) ⟨h,c⟩) :
  acW P (.loop a) Q sl ⟨h0,c0⟩:=
 bz k W l (fun i r sl' s'=>Fr cb hb s'.h s'.c∧Inv i r sl' s') hW hk hi0 (fun v s' hv hi=>hend v s'.h s'.c hv hi.1 hi.2) fun i x xs v s' h1 h2 h3 h4 hi=>hstep i x xs v s'.h s'.c h1 h2 h3 h4 hi.1 hi.2
theorem wl {t:Nat} {ag:Option Nat} {x:X} {sl:Slots} {s:St}:ed (t,none,.ld ag x) sl s↔ldI ag (x.ev sl) s=some (sl t):=by
 simp only [ed,gdI,aH]
 constructor
 ·rintro (h | ⟨_,h⟩)
  ·cases h
  ·cases hl:ldI ag (x.ev sl) s with
   | none=>rw [hl] at h; cases h
   | some v=>rw [hl] at h; simp at h; rw [h]
 ·intro h
  exact .inr ⟨trivial,by rw [h]; rfl⟩
attribute [simp] wl
theorem oI {es:List (List AV)} {b:Bool} {s:St} {F:Bx (AV→St→Prop)} (h:es=[]→F.v (.bool true) s) (h':F.v (.bool false) s):@qJ .eql (.sl es b) s F:=by
 show (BinOp.eql=.eql∨BinOp.eql=.neq)∧_
 refine ⟨.inl rfl,?_⟩
 cases es with
 | nil=>exact ⟨h rfl,h'⟩
 | cons e es=>exact h'
theorem jk {c g:Nat} {h h':Heap} {b:Option Body} (hg:g<c):retH c h (upd h' g b)=upd (retH c h h') g b:=by
 funext k
 show (if k<c then (if k=g then b else h' k) else h k)=if k=g then b else (if k<c then h' k else h k)
 by_cases hk:k<c
 ·rw [if_pos hk,if_pos hk]
 ·rw [if_neg hk,if_neg hk,if_neg (by omega)]
def Nm (m:List (ByteArray×Bool)) (N:List ByteArray):Prop:=∀ x,((cu m x).getD false)=N.any fun r=>decide (x=r)
theorem Nm.nil:Nm [] []:=fun x=>rfl
theorem Nm.add {m:List (ByteArray×Bool)} {N:List ByteArray} (h:Nm m N) (k:ByteArray):Nm (cB m k true) (N++[k]):=by
 intro x
 rw [iV]
 by_cases hx:x=k
 ·simp [hx]
 ·rw [if_neg hx,h x]; simp [hx]
theorem Nm.look {m:List (ByteArray×Bool)} {N:List ByteArray} (h:Nm m N) {g ver:Nat} {s:St} (hg:s.h g=some (.map (kvs AV.str AV.bool m) ver)) (x:ByteArray) :
  lkI (.one .str) (.bool false) false (.map g) (.str x) s=some (.bool (N.any fun r=>decide (x=r))):=by
 rw [kJ fp hg,←h x]
 cases cu m x <;> rfl
@[simp] theorem yY {f:Int→Int→Int} {k k':IntKind} {a b:Int}:gq f [.sc (.int k a),.sc (.int k' b)]=some (.sc (.int k (f a b))):=Eq.trans rfl rfl
@[simp] theorem xn {f:Int→Int→Int} {k k' k'':IntKind} {a b c:Int}:gq f [.sc (.int k a),.sc (.int k' b),.sc (.int k'' c)]=some (.sc (.int k (f (f a b) c))):=Eq.trans rfl rfl
theorem vc {sz n:Nat} {es:List (List AV)} {full:Bool} (hn:n≤es.length) (hes:∀ e∈es,e.length=sz):srI sz (.sl es full) none (some (.sc (.int .i64 (n:Int)))) none=some (.sl (es.take n) (full&&n==es.length)):=by
 have h1:es.all (fun e=>e.length==sz)=true:=List.all_eq_true.2 fun e he=>by simp [hes e he]
 have h2:(n:Int)≤es.length:=by omega
 simp [srI,h1,bnd,h2]
end Go.AM
