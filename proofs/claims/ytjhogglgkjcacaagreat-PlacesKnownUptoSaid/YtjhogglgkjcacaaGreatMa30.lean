/- Part of the claim: see its last text. -/
import Derived.Test.YtjhogglgkjcacaaGreatMa29
set_option linter.all false
namespace Go.AM
mutual
def small:AV→Prop
 | .agg cs=>eI cs
 | .tup cs=>eI cs
 | .sl es _=>es.length≤68719476736∧nC es
 | _=>True
def eI:List AV→Prop
 | []=>True
 | v::vs=>small v∧eI vs
def nC:List (List AV)→Prop
 | []=>True
 | e::es=>eI e∧nC es
end
theorem gQ:∀ {cs:List AV},(∀ (j:Nat) (c:AV),cs[j]?=some c→small c)→eI cs
 | [],_=>trivial
 | c::cs,h=>⟨h 0 c rfl,gQ fun j d hd=>h (j+1) d (by simpa using hd)⟩
theorem oP:∀ {es:List (List AV)},(∀ (i:Nat) (e:List AV) (j:Nat) (c:AV),es[i]?=some e→e[j]?=some c→small c)→nC es
 | [],_=>trivial
 | e::es,h=>⟨gQ fun j c hc=>h 0 e j c rfl hc,oP fun i x j c hx hc=>h (i+1) x j c (by simpa using hx) hc⟩
theorem Rep.small {G:Gh} {a:AV} {v:Value} (h:Rep G a v):small a:=by
 induction h with
 | agg cs vs hl _ ih=>
  refine gQ fun j c hc=>?_
  have hj:j<vs.size:=by rw [←hl]; exact (List.getElem?_eq_some_iff.1 hc).1
  exact ih j c vs[j] hc (Array.getElem?_eq_getElem hj)
 | tup cs vs hl _ ih=>
  refine gQ fun j c hc=>?_
  have hj:j<vs.size:=by rw [←hl]; exact (List.getElem?_eq_some_iff.1 hc).1
  exact ih j c vs[j] hc (Array.getElem?_eq_getElem hj)
 | sl es full a cap b o sz f hc hf ha hz hm _ hb ih=>exact ⟨hb,oP ih⟩
 | _=>simp [AM.small]
theorem RepL.small {G:Gh} {as:List AV} {vs:List Value} (h:RepL G as vs):eI as:=gQ fun j c hc=>by
 obtain ⟨v,_,hr⟩:=h.get hc
 exact hr.small
theorem ACalls.small {P:Program} {f:FuncId} {args:List AV} {s:St} {R:AV→St→Prop} (h:eI args→ACalls P f args s R):ACalls P f args s R:=
 fun G w vs hS hv=>h hv.small G w vs hS hv
@[simp] theorem yr:eI []=True:=Eq.trans rfl rfl
@[simp] theorem xl {v:AV} {vs:List AV}:eI (v::vs)=(small v∧eI vs):=Eq.trans rfl rfl
@[simp] theorem zT {v:Value}:small (.sc v)=True:=Eq.trans rfl rfl
@[simp] theorem zh {cs:List AV}:small (.agg cs)=eI cs:=Eq.trans rfl rfl
@[simp] theorem zU {es:List (List AV)} {b:Bool}:small (.sl es b)=(es.length≤68719476736∧nC es):=Eq.trans rfl rfl
@[simp] theorem zj {g e o:Nat}:small (.ptr g e o)=True:=Eq.trans rfl rfl
@[simp] theorem zV {cs:List AV} {o:Nat}:small (.zp cs o)=True:=Eq.trans rfl rfl
@[simp] theorem zk {g z o n:Nat}:small (.row g z o n)=True:=Eq.trans rfl rfl
@[simp] theorem zi {g:Nat}:small (.map g)=True:=Eq.trans rfl rfl
@[simp] theorem zS {f:Fn} {a b:List AV}:small (.fn f a b)=True:=Eq.trans rfl rfl
def fO (l:List AO):List Nat:=l.filterMap (·.dst)
def AC.wr:AC→List Nat
 | .ops l=>fO l
 | .roam a pre post=>fO (a::(pre.map (·.2)++post))
 | .seq a b=>a.wr++b.wr
 | .cond _ a b=>a.wr++b.wr
 | .block _ a=>a.wr
 | .loop a=>a.wr
 | _=>[]
theorem oH {sl:Slots} {d:Option Nat} {v:AV} {t:Nat} (h:d≠some t):put sl d v t=sl t:=by
 unfold put
 split
 ·rename_i d; exact if_neg fun e=>h (by rw [e])
 ·rfl
theorem ir {o:AO} {r:List AO} {t:Nat} (h:t∉fO (o::r)):o.dst≠some t∧t∉fO r:=by
 unfold fO at *
 rw [List.filterMap_cons] at h
 split at h
 ·rename_i e; exact ⟨by rw [e]; simp,h⟩
 ·rename_i d e
  simp only [List.mem_cons,not_or] at h
  exact ⟨by rw [e]; simpa using Ne.symm h.1,h.2⟩
theorem iv {P:Program}:∀ (l:List AO) {K:Slots→St→Prop} {sl:Slots} {s:St},aN P l K sl s→aN P l (fun sl' s'=>K sl' s'∧∀ t,t∉fO l→sl' t=sl t) sl s
 | [],_,_,_,h=>⟨h,fun _ _=>rfl⟩
 | o::r,_,_,_,h=>by
  simp only [aN] at h ⊢
  split at h
  ·exact df r (iv r h) fun sl' s' k=>⟨k.1,fun t ht=>by rw [k.2 t (ir ht).2,oH (ir ht).1]⟩
  ·refine gu h fun v s' hv=>?_
   split at hv
   ·exact ⟨hv.1,df r (iv r hv.2) fun sl' s' k=>⟨k.1,fun t ht=>by rw [k.2 t (ir ht).2,oH (ir ht).1]⟩⟩
   ·exact hv
  ·exact h
theorem mF {P:Program} {a:AO} {post:List AO}:∀ (r:List (Bool×AO)) {K:Slots→St→Prop} {sl:Slots} {s:St},cg P a post K r sl s →
  cg P a post (fun sl' s'=>K sl' s'∧∀ t,t∉fO (a::(r.map (·.2)++post))→sl' t=sl t) r sl s
 | [],_,_,_,h=>iv _ h
 | (b,e)::r,_,_,_,h=>by
  have hd:∀ t,t∉fO (a::(List.map (·.2) ((b,e)::r)++post))→t∉fO (a::(r.map (·.2)++post))∧t∉fO [e]∧t∉fO (a::e::(r.map (·.2)++post)):=by
   intro t ht
   have h1:=ir ht
   have h2:=ir h1.2
   refine ⟨?_,?_,ht⟩
   ·unfold fO; rw [List.filterMap_cons]; split
    ·exact h2.2
    ·rename_i d hd; rw [List.mem_cons,not_or]; exact ⟨fun e=>h1.1 (by rw [hd,e]),h2.2⟩
   ·unfold fO; rw [List.filterMap_cons]; split
    ·simp
    ·rename_i d hd; simp; exact fun e=>h2.1 (by rw [hd,e])
  refine ⟨fun hb=>?_,?_⟩
  ·exact df _ (iv _ (h.1 hb)) fun sl' s' k=>⟨k.1,fun t ht=>k.2 t (hd t ht).2.2⟩
  ·exact df _ (iv _ h.2) fun sl' s' k=>ij r (mF r k.1) fun sl2 s2 k2=>⟨k2.1,fun t ht=>by rw [k2.2 t (hd t ht).1,k.2 t (hd t ht).2.1]⟩
theorem gJ {P:Program}:∀ (a:AC) {Q:Ex→Slots→St→Prop} {sl:Slots} {s:St},acW P a Q sl s→acW P a (fun e sl' s'=>Q e sl' s'∧∀ t,t∉a.wr→sl' t=sl t) sl s
 | .skip,_,_,_,h=>⟨h,fun _ _=>rfl⟩
 | .ops l,_,_,_,h=>iv l h
 | .roam a pre post,_,_,_,h=>mF pre h
 | .seq a b,Q,sl,s,h=>by
  simp only [acW] at h ⊢
  refine bL a (gJ a h) fun e sl1 s1 he=>?_
  obtain ⟨he,hf⟩:=he
  have hmono:∀ t,t∉(AC.seq a b).wr→sl1 t=sl t:=fun t ht=>hf t fun h=>ht (by simp [AC.wr,h])
  cases e with
  | normal=>exact bL b (gJ b he) fun e sl2 s2 k=>⟨k.1,fun t ht=>by rw [k.2 t fun h=>ht (by simp [AC.wr,h]),hmono t ht]⟩
  | exit id=>exact ⟨he,hmono⟩
  | ret=>exact ⟨he,hmono⟩
 | .cond c a b,Q,sl,s,h=>by
  simp only [acW] at h ⊢
  split at h
  ·rename_i t ht
   split at h
   ·rename_i hb; rw [if_pos hb]
    exact bL a (gJ a h) fun e sl' s' k=>⟨k.1,fun t ht=>k.2 t fun h=>ht (by simp [AC.wr,h])⟩
   ·rename_i hb; rw [if_neg hb]
    exact bL b (gJ b h) fun e sl' s' k=>⟨k.1,fun t ht=>k.2 t fun h=>ht (by simp [AC.wr,h])⟩
  ·exact h
 | .block id a,Q,sl,s,h=>by
  simp only [acW] at h ⊢
  refine bL a (gJ a h) fun e sl1 s1 he=>?_
  obtain ⟨he,hf⟩:=he
  cases e with
  | normal=>exact ⟨he,hf⟩
  | exit i=>
   simp only at he ⊢
   split at he
   ·rename_i hi; rw [if_pos hi]; exact ⟨he,hf⟩
   ·rename_i hi; rw [if_neg hi]; exact ⟨he,hf⟩
  | ret=>exact ⟨he,hf⟩
 | .loop a,Q,sl,s,h=>by
  simp only [acW] at h ⊢
  obtain ⟨n,hn⟩:=h
  refine ⟨n,?_⟩
  have key:∀ n sl1 s1,(∀ t,t∉a.wr→sl1 t=sl t)→eN (acW P a) Q n sl1 s1→eN (acW P a) (fun e sl' s'=>Q e sl' s'∧∀ t,t∉a.wr→sl' t=sl t) n sl1 s1:=by
   intro n
   induction n with
   | zero=>intro sl1 s1 _ h; exact h
   | succ n ih=>
    intro sl1 s1 h1 h
    simp only [eN] at h ⊢
    refine bL a (gJ a h) fun e sl2 s2 he=>?_
    obtain ⟨he,hf⟩:=he
    have h2:∀ t,t∉a.wr→sl2 t=sl t:=fun t ht=>by rw [hf t ht,h1 t ht]
    cases e with
    | normal=>exact ih sl2 s2 h2 he
    | exit id=>exact ⟨he,h2⟩
    | ret=>exact ⟨he,h2⟩
  exact key n sl s (fun _ _=>rfl) hn
 | .exit id,_,_,_,h=>⟨h,fun _ _=>rfl⟩
 | .ret,_,_,_,h=>⟨h,fun _ _=>rfl⟩
def ov (W:List Nat) (sl v:Slots):Slots:=fun t=>if W.elem t=true then v t else sl t
@[simp] theorem ov_get {W:List Nat} {sl v:Slots} {t:Nat}:ov W sl v t=if W.elem t=true then v t else sl t:=Eq.trans rfl rfl
theorem rR {W:List Nat} {sl v:Slots} (h:∀ t,t∉W→v t=sl t):ov W sl v=v:=by
 funext t
 unfold ov
 split
 ·rfl
 ·rename_i ht; exact (h t (by simpa using ht)).symm
def gS (a W:List Nat):Bool:=a.all (W.elem ·)
theorem ll {a W:List Nat} (h:gS a W=true) {t:Nat} (ht:t∉W):t∉a:=by
 intro h'
 have:=List.all_eq_true.1 h t h'
 simp at this
 exact ht this
theorem co {P:Program} {a:AC} {Q:Ex→Slots→St→Prop} (W:List Nat) (hW:gS a.wr W=true) (Inv:Nat→Slots→St→Prop) (n:Nat) {sl:Slots} {s:St} (h0:Inv n sl s)
  (step:∀ n v s,Inv n (ov W sl v) s→acW P a (eC (fun sl' s'=>∃ m,m<n∧Inv m sl' s') Q) (ov W sl v) s):acW P (.loop a) Q sl s:=by
 refine iB (fun n sl' s'=>Inv n sl' s'∧∀ t,t∉W→sl' t=sl t) n ⟨h0,fun _ _=>rfl⟩ ?_
 rintro n sl1 s1 ⟨h1,h2⟩
 have e:=rR h2
 rw [←e] at h1
 have:=gJ a (step n sl1 s1 h1)
 rw [e] at this
 refine bL a this fun e sl2 s2 he=>?_
 obtain ⟨he,hf⟩:=he
 cases e with
 | normal=>
  obtain ⟨m,hm,hi⟩:=he
  exact ⟨m,hm,hi,fun t ht=>by rw [hf t (ll hW ht),h2 t ht]⟩
 | exit id=>exact he
 | ret=>exact he
theorem bq {α:Type} {P:Program} {a:AC} {Q:Ex→Slots→St→Prop} (k:Nat) (W:List Nat) (l:List α) (Inv:Nat→List α→Slots→St→Prop) {sl:Slots} {s:St} (hW:gS a.wr W=true) (hk:W.elem k=true) (h0:sl k=.int 0∧Inv 0 l sl s)
  (hend:∀ v s,v k=.int l.length→Inv l.length [] (ov W sl v) s→acW P a (eC (fun _ _=>False) Q) (ov W sl v) s)
  (hstep:∀ i x xs v s (hi:i<l.length),l[i]=x→l=l.take i++x::xs→v k=.int i→Inv i (x::xs) (ov W sl v) s→acW P a (eC (fun sl' s'=>sl' k=.int (i+1)∧Inv (i+1) xs sl' s') Q) (ov W sl v) s) :
  acW P (.loop a) Q sl s:=by
 refine co W hW (fun n sl' s'=>∃ i,i+n=l.length∧sl' k=.int i∧Inv i (l.drop i) sl' s') l.length ⟨0,by omega,h0.1,by simpa using h0.2⟩ ?_
 rintro n v s1 ⟨i,hi,hik,hinv⟩
 have hkm:k∈W:=by simpa using hk
 have hvk:v k=.int i:=by simpa [ov,hkm] using hik
 by_cases hlt:i<l.length
 ·have hd:l.drop i=l[i]::l.drop (i+1):=List.drop_eq_getElem_cons hlt
  rw [hd] at hinv
  refine bL a (hstep i l[i] (l.drop (i+1)) v s1 hlt rfl (by rw [←hd,List.take_append_drop]) hvk hinv) fun e sl2 s2 he=>?_
  cases e with
  | normal=>exact ⟨n-1,by omega,i+1,by omega,by simpa using he.1,he.2⟩
  | exit id=>exact he
  | ret=>exact he
 ·have hil:i=l.length:=by omega
  subst hil
  rw [List.drop_length] at hinv
  refine bL a (hend v s1 hvk hinv) fun e sl2 s2 he=>?_
  cases e with
  | normal=>exact he.elim
  | exit id=>exact he
  | ret=>exact he
def aO (P:Program) (f:FuncId) (args:List AV) (v:AV):Prop:=∀ s:St,ACalls P f args s fun av s'=>av=v∧s'.h=s.h
theorem ACalls.pure {P:Program} {f:FuncId} {args:List AV} {v:AV} {h:Heap} {c:Nat} {K:AV→St→Prop} (hp:aO P f args v) (hk:∀ c',c≤c'→K v ⟨h,c'⟩):ACalls P f args ⟨h,c⟩ K:=by
 refine (hp ⟨h,c⟩).mono fun av s' hc hr=>?_
 obtain ⟨rfl,hh⟩:=hr
 have:=hk s'.c hc
 obtain ⟨h',c'⟩:=s'
 simp only at hh
 subst hh
 exact this
theorem ACalls.quiet {P:Program} {f:FuncId} {args:List AV} {R:AV→Prop} {h:Heap} {c:Nat} {K:AV→St→Prop} (hp:ACalls P f args ⟨h,c⟩ fun av s'=>R av∧s'.h=h) (hk:∀ v c',R v→c≤c'→K v ⟨h,c'⟩):ACalls P f args ⟨h,c⟩ K:=by
 refine hp.mono fun av s' hc hr=>?_
 obtain ⟨hr,hh⟩:=hr
 have:=hk av s'.c hr hc
 obtain ⟨h',c'⟩:=s'
 simp only at hh
 subst hh
 exact this
structure Fr (c0:Nat) (h0:Heap) (h:Heap) (c:Nat):Prop where
 c:c0≤c
 h:∀ k,k<c0→h k=h0 k
theorem Fr.refl (h:Heap) (c:Nat):Fr c h h c:=⟨Nat.le_refl _,fun _ _=>rfl⟩
theorem Fr.le {c0 c:Nat} {h0:Heap} (h:c0≤c):Fr c0 h0 h0 c:=⟨h,fun _ _=>rfl⟩
theorem Fr.retH {c0 c:Nat} {h0 h:Heap} (hf:Fr c0 h0 h c):AM.retH c0 h0 h=h0:=aC hf.h
theorem Fr.upd {c0 g:Nat} {h0:Heap} {h:Heap} {c:Nat} {b:Option Body} (hf:Fr c0 h0 h c) (hg:c0≤g) {c':Nat} (hc:c≤c'):Fr c0 h0 (AM.upd h g b) c':=
 ⟨Nat.le_trans hf.c hc,fun k hk=>by rw [ad (by omega)]; exact hf.h k hk⟩
theorem Fr.trans {c0 c1 c:Nat} {h0 h1 h:Heap} (a:Fr c0 h0 h1 c1) (k:Fr c1 h1 h c):Fr c0 h0 h c:=
 ⟨Nat.le_trans a.c k.c,fun j hj=>by rw [k.h j (Nat.lt_of_lt_of_le hj a.c)]; exact a.h j hj⟩
theorem aX {α:Type} {P:Program} {a:AC} {Q:Ex→Slots→St→Prop} (k:Nat) (W:List Nat) (l:List α) (Inv:Nat→List α→Slots→St→Prop) {sl:Slots} {h0:Heap} {c0:Nat} (hW:gS a.wr W=true) (hk:W.elem k=true) (hi0:sl k=.int 0∧Inv 0 l sl ⟨h0,c0⟩)
  (hend:∀ v h c,v k=.int l.length→Fr c0 h0 h c→Inv l.length [] (ov W sl v) ⟨h,c⟩→acW P a (eC (fun _ _=>False) Q) (ov W sl v) ⟨h,c⟩)
  (hstep:∀ i x xs v h c (hi:i<l.length),l[i]=x→l=l.take i++x::xs→v k=.int i→Fr c0 h0 h c→Inv i (x::xs) (ov W sl v) ⟨h,c⟩ →
   acW P a (eC (fun sl' s'=>sl' k=.int (i+1)∧Fr c0 h0 s'.h s'.c∧Inv (i+1) xs sl' s') Q) (ov W sl v) ⟨h,c⟩) :
  acW P (.loop a) Q sl ⟨h0,c0⟩:=
 bq k W l (fun i r sl' s'=>Fr c0 h0 s'.h s'.c∧Inv i r sl' s') hW hk ⟨hi0.1,Fr.refl h0 c0,hi0.2⟩ (fun v s' hv hi=>hend v s'.h s'.c hv hi.1 hi.2) fun i x xs v s' h1 h2 h3 h4 hi=>hstep i x xs v s'.h s'.c h1 h2 h3 h4 hi.1 hi.2
theorem bT {α:Type} {P:Program} {a:AC} {Q:Ex→Slots→St→Prop} (k:Nat) (W:List Nat) (l:List α) (Inv:Nat→List α→Slots→Prop) {sl:Slots} {h0:Heap} {c0:Nat} (hW:gS a.wr W=true) (hk:W.elem k=true) (hi0:sl k=.int 0∧Inv 0 l sl)
  (hend:∀ v c,v k=.int l.length→c0≤c→Inv l.length [] (ov W sl v)→acW P a (eC (fun _ _=>False) Q) (ov W sl v) ⟨h0,c⟩)
  (hstep:∀ i x xs v c (hi:i<l.length),l[i]=x→l=l.take i++x::xs→v k=.int i→c0≤c→Inv i (x::xs) (ov W sl v) →
   acW P a (eC (fun sl' s'=>sl' k=.int (i+1)∧s'.h=h0∧c0≤s'.c∧Inv (i+1) xs sl') Q) (ov W sl v) ⟨h0,c⟩) :
  acW P (.loop a) Q sl ⟨h0,c0⟩:=
 bq k W l (fun i r sl' s'=>s'.h=h0∧c0≤s'.c∧Inv i r sl') hW hk ⟨hi0.1,rfl,Nat.le_refl _,hi0.2⟩
  (fun v s' hv hi=>by
   obtain ⟨h,c⟩:=s'
   obtain ⟨rfl,h2,h3⟩:=hi
   exact hend v c hv h2 h3)
  fun i x xs v s' h1 h2 h3 h4 hi=>by
   obtain ⟨h,c⟩:=s'
   obtain ⟨rfl,h5,h6⟩:=hi
   exact hstep i x xs v c h1 h2 h3 h4 h5 h6
attribute [simp] ad ka
def sle (x y:ByteArray):Bool:=Op.bytesLess x.toList y.toList||decide (x=y)
def slt (x y:ByteArray):Bool:=Op.bytesLess x.toList y.toList
@[simp] theorem strLe (a b:ByteArray):eT .leq a b=some (.bool (sle a b)):=by
 simp only [eT,sle]
 rw [←fB,beq_toListBytes]
@[simp] theorem strLt (a b:ByteArray):eT .lss a b=some (.bool (slt a b)):=Eq.trans rfl rfl
end Go.AM
