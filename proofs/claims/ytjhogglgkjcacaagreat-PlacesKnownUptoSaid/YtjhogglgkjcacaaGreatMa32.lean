/- Part of the claim: see its last text. -/
import Derived.Test.YtjhogglgkjcacaaGreatMa31
set_option linter.all false
namespace Go.AM
theorem jo {sz bytes g len:Nat} {md:Md} {es xs:List (List AV)} {b:Bool} {s:St} (hmd:md≠.fork) (hg:s.h g=some (.row sz es .live none)) (hlen:es.length=len) (h0:0<sz) (hb:0<bytes) (hb':bytes≤2048)
  (hall:∀ e∈xs,aB sz e=true) (hm:len+xs.length≤68719476736) :
  apI sz bytes md (.row g sz 0 len) (.sl xs b) s=some (.row s.c sz 0 (len+xs.length),⟨upd (upd s.h g none) s.c (some (.row sz (es++xs) .live none)),s.c+1⟩):=by
 subst hlen
 have h1:xs.all (aB sz)=true:=List.all_eq_true.2 hall
 simp only [apI,St.show_,h0,hb,h1,dT,and_self,if_true,hg,hb',hm,hmd,if_false]
theorem bV {sz bytes g len:Nat} {md:Md} {es:List (List AV)} {x:List AV} {b:Bool} {s:St} (hmd:md≠.fork) (hg:s.h g=some (.row sz es .live none)) (hlen:es.length=len) (h0:0<sz) (hb:0<bytes) (hb':bytes≤2048)
  (hx:aB sz x=true) (hm:len+1≤68719476736) :
  apI sz bytes md (.row g sz 0 len) (.sl [x] b) s=some (.row s.c sz 0 (len+1),⟨upd (upd s.h g none) s.c (some (.row sz (es++[x]) .live none)),s.c+1⟩):=
 jo hmd hg hlen h0 hb hb' (fun e he=>by simp at he; rw [he]; exact hx) hm
theorem cZ {sz bytes:Nat} {md:Md} {es xs:List (List AV)} {b:Bool} {s:St} (h0:0<sz) (hb:0<bytes) (hb':bytes≤2048) (hes:∀ e∈es,aB sz e=true)
  (hall:∀ e∈xs,aB sz e=true) (hm:es.length+xs.length≤68719476736) (hne:xs≠[]∨es=[]) :
  apI sz bytes md (.sl es true) (.sl xs b) s=some (.row s.c sz 0 (es.length+xs.length),AM.newRow sz (es++xs) s):=by
 have h1:xs.all (aB sz)=true:=List.all_eq_true.2 hall
 have h2:es.all (aB sz)=true:=List.all_eq_true.2 hes
 have h3:(xs.isEmpty&&!es.isEmpty)=false:=by
  rcases hne with h | h
  ·cases xs <;> simp_all
  ·subst h; simp
 simp only [apI,St.show_,h0,hb,h1,h2,h3,dT,and_self,if_true,hb',hm,Bool.false_eq_true,if_false]
theorem cQ {sz g z len:Nat} {es:List (List AV)} {s:St} (hg:s.h g=some (.row sz es .live none)) (hlen:es.length=len):fz1 (.row g z 0 len) s=some (.sl (aW es) false,⟨upd s.h g (some (.row sz es .frz none)),s.c⟩):=by
 subst hlen
 simp [hg]
theorem pF {α:Type} {P:Program} {a:AC} {Q:Ex→Slots→St→Prop} (k:Nat) (W:List Nat) (l:List α) (cb:Nat) (hb:Heap) (Inv:Nat→List α→Slots→St→Prop) {sl:Slots} {h0:Heap} {c0:Nat} (hW:gS a.wr W=true) (hk:W.elem k=true) (hi0:sl k=.int 0∧Fr cb hb h0 c0∧Inv 0 l sl ⟨h0,c0⟩)
  (hend:∀ v h c,v k=.int l.length→Fr cb hb h c→Inv l.length [] (ov W sl v) ⟨h,c⟩→acW P a (eC (fun _ _=>False) Q) (ov W sl v) ⟨h,c⟩)
  (hstep:∀ i x xs v h c (hi:i<l.length),l[i]=x→l=l.take i++x::xs→v k=.int i→Fr cb hb h c→Inv i (x::xs) (ov W sl v) ⟨h,c⟩ →
   acW P a (eC (fun sl' s'=>sl' k=.int (i+1)∧Fr cb hb s'.h s'.c∧Inv (i+1) xs sl' s') Q) (ov W sl v) ⟨h,c⟩) :
  acW P (.loop a) Q sl ⟨h0,c0⟩:=
 bq k W l (fun i r sl' s'=>Fr cb hb s'.h s'.c∧Inv i r sl' s') hW hk hi0 (fun v s' hv hi=>hend v s'.h s'.c hv hi.1 hi.2) fun i x xs v s' h1 h2 h3 h4 hi=>hstep i x xs v s'.h s'.c h1 h2 h3 h4 hi.1 hi.2
theorem v7 {t:Nat} {ag:Option Nat} {x:X} {sl:Slots} {s:St}:eA (t,none,.ld ag x) sl s↔ldI ag (x.ev sl) s=some (sl t):=by
 simp only [eA,gdI,aJ]
 constructor
 ·rintro (h | ⟨_,h⟩)
  ·cases h
  ·cases hl:ldI ag (x.ev sl) s with
   | none=>rw [hl] at h; cases h
   | some v=>rw [hl] at h; simp at h; rw [h]
 ·intro h
  exact .inr ⟨trivial,by rw [h]; rfl⟩
attribute [simp] v7
theorem lE {es:List (List AV)} {b:Bool} {s:St} {F:Bx (AV→St→Prop)} (h:es=[]→F.v (.bool true) s) (h':F.v (.bool false) s):@u5 .eql (.sl es b) s F:=by
 show (BinOp.eql=.eql∨BinOp.eql=.neq)∧_
 refine ⟨.inl rfl,?_⟩
 cases es with
 | nil=>exact ⟨h rfl,h'⟩
 | cons e es=>exact h'
theorem jg {c g:Nat} {h h':Heap} {b:Option Body} (hg:g<c):retH c h (upd h' g b)=upd (retH c h h') g b:=by
 funext k
 show (if k<c then (if k=g then b else h' k) else h k)=if k=g then b else (if k<c then h' k else h k)
 by_cases hk:k<c
 ·rw [if_pos hk,if_pos hk]
 ·rw [if_neg hk,if_neg hk,if_neg (by omega)]
def Nm (m:List (ByteArray×Bool)) (N:List ByteArray):Prop:=∀ x,((bS m x).getD false)=N.any fun r=>decide (x=r)
theorem Nm.nil:Nm [] []:=fun x=>rfl
theorem Nm.add {m:List (ByteArray×Bool)} {N:List ByteArray} (h:Nm m N) (k:ByteArray):Nm (dC m k true) (N++[k]):=by
 intro x
 rw [oA]
 by_cases hx:x=k
 ·simp [hx]
 ·rw [if_neg hx,h x]; simp [hx]
theorem Nm.look {m:List (ByteArray×Bool)} {N:List ByteArray} (h:Nm m N) {g ver:Nat} {s:St} (hg:s.h g=some (.map (kvs AV.str AV.bool m) ver)) (x:ByteArray) :
  lkI (.one .str) (.bool false) false (.map g) (.str x) s=some (.bool (N.any fun r=>decide (x=r))):=by
 rw [jw ew hg,←h x]
 cases bS m x <;> rfl
@[simp] theorem yM {f:Int→Int→Int} {k k':IntKind} {a b:Int}:gE f [.sc (.int k a),.sc (.int k' b)]=some (.sc (.int k (f a b))):=Eq.trans rfl rfl
@[simp] theorem wY {f:Int→Int→Int} {k k' k'':IntKind} {a b c:Int}:gE f [.sc (.int k a),.sc (.int k' b),.sc (.int k'' c)]=some (.sc (.int k (f (f a b) c))):=Eq.trans rfl rfl
theorem mJ {sz n:Nat} {es:List (List AV)} {full:Bool} (hn:n≤es.length) (hes:∀ e∈es,e.length=sz):srI sz (.sl es full) none (some (.sc (.int .i64 (n:Int)))) none=some (.sl (es.take n) (full&&n==es.length)):=by
 have h1:es.all (fun e=>e.length==sz)=true:=List.all_eq_true.2 fun e he=>by simp [hes e he]
 have h2:(n:Int)≤es.length:=by omega
 simp [srI,h1,bnd,h2]
end Go.AM
