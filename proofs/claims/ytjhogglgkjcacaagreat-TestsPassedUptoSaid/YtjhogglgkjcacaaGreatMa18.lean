/- Part of the claim: see its last text. -/
import Derived.Test.YtjhogglgkjcacaaGreatMa17
set_option linter.all false
namespace Go.AM
@[simp] theorem fz1_sc {v:Value} {s:St}:fz1 (.sc v) s=some (.sc v,s):=Eq.trans rfl rfl
@[simp] theorem yZ {s:St}:fz1 .undef s=some (.undef,s):=Eq.trans rfl rfl
@[simp] theorem fz1_sl {es:List (List AV)} {f:Bool} {s:St}:fz1 (.sl es f) s=some (.sl (aP es) false,s):=Eq.trans rfl rfl
@[simp] theorem Ay {g e o:Nat} {s:St}:fz1 (.ptr g e o) s=some (.ptr g e o,s):=Eq.trans rfl rfl
@[simp] theorem fz1_zp {cs:List AV} {o:Nat} {s:St}:fz1 (.zp cs o) s=some (.zp cs o,s):=Eq.trans rfl rfl
@[simp] theorem Ax {g:Nat} {s:St}:fz1 (.map g) s=some (.map g,s):=Eq.trans rfl rfl
@[simp] theorem fz1_fn {f:Fn} {a b:List AV} {s:St}:fz1 (.fn f a b) s=some (.fn f a b,s):=Eq.trans rfl rfl
@[simp] theorem Aw {t:TypeId} {v:AV} {s:St}:fz1 (.ifc t v) s=some (.ifc t v,s):=Eq.trans rfl rfl
@[simp] theorem dK {g z off len:Nat} {s:St}:fz1 (.row g z off len) s=(match s.h g with
  | some (.row sz es st par)=>if off+len≤es.length∧par=none∧(st=.live∨st=.frz) then
    some (.sl (aP ((es.drop off).take len)) false,{ s with h:=upd s.h g (some (.row sz es .frz none)) }) else none
  | _=>none):=Eq.trans rfl rfl
@[simp] theorem AF {s:St}:fzL [] s=some ([],s):=Eq.trans rfl rfl
@[simp] theorem zL {v:AV} {vs:List AV} {s:St}:fzL (v::vs) s=(match fz1 v s with
  | some (v',s')=>match fzL vs s' with
   | some (vs',s'')=>some (v'::vs',s'')
   | none=>none
  | none=>none):=Eq.trans rfl rfl
@[simp] theorem Az {cs:List AV} {s:St}:fzI (.agg cs) s=(match fzL cs s with | some (cs',s')=>some (.agg cs',s') | none=>none):=Eq.trans rfl rfl
@[simp] theorem fzI_sc {v:Value} {s:St}:fzI (.sc v) s=fz1 (.sc v) s:=Eq.trans rfl rfl
@[simp] theorem y6 {s:St}:fzI .undef s=fz1 .undef s:=Eq.trans rfl rfl
@[simp] theorem fzI_sl {es:List (List AV)} {f:Bool} {s:St}:fzI (.sl es f) s=fz1 (.sl es f) s:=Eq.trans rfl rfl
@[simp] theorem AD {g e o:Nat} {s:St}:fzI (.ptr g e o) s=fz1 (.ptr g e o) s:=Eq.trans rfl rfl
@[simp] theorem fzI_zp {cs:List AV} {o:Nat} {s:St}:fzI (.zp cs o) s=fz1 (.zp cs o) s:=Eq.trans rfl rfl
@[simp] theorem AB {g:Nat} {s:St}:fzI (.map g) s=fz1 (.map g) s:=Eq.trans rfl rfl
@[simp] theorem fzI_fn {f:Fn} {a b:List AV} {s:St}:fzI (.fn f a b) s=fz1 (.fn f a b) s:=Eq.trans rfl rfl
@[simp] theorem AA {t:TypeId} {v:AV} {s:St}:fzI (.ifc t v) s=fz1 (.ifc t v) s:=Eq.trans rfl rfl
@[simp] theorem AE {g z off len:Nat} {s:St}:fzI (.row g z off len) s=fz1 (.row g z off len) s:=Eq.trans rfl rfl
@[simp] theorem AL {vs:List AV} {s:St}:fzR (.tup vs) s=(match fzR.go vs s with | some (vs',s')=>some (.tup vs',s') | none=>none):=Eq.trans rfl rfl
@[simp] theorem y8 {s:St}:fzR.go [] s=some ([],s):=Eq.trans rfl rfl
@[simp] theorem xW {v:AV} {vs:List AV} {s:St}:fzR.go (v::vs) s=(match fzI v s with
   | some (v',s')=>match fzR.go vs s' with
    | some (vs',s'')=>some (v'::vs',s'')
    | none=>none
   | none=>none):=Eq.trans rfl rfl
@[simp] theorem AG {cs:List AV} {s:St}:fzR (.agg cs) s=fzI (.agg cs) s:=Eq.trans rfl rfl
@[simp] theorem fzR_sc {v:Value} {s:St}:fzR (.sc v) s=fz1 (.sc v) s:=Eq.trans rfl rfl
@[simp] theorem y7 {s:St}:fzR .undef s=fz1 .undef s:=Eq.trans rfl rfl
@[simp] theorem fzR_sl {es:List (List AV)} {f:Bool} {s:St}:fzR (.sl es f) s=fz1 (.sl es f) s:=Eq.trans rfl rfl
@[simp] theorem AJ {g e o:Nat} {s:St}:fzR (.ptr g e o) s=fz1 (.ptr g e o) s:=Eq.trans rfl rfl
@[simp] theorem fzR_zp {cs:List AV} {o:Nat} {s:St}:fzR (.zp cs o) s=fz1 (.zp cs o) s:=Eq.trans rfl rfl
@[simp] theorem AI {g:Nat} {s:St}:fzR (.map g) s=fz1 (.map g) s:=Eq.trans rfl rfl
@[simp] theorem fzR_fn {f:Fn} {a b:List AV} {s:St}:fzR (.fn f a b) s=fz1 (.fn f a b) s:=Eq.trans rfl rfl
@[simp] theorem AH {t:TypeId} {v:AV} {s:St}:fzR (.ifc t v) s=fz1 (.ifc t v) s:=Eq.trans rfl rfl
@[simp] theorem AK {g z off len:Nat} {s:St}:fzR (.row g z off len) s=fz1 (.row g z off len) s:=Eq.trans rfl rfl
@[simp] theorem xh {s0 s:St} {r:AV}:dm .frz s0 r s=(fzR r s).map fun p=>(p.1,{ h:=retH s0.c s0.h p.2.h,c:=p.2.c }):=Eq.trans rfl rfl
@[simp] theorem qh {s0 s:St} {r:AV}:dm .keep s0 r s=some (r,s):=Eq.trans rfl rfl
@[simp] theorem wz {s0 s:St} {g sz off len:Nat}:dm .fresh s0 (.row g sz off len) s=(match s.h g with
   | some (.row _ _ .live none)=>some (.row g sz off len,{ h:=upd (retH s0.c s0.h s.h) g (s.h g),c:=s.c })
   | _=>none):=Eq.trans rfl rfl
@[simp] theorem AT {ag:Option Nat} {g e o:Nat} {s:St}:ldI ag (.ptr g e o) s=(s.elem g e).bind (cG ag · o):=Eq.trans rfl rfl
@[simp] theorem ldI_zp {ag:Option Nat} {cs:List AV} {o:Nat} {s:St}:ldI ag (.zp cs o) s=cG ag cs o:=Eq.trans rfl rfl
@[simp] theorem wA {cs:List AV} {o:Nat}:cG none cs o=cs[o]?:=Eq.trans rfl rfl
@[simp] theorem wB {cs:List AV} {o n:Nat}:cG (some n) cs o=if o+n≤cs.length then some (.agg ((cs.drop o).take n)) else none:=Eq.trans rfl rfl
@[simp] theorem Ar {off g e o:Nat}:faI off (.ptr g e o)=some (.ptr g e (o+off)):=Eq.trans rfl rfl
@[simp] theorem faI_zp {off o:Nat} {cs:List AV}:faI off (.zp cs o)=some (.zp cs (o+off)):=Eq.trans rfl rfl
@[simp] theorem As {ag:Option Nat} {off:Nat} {cs:List AV}:fdI ag off (.agg cs)=cG ag cs off:=Eq.trans rfl rfl
@[simp] theorem asI_sc {k:IntKind} {n:Int}:asI (.sc (.int k n))=some n:=Eq.trans rfl rfl
@[simp] theorem iaI_sl {sz:Nat} {es:List (List AV)} {f:Bool} {k:IntKind} {n:Int}:iaI sz (.sl es f) (.sc (.int k n))=if 0≤n then match es[n.toNat]? with
   | some cs=>if cs.length=sz then some (.zp cs 0) else none
   | none=>none
   else none:=Eq.trans rfl rfl
@[simp] theorem AS {sz g z off len:Nat} {k:IntKind} {n:Int}:iaI sz (.row g z off len) (.sc (.int k n))=if sz=z∧0≤n∧n<len then some (.ptr g (off+n.toNat) 0) else none:=Eq.trans rfl rfl
@[simp] theorem ixI_sc {b:ByteArray} {k:IntKind} {n:Int}:ixI (.sc (.string b)) (.sc (.int k n))=if 0≤n then (b[n.toNat]?).map fun b=>.sc (.int .u8 b.toNat) else none:=Eq.trans rfl rfl
@[simp] theorem zR {b:ByteArray} {s:St}:dT 0 (.sc (.string b)) s=some (.int b.size):=Eq.trans rfl rfl
@[simp] theorem AU {es:List (List AV)} {f:Bool} {s:St}:dT 1 (.sl es f) s=some (.int es.length):=Eq.trans rfl rfl
@[simp] theorem zQ {g z off len:Nat} {s:St}:dT 1 (.row g z off len) s=some (.int len):=Eq.trans rfl rfl
@[simp] theorem zP {g:Nat} {s:St}:dT 2 (.map g) s=(match s.h g with
  | some (.map kv _)=>some (.int kv.length)
  | _=>none):=Eq.trans rfl rfl
@[simp] theorem Ak {op:BinOp} {a b:Value}:eL .sc op (.sc a) (.sc b)=(eC op a b).map .sc:=Eq.trans rfl rfl
@[simp] theorem Aj {op:BinOp} {a b:Value}:eL .bl op (.sc a) (.sc b)=(iO op a b).map .sc:=Eq.trans rfl rfl
@[simp] theorem zG {op:BinOp} {ks:List FK} {a b:List AV}:eL (.eqAgg ks) op (.agg a) (.agg b)=(cq ks a b).bind (iB op):=Eq.trans rfl rfl
@[simp] theorem yL {a b:Bool}:iO .eql (.bool a) (.bool b)=some (.bool (decide (a=b))):=by cases a <;> cases b <;> rfl
@[simp] theorem yM {a b:Bool}:iO .neq (.bool a) (.bool b)=some (.bool (!decide (a=b))):=by cases a <;> cases b <;> rfl
@[simp] theorem Aq {vs:List AV} {i:Nat}:exI (.tup vs) i=vs[i]?:=Eq.trans rfl rfl
@[simp] theorem Am {k k':IntKind} {n:Int} {s:St}:cvI (.int k) (.sc (.int k' n)) s=some (.sc (.int k (k.wrap n))):=Eq.trans rfl rfl
@[simp] theorem zH {a:ByteArray} {s:St}:cvI .same (.sc (.string a)) s=some (.sc (.string a)):=Eq.trans rfl rfl
def ncI:AV→Option AV
 | .ptr g e o=>some (.ptr g e o)
 | .zp cs o=>some (.zp cs o)
 | .fn (.func f) a b=>some (.fn (.func f) a b)
 | _=>none
def oG (P:Program) (b:AC) (Q:Ex→Slots→St→Prop):Ex→Slots→St→Prop:=fun e sl' s'=>match e with | .normal=>acW P b Q sl' s' | e=>Q e sl' s'
def ju (id:Nat) (Q:Ex→Slots→St→Prop):Ex→Slots→St→Prop:=fun e sl' s'=>match e with | .exit i=>if i=id then Q .normal sl' s' else Q (.exit i) sl' s' | e=>Q e sl' s'
def eg (N:Slots→St→Prop) (Q:Ex→Slots→St→Prop):Ex→Slots→St→Prop:=fun e sl' s'=>match e with | .normal=>N sl' s' | e=>Q e sl' s'
class Bx (α:Type) where
 v:α
def pz (v:AV) [A:Bx Prop] [B:Bx Prop]:Prop:=match v with
 | .sc (.bool t)=>if t=true then A.v else B.v
 | _=>False
def oq (v:AV) (b:Bool) [A:Bx Prop] [B:Bx Prop]:Prop:=match v with
 | .sc (.bool b')=>if b'=b then A.v else B.v
 | .tup []=>B.v
 | _=>False
def cw (o:Option AV) (s:St) [F:Bx (AV→St→Prop)]:Prop:=match o with
 | some v=>F.v v s
 | none=>False
def dg (o:Option (AV×St)) [F:Bx (AV→St→Prop)]:Prop:=match o with
 | some (v,s)=>F.v v s
 | none=>False
def jJ (o:Option St) (v:AV) [F:Bx (AV→St→Prop)]:Prop:=match o with
 | some s=>F.v v s
 | none=>False
def rZ (P:Program) (f:FuncId) (args:List AV) (s:St) [F:Bx (AV→St→Prop)]:Prop:=ACalls P f args s F.v
def lpW (P:Program) [A:Bx AC] (sl:Slots) (s:St) [Q:Bx (Ex→Slots→St→Prop)]:Prop:=acW P (.loop A.v) Q.v sl s
def qJ (op:BinOp) (x:AV) (s:St) [F:Bx (AV→St→Prop)]:Prop:=jC op x s F.v
def yi (x:AV) (s:St) [F:Bx (AV→St→Prop)]:Prop:=nxW x s F.v
def aO (P:Program) (d:Option Nat) (m:Md) (re:List (Nat×Option (Nat×Bool)×I)) (r:List AO) (K:Slots→St→Prop) (sl:Slots) (v:AV) (s:St):Prop:=
 @dg (cF m v s) ⟨fun v' s''=>(∀ q∈re,ed q sl s'')∧aM P r K (put sl d v') s''⟩
def sS (P:Program) (x:AV) (args:List AV) (s:St) [F:Bx (AV→St→Prop)]:Prop:=match x with
 | .fn (.func f) a b=>rZ P f (a++args++b) s
 | _=>False
def doW (P:Program) (d:Option Nat) (m:Md) (i:I) (re:List (Nat×Option (Nat×Bool)×I)) (r:List AO) (K:Slots→St→Prop) (sl:Slots) (s:St):Prop:=opW P ⟨d,none,m,i,re⟩ sl s (aO P d m re r K sl)
@[congr] theorem zD {P:Program} {a:AC} {Q:Ex→Slots→St→Prop} {sl sl':Slots} {s s':St} (h1:sl=sl') (h2:s=s'):acW P a Q sl s=acW P a Q sl' s':=by rw [h1,h2]
@[congr] theorem zu {P:Program} {b:AC} {Q:Ex→Slots→St→Prop} {e:Ex} {sl sl':Slots} {s s':St} (h1:sl=sl') (h2:s=s'):oG P b Q e sl s=oG P b Q e sl' s':=by rw [h1,h2]
@[congr] theorem xc {id:Nat} {Q:Ex→Slots→St→Prop} {e:Ex} {sl sl':Slots} {s s':St} (h1:sl=sl') (h2:s=s'):ju id Q e sl s=ju id Q e sl' s':=by rw [h1,h2]
@[congr] theorem yc {N:Slots→St→Prop} {Q:Ex→Slots→St→Prop} {e:Ex} {sl sl':Slots} {s s':St} (h1:sl=sl') (h2:s=s'):eg N Q e sl s=eg N Q e sl' s':=by rw [h1,h2]
@[congr] theorem zn {P:Program} {l:List AO} {K:Slots→St→Prop} {sl sl':Slots} {s s':St} (h1:sl=sl') (h2:s=s'):aM P l K sl s=aM P l K sl' s':=by rw [h1,h2]
@[congr] theorem yX {P:Program} {d:Option Nat} {m:Md} {re:List (Nat×Option (Nat×Bool)×I)} {r:List AO} {K:Slots→St→Prop} {sl sl':Slots} {v v':AV} {s s':St} (h1:sl=sl') (h2:v=v') (h3:s=s'):aO P d m re r K sl v s=aO P d m re r K sl' v' s':=by rw [h1,h2,h3]
@[congr] theorem zJ {P:Program} {d:Option Nat} {m:Md} {i:I} {re:List (Nat×Option (Nat×Bool)×I)} {r:List AO} {K:Slots→St→Prop} {sl sl':Slots} {s s':St} (h1:sl=sl') (h2:s=s'):doW P d m i re r K sl s=doW P d m i re r K sl' s':=by rw [h1,h2]
@[congr] theorem yA {P:Program} {a:AO} {pre:List (Bool×AO)} {post:List AO} {K:Slots→St→Prop} {sl sl':Slots} {s s':St} (h1:sl=sl') (h2:s=s'):ce P a post K pre sl s=ce P a post K pre sl' s':=by rw [h1,h2]
section
variable {P:Program} {Q:Ex→Slots→St→Prop} {sl:Slots} {s:St} {d:Option Nat} {m:Md} {re:List (Nat×Option (Nat×Bool)×I)} {r:List AO} {K:Slots→St→Prop}
@[simp] theorem zF:acW P .skip Q sl s=Q .normal sl s:=Eq.trans rfl rfl
@[simp] theorem Ag {l:List AO}:acW P (.ops l) Q sl s=aM P l (Q .normal) sl s:=Eq.trans rfl rfl
@[simp] theorem zE {a:AO} {pre:List (Bool×AO)} {post:List AO}:acW P (.roam a pre post) Q sl s=ce P a post (Q .normal) pre sl s:=Eq.trans rfl rfl
@[simp] theorem Ai {a b:AC}:acW P (.seq a b) Q sl s=acW P a (oG P b Q) sl s:=Eq.trans rfl rfl
@[simp] theorem zB {c:X} {a b:AC}:acW P (.cond c a b) Q sl s=@pz (c.ev sl) ⟨acW P a Q sl s⟩ ⟨acW P b Q sl s⟩:=Eq.trans rfl rfl
@[simp] theorem Af {a:AC}:acW P (.loop a) Q sl s=@lpW P ⟨a⟩ sl s ⟨Q⟩:=Eq.trans rfl rfl
@[simp] theorem bx_v {α:Type} {x:α}:(Bx.mk x).v=x:=Eq.trans rfl rfl
@[simp] theorem yJ {id:Nat} {a:AC}:acW P (.block id a) Q sl s=acW P a (ju id Q) sl s:=Eq.trans rfl rfl
@[simp] theorem zC {id:Nat}:acW P (.exit id) Q sl s=Q (.exit id) sl s:=Eq.trans rfl rfl
@[simp] theorem Ah:acW P .ret Q sl s=Q .ret sl s:=Eq.trans rfl rfl
@[simp] theorem xy {b:AC}:oG P b Q .normal sl s=acW P b Q sl s:=Eq.trans rfl rfl
@[simp] theorem zt {b:AC} {i:Nat}:oG P b Q (.exit i) sl s=Q (.exit i) sl s:=Eq.trans rfl rfl
@[simp] theorem z8 {b:AC}:oG P b Q .ret sl s=Q .ret sl s:=Eq.trans rfl rfl
@[simp] theorem wy {id:Nat}:ju id Q .normal sl s=Q .normal sl s:=Eq.trans rfl rfl
@[simp] theorem xb {id i:Nat}:ju id Q (.exit i) sl s=if i=id then Q .normal sl s else Q (.exit i) sl s:=Eq.trans rfl rfl
@[simp] theorem xJ {id:Nat}:ju id Q .ret sl s=Q .ret sl s:=Eq.trans rfl rfl
@[simp] theorem wP {N:Slots→St→Prop}:eg N Q .normal sl s=N sl s:=Eq.trans rfl rfl
@[simp] theorem yb {N:Slots→St→Prop} {i:Nat}:eg N Q (.exit i) sl s=Q (.exit i) sl s:=Eq.trans rfl rfl
@[simp] theorem za {N:Slots→St→Prop}:eg N Q .ret sl s=Q .ret sl s:=Eq.trans rfl rfl
@[simp] theorem xN {A B:Bx Prop}:@pz (.sc (.bool true)) A B=A.v:=Eq.trans rfl rfl
@[simp] theorem xd {A B:Bx Prop}:@pz (.sc (.bool false)) A B=B.v:=Eq.trans rfl rfl
@[simp] theorem y9 {b:Bool} {A B:Bx Prop}:@oq (.tup []) b A B=B.v:=Eq.trans rfl rfl
@[simp] theorem AR {A B:Bx Prop}:@oq (.sc (.bool true)) true A B=A.v:=Eq.trans rfl rfl
@[simp] theorem AN {A B:Bx Prop}:@oq (.sc (.bool false)) false A B=A.v:=Eq.trans rfl rfl
@[simp] theorem AQ {A B:Bx Prop}:@oq (.sc (.bool true)) false A B=B.v:=Eq.trans rfl rfl
@[simp] theorem AP {A B:Bx Prop}:@oq (.sc (.bool false)) true A B=B.v:=Eq.trans rfl rfl
@[simp] theorem xI {v:AV} {F:Bx (AV→St→Prop)}:cw (some v) s=F.v v s:=Eq.trans rfl rfl
@[simp] theorem xH {F:Bx (AV→St→Prop)}:cw none s=False:=Eq.trans rfl rfl
@[simp] theorem xE {v:AV} {F:Bx (AV→St→Prop)}:dg (some (v,s))=F.v v s:=Eq.trans rfl rfl
@[simp] theorem xD {F:Bx (AV→St→Prop)}:dg none=False:=Eq.trans rfl rfl
@[simp] theorem xG {v:AV} {F:Bx (AV→St→Prop)}:jJ (some s) v=F.v v s:=Eq.trans rfl rfl
@[simp] theorem xF {v:AV} {F:Bx (AV→St→Prop)}:jJ none v=False:=Eq.trans rfl rfl
@[simp] theorem yP {f:Nat} {a b args:List AV} {F:Bx (AV→St→Prop)}:sS P (.fn (.func f) a b) args s=rZ P f (a++args++b) s:=Eq.trans rfl rfl
@[simp] theorem zX:aM P [] K sl s=K sl s:=Eq.trans rfl rfl
@[simp] theorem zo {i:I}:aM P (⟨d,none,m,i,re⟩::r) K sl s=doW P d m i re r K sl s:=by
 have e:aO P d m re r K sl=fun v s'=>match cF m v s' with
   | some (v',s'')=>(∀ q∈re,ed q sl s'')∧aM P r K (put sl d v') s''
   | none=>False:=by funext v s'; simp only [aO]; cases cF m v s' <;> rfl
 unfold doW; rw [e]; rfl
@[simp] theorem zq {i:I} {t:Nat} {b:Bool}:aM P (⟨d,some (t,b),m,i,re⟩::r) K sl s=@oq (sl t) b ⟨doW P d m i re r K sl s⟩ ⟨aM P r K (put sl d (.tup [])) s⟩:=by
 have h:doW P d m i re r K sl s=opW P ⟨d,some (t,b),m,i,re⟩ sl s fun v s'=>match cF m v s' with
   | some (v',s'')=>(∀ q∈re,ed q sl s'')∧aM P r K (put sl d v') s''
   | none=>False:=by
  unfold doW
  have e:aO P d m re r K sl=fun v s'=>match cF m v s' with
   | some (v',s'')=>(∀ q∈re,ed q sl s'')∧aM P r K (put sl d v') s''
   | none=>False:=by funext v s'; simp only [aO]; cases cF m v s' <;> rfl
  rw [e]; rfl
 rw [h]
 simp only [aM,gdI]
 cases sl t with
 | sc v=>cases v <;> first | rfl | (rename_i b'; cases b <;> cases b' <;> rfl)
 | tup vs=>cases vs <;> rfl
 | _=>rfl
@[simp] theorem AZ {n:Nat}:bV sl s (.t n)=some (sl n):=Eq.trans rfl rfl
@[simp] theorem AY {n:Nat} {ag:Option Nat}:bV sl s (.l n ag)=ldI ag (sl n) s:=Eq.trans rfl rfl
@[simp] theorem z6 {x:RX}:ee [x] sl s=bV sl s x:=by
 simp only [ee,List.mapM_cons,List.mapM_nil]; cases bV sl s x <;> rfl
@[simp] theorem z5:ee [] sl s=some (.tup []):=Eq.trans rfl rfl
@[simp] theorem z7 {x y:RX}:ee [x,y] sl s=(bV sl s x).bind fun a=>(bV sl s y).map fun b=>.tup [a,b]:=by
 simp only [ee,List.mapM_cons,List.mapM_nil]; cases bV sl s x <;> cases bV sl s y <;> rfl
@[simp] theorem yy {x y z:RX}:ee [x,y,z] sl s=(bV sl s x).bind fun a=>(bV sl s y).bind fun b=>(bV sl s z).map fun c=>.tup [a,b,c]:=by
 simp only [ee,List.mapM_cons,List.mapM_nil]; cases bV sl s x <;> cases bV sl s y <;> cases bV sl s z <;> rfl
@[simp] theorem zr {x y z u:RX}:ee [x,y,z,u] sl s=(bV sl s x).bind fun a=>(bV sl s y).bind fun b=>(bV sl s z).bind fun c=>(bV sl s u).map fun d=>.tup [a,b,c,d]:=by
 simp only [ee,List.mapM_cons,List.mapM_nil]; cases bV sl s x <;> cases bV sl s y <;> cases bV sl s z <;> cases bV sl s u <;> rfl
@[simp] theorem zA {rm:RM} {rs:List RX} {s0:St} {R:AV→St→Prop}:ma rm rs s0 R .ret sl s=@cw (ee rs sl s) s ⟨fun r s'=>@dg (dm rm s0 r s') ⟨R⟩⟩:=by
 simp only [ma,cw,dg]; cases ee rs sl s with
 | none=>rfl
 | some r=>simp only; cases dm rm s0 r s <;> rfl
@[simp] theorem wX {rm:RM} {rs:List RX} {s0:St} {R:AV→St→Prop}:ma rm rs s0 R .normal sl s=@cw (ee rs sl s) s ⟨fun r s'=>@dg (dm rm s0 r s') ⟨R⟩⟩:=by
 simp only [ma,cw,dg]; cases ee rs sl s with
 | none=>rfl
 | some r=>simp only; cases dm rm s0 r s <;> rfl
@[simp] theorem xV {v:AV}:aO P d .plain [] r K sl v s=aM P r K (put sl d v) s:=by simp [aO,cF]
@[simp] theorem zK {v:AV}:aO P d .mut [] r K sl v s=aM P r K (put sl d v) s:=by simp [aO,cF]
@[simp] theorem yV {v:AV}:aO P d .asis [] r K sl v s=aM P r K (put sl d v) s:=by simp [aO,cF]
@[simp] theorem yW {v:AV}:aO P d .fork [] r K sl v s=aM P r K (put sl d v) s:=by simp [aO,cF]
@[simp] theorem At {v:AV}:aO P d .fz [] r K sl v s=@dg (fzI v s) ⟨fun v' s'=>aM P r K (put sl d v') s'⟩:=by
 have e:(fun v' s''=>(∀ q∈([]:List (Nat×Option (Nat×Bool)×I)),ed q sl s'')∧aM P r K (put sl d v') s'')=fun v' s''=>aM P r K (put sl d v') s'':=by funext v' s''; simp
 show @dg (fzI v s) ⟨fun v' s''=>(∀ q∈([]:List (Nat×Option (Nat×Bool)×I)),ed q sl s'')∧aM P r K (put sl d v') s''⟩=_
 rw [e]
@[simp] theorem xj {sz:Nat}:aO P d (.ph sz) [] r K sl (.sl [] true) s=(0<sz∧aM P r K (put sl d (.row s.c sz 0 0)) (newRow sz [] s)):=by
 by_cases h:0<sz <;> simp [aO,cF,h]
@[simp] theorem xl {sz g z off len:Nat}:aO P d (.ph sz) [] r K sl (.row g z off len) s=aM P r K (put sl d (.row g z off len)) s:=by simp [aO,cF]
@[simp] theorem Av {v:AV} {q:Nat×Option (Nat×Bool)×I}:aO P d .plain (q::re) r K sl v s=(ed q sl s∧aO P d .plain re r K sl v s):=by
 simp [aO,cF,and_assoc]
@[simp] theorem zI {f:Nat} {args:List X}:doW P d m (.call f args) re r K sl s=@rZ P f (cD m sl args) s ⟨aO P d m re r K sl⟩:=Eq.trans rfl rfl
@[simp] theorem yQ {x:X} {args:List X}:doW P d m (.callv x args) re r K sl s=@sS P (x.ev sl) (cD m sl args) s ⟨aO P d m re r K sl⟩:=Eq.trans rfl rfl
@[simp] theorem yU {op:BinOp} {x y:X}:doW P d m (.bin .slNil op x y) re r K sl s=@qJ op (x.ev sl) s ⟨aO P d m re r K sl⟩:=Eq.trans rfl rfl
@[simp] theorem doW_nx {x:X}:doW P d m (.nx x) re r K sl s=@yi (x.ev sl) s ⟨aO P d m re r K sl⟩:=Eq.trans rfl rfl
theorem bZ {o:Option AV} {F:AV→St→Prop}:(match o.map (·,s) with | some (v,s')=>F v s' | none=>False)=@cw o s ⟨F⟩:=by cases o <;> rfl
theorem ff {o:Option (AV×St)} {F:AV→St→Prop}:(match o with | some (v,s')=>F v s' | none=>False)=@dg o ⟨F⟩:=by cases o <;> rfl
theorem jK {o:Option St} {v:AV} {F:AV→St→Prop}:(match o.map (v,·) with | some (v,s')=>F v s' | none=>False)=@jJ o v ⟨F⟩:=by cases o <;> rfl
@[simp] theorem doW_mv {x:X}:doW P d .plain (.mv x) re r K sl s=aO P d .plain re r K sl (x.ev sl) s:=Eq.trans rfl rfl
@[simp] theorem yR {x:X}:doW P d .fz (.mv x) re r K sl s=aO P d .fz re r K sl (x.ev sl) s:=Eq.trans rfl rfl
@[simp] theorem xQ {x:X}:doW P d .mut (.mv x) re r K sl s=aO P d .mut re r K sl (x.ev sl) s:=Eq.trans rfl rfl
@[simp] theorem xf {x:X}:doW P d .asis (.mv x) re r K sl s=aO P d .asis re r K sl (x.ev sl) s:=Eq.trans rfl rfl
@[simp] theorem xg {x:X}:doW P d .fork (.mv x) re r K sl s=aO P d .fork re r K sl (x.ev sl) s:=Eq.trans rfl rfl
@[simp] theorem yT {x:X} {n:Nat}:doW P d (.ph n) (.mv x) re r K sl s=aO P d (.ph n) re r K sl (x.ev sl) s:=Eq.trans rfl rfl
@[simp] theorem yS:doW P d .nl (.mv (.c (.sl [] true))) re r K sl s=aO P d .nl re r K sl (.sc (.slice none 0 0)) s:=Eq.trans rfl rfl
@[simp] theorem xR {n:Nat}:doW P d .nl (.mv (.t n)) re r K sl s=aO P d .nl re r K sl (sl n) s:=Eq.trans rfl rfl
@[simp] theorem Au {v:AV}:aO P d .nl [] r K sl v s=aM P r K (put sl d v) s:=by simp [aO,cF]
@[simp] theorem Aa {op:BinOp} {s:St} {F:Bx (AV→St→Prop)}:@qJ op (.sc (.slice none 0 0)) s F=((op=.eql∨op=.neq)∧F.v (.bool (op==.eql)) s):=Eq.trans rfl rfl
@[simp] theorem doW_pk {c a b:X}:doW P d m (.pk c a b) re r K sl s=@pz (c.ev sl) ⟨aO P d m re r K sl (a.ev sl) s⟩ ⟨aO P d m re r K sl (b.ev sl) s⟩:=by
 simp only [doW,opW,aH]
 cases c.ev sl with
 | sc v=>cases v <;> first | rfl | (rename_i b'; cases b' <;> rfl)
 | _=>rfl
@[simp] theorem doW_bx {x:X} {sz:Nat}:doW P d m (.bx x sz) re r K sl s=@dg (jL (x.ev sl) sz s) ⟨aO P d m re r K sl⟩:=ff
@[simp] theorem doW_al {zs:List AV}:doW P d m (.al zs) re r K sl s=@dg (jL (.agg zs) zs.length s) ⟨aO P d m re r K sl⟩:=ff
@[simp] theorem doW_bd {zs:List AV} {ps:List (Nat×Nat×X)}:doW P d m (.bd zs ps) re r K sl s=@cw ((aI zs (ps.map fun (o,n,x)=>(o,n,x.ev sl))).map .agg) s ⟨aO P d m re r K sl⟩:=bZ
@[simp] theorem doW_bs {sz n:Nat} {zs:List AV} {ps:List (Nat×X)}:doW P d m (.bs sz zs n ps) re r K sl s=@dg (bsI sz zs n (ps.map fun (i,x)=>(i,x.ev sl)) m s) ⟨aO P d m re r K sl⟩:=ff
@[simp] theorem doW_ld {ag:Option Nat} {x:X}:doW P d m (.ld ag x) re r K sl s=@cw (ldI ag (x.ev sl) s) s ⟨aO P d m re r K sl⟩:=bZ
@[simp] theorem doW_st {n:Nat} {a x:X}:doW P d m (.st n a x) re r K sl s=@jJ (stI n (a.ev sl) (x.ev sl) s) .undef ⟨aO P d m re r K sl⟩:=jK
@[simp] theorem doW_nc {x:X}:doW P d m (.nc x) re r K sl s=@cw (ncI (x.ev sl)) s ⟨aO P d m re r K sl⟩:=by
 simp only [doW,opW,aH,ncI]
 cases x.ev sl with
 | fn f a b=>cases f <;> rfl
 | _=>rfl
@[simp] theorem An {k:BK} {op:BinOp} {x y:X} (h:k≠.slNil):doW P d m (.bin k op x y) re r K sl s=@cw (eL k op (x.ev sl) (y.ev sl)) s ⟨aO P d m re r K sl⟩:=by
 cases k <;> first | exact bZ | exact absurd rfl h
@[simp] theorem doW_un {op:UnOp} {x:X}:doW P d m (.un op x) re r K sl s=@cw (unI op (x.ev sl)) s ⟨aO P d m re r K sl⟩:=bZ
@[simp] theorem doW_cv {k:CK} {x:X}:doW P d m (.cv k x) re r K sl s=@cw (cvI k (x.ev sl) s) s ⟨aO P d m re r K sl⟩:=bZ
@[simp] theorem doW_mf {f:Nat} {a b:List X}:doW P d m (.mf f a b) re r K sl s=aO P d m re r K sl (.fn (.func f) (a.map (·.ev sl)) (b.map (·.ev sl))) s:=Eq.trans rfl rfl
@[simp] theorem doW_mm:doW P d m .mm re r K sl s=aO P d m re r K sl (.map s.c) { h:=upd s.h s.c (some (.map [] s.c)),c:=s.c+1 }:=Eq.trans rfl rfl
@[simp] theorem doW_ms {sz bytes:Nat} {zs:List AV} {l c:X}:doW P d m (.ms sz zs bytes l c) re r K sl s=@dg (msI sz zs bytes (l.ev sl) (c.ev sl) s) ⟨aO P d m re r K sl⟩:=ff
@[simp] theorem doW_ss {x:X} {lo hi:Option X}:doW P d m (.ss x lo hi) re r K sl s=@cw (ssI (x.ev sl) (lo.map (·.ev sl)) (hi.map (·.ev sl))) s ⟨aO P d m re r K sl⟩:=bZ
@[simp] theorem doW_sr {sz:Nat} {x:X} {lo hi mx:Option X} (h:m≠.mut):doW P d m (.sr sz x lo hi mx) re r K sl s=@cw (srI sz (x.ev sl) (lo.map (·.ev sl)) (hi.map (·.ev sl)) (mx.map (·.ev sl))) s ⟨aO P d m re r K sl⟩:=by
 unfold doW opW
 simp only [aH,h,if_false]
 exact bZ
@[simp] theorem Ap {sz:Nat} {x:X} {lo hi mx:Option X}:doW P d .mut (.sr sz x lo hi mx) re r K sl s=@cw (srX sz (x.ev sl) (lo.map (·.ev sl)) (hi.map (·.ev sl)) (mx.map (·.ev sl)) s) s ⟨aO P d .mut re r K sl⟩:=bZ
@[simp] theorem doW_fa {off:Nat} {x:X}:doW P d m (.fa off x) re r K sl s=@cw (faI off (x.ev sl)) s ⟨aO P d m re r K sl⟩:=bZ
@[simp] theorem doW_fd {ag:Option Nat} {off:Nat} {x:X}:doW P d m (.fd ag off x) re r K sl s=@cw (fdI ag off (x.ev sl)) s ⟨aO P d m re r K sl⟩:=bZ
@[simp] theorem doW_ia {sz:Nat} {x i:X}:doW P d m (.ia sz x i) re r K sl s=@cw (iaI sz (x.ev sl) (i.ev sl)) s ⟨aO P d m re r K sl⟩:=bZ
@[simp] theorem doW_ix {x i:X}:doW P d m (.ix x i) re r K sl s=@cw (ixI (x.ev sl) (i.ev sl)) s ⟨aO P d m re r K sl⟩:=bZ
@[simp] theorem doW_lk {kk:KK} {z:AV} {ok:Bool} {a k:X}:doW P d m (.lk kk z ok a k) re r K sl s=@cw (lkI kk z ok (a.ev sl) (k.ev sl) s) s ⟨aO P d m re r K sl⟩:=bZ
@[simp] theorem doW_mu {kk:KK} {a k v:X}:doW P d m (.mu kk a k v) re r K sl s=@jJ (muI kk (a.ev sl) (k.ev sl) (v.ev sl) s) .undef ⟨aO P d m re r K sl⟩:=jK
@[simp] theorem doW_dl {kk:KK} {a k:X}:doW P d m (.dl kk a k) re r K sl s=@jJ (dlI kk (a.ev sl) (k.ev sl) s) (.tup []) ⟨aO P d m re r K sl⟩:=jK
@[simp] theorem doW_rg {x:X}:doW P d m (.rg x) re r K sl s=@dg (rgI (x.ev sl) s) ⟨aO P d m re r K sl⟩:=ff
@[simp] theorem doW_cl {sz:Nat} {zs:List AV} {x:X}:doW P d m (.cl sz zs x) re r K sl s=@jJ (clI sz zs (x.ev sl) s) (.tup []) ⟨aO P d m re r K sl⟩:=jK
@[simp] theorem doW_nt {x:X}:doW P d m (.nt x) re r K sl s=@cw (ntI (x.ev sl) s) s ⟨aO P d m re r K sl⟩:=bZ
@[simp] theorem doW_ex {x:X} {i:Nat}:doW P d m (.ex x i) re r K sl s=@cw (exI (x.ev sl) i) s ⟨aO P d m re r K sl⟩:=bZ
@[simp] theorem Ao {k:Nat} {x:X}:doW P d m (.len k x) re r K sl s=@cw (dT k (x.ev sl) s) s ⟨aO P d m re r K sl⟩:=bZ
@[simp] theorem doW_ap {sz bytes:Nat} {a x:X}:doW P d m (.ap sz bytes a x) re r K sl s=@dg (apI sz bytes m (a.ev sl) (x.ev sl) s) ⟨aO P d m re r K sl⟩:=ff
@[simp] theorem doW_cp {sz:Nat} {a x:X}:doW P d m (.cp sz a x) re r K sl s=@dg (cpI sz (a.ev sl) (x.ev sl) s) ⟨aO P d m re r K sl⟩:=ff
@[simp] theorem doW_mx {l:List X}:doW P d m (.mx l) re r K sl s=@cw (gq (fun a b=>if a<b then b else a) (l.map (·.ev sl))) s ⟨aO P d m re r K sl⟩:=bZ
@[simp] theorem doW_mn {l:List X}:doW P d m (.mn l) re r K sl s=@cw (gq (fun a b=>if b<a then b else a) (l.map (·.ev sl))) s ⟨aO P d m re r K sl⟩:=bZ
@[simp] theorem doW_mi {t:TypeId} {x:X}:doW P d m (.mi t x) re r K sl s=((x.ev sl).val=true∧aO P d m re r K sl (.ifc t (x.ev sl)) s):=by
 simp only [doW,opW,aH]
 by_cases h:(x.ev sl).val=true <;> simp [h]
end
@[simp] theorem wG {sl:Slots} {xs:List X}:cD .plain sl xs=xs.map fun x=>norm (x.ev sl):=Eq.trans rfl rfl
@[simp] theorem xB {sl:Slots} {xs:List X}:cD .mut sl xs=xs.map fun x=>norm (x.ev sl):=Eq.trans rfl rfl
@[simp] theorem yK {sl:Slots} {xs:List X}:cD .fz sl xs=xs.map fun x=>norm (x.ev sl):=Eq.trans rfl rfl
@[simp] theorem wZ {sl:Slots} {xs:List X}:cD .fork sl xs=xs.map fun x=>norm (x.ev sl):=Eq.trans rfl rfl
@[simp] theorem wY {sl:Slots} {xs:List X}:cD .asis sl xs=xs.map (·.ev sl):=Eq.trans rfl rfl
@[simp] theorem AW {g e o:Nat}:ncI (.ptr g e o)=some (.ptr g e o):=Eq.trans rfl rfl
@[simp] theorem ncI_zp {cs:List AV} {o:Nat}:ncI (.zp cs o)=some (.zp cs o):=Eq.trans rfl rfl
@[simp] theorem ncI_fn {f:Nat} {a b:List AV}:ncI (.fn (.func f) a b)=some (.fn (.func f) a b):=Eq.trans rfl rfl
@[simp] theorem zU {v:Value}:norm (.sc v)=.sc v:=Eq.trans rfl rfl
@[simp] theorem zk {g e o:Nat}:norm (.ptr g e o)=.ptr g e o:=Eq.trans rfl rfl
@[simp] theorem zW {cs:List AV} {o:Nat}:norm (.zp cs o)=.zp cs o:=Eq.trans rfl rfl
@[simp] theorem zl {g z o n:Nat}:norm (.row g z o n)=.row g z o n:=Eq.trans rfl rfl
@[simp] theorem zi {g:Nat}:norm (.map g)=.map g:=Eq.trans rfl rfl
@[simp] theorem zS {f:Fn} {a b:List AV}:norm (.fn f a b)=.fn f a b:=Eq.trans rfl rfl
@[simp] theorem ze {cs:List AV}:norm (.agg cs)=.agg (aQ cs):=Eq.trans rfl rfl
@[simp] theorem zV {es:List (List AV)} {b:Bool}:norm (.sl es b)=.sl (aP es) false:=Eq.trans rfl rfl
@[simp] theorem yo:aQ []=[]:=Eq.trans rfl rfl
@[simp] theorem xx {v:AV} {vs:List AV}:aQ (v::vs)=norm v::aQ vs:=Eq.trans rfl rfl
@[simp] theorem ym:aP []=[]:=Eq.trans rfl rfl
@[simp] theorem xo {v:List AV} {vs:List (List AV)}:aP (v::vs)=aQ v::aP vs:=Eq.trans rfl rfl
@[simp] theorem Al {v:AV} {sz:Nat} {s:St}:jL v sz s=if 0<sz∧aA sz v.cells=true then some (.ptr s.c 0 0,newRow sz [v.cells] s) else none:=Eq.trans rfl rfl
theorem s8 {k:IntKind} {a b:Int}:dS .eql k a b=some (.bool (decide (a=b))):=Eq.trans rfl rfl
theorem tf {k:IntKind} {a b:Int}:dS .neq k a b=some (.bool (!decide (a=b))):=Eq.trans rfl rfl
theorem td {k:IntKind} {a b:Int}:dS .lss k a b=some (.bool (decide (a<b))):=Eq.trans rfl rfl
theorem tc {k:IntKind} {a b:Int}:dS .leq k a b=some (.bool (decide (a≤b))):=Eq.trans rfl rfl
theorem tb {k:IntKind} {a b:Int}:dS .gtr k a b=some (.bool (decide (b<a))):=Eq.trans rfl rfl
theorem s9 {k:IntKind} {a b:Int}:dS .geq k a b=some (.bool (decide (b≤a))):=Eq.trans rfl rfl
theorem s7 {k:IntKind} {a b:Int}:dS .add k a b=some (.int k (k.wrap (a+b))):=Eq.trans rfl rfl
theorem tk {k:IntKind} {a b:Int}:dS .sub k a b=some (.int k (k.wrap (a-b))):=Eq.trans rfl rfl
theorem te {k:IntKind} {a b:Int}:dS .mul k a b=some (.int k (k.wrap (a*b))):=Eq.trans rfl rfl
theorem tg {k:IntKind} {a b:Int}:dS .quo k a b=if b=0 then none else some (.int k (k.wrap (a.tdiv b))):=Eq.trans rfl rfl
theorem th {k:IntKind} {a b:Int}:dS .rem k a b=if b=0 then none else some (.int k (a.tmod b)):=Eq.trans rfl rfl
attribute [simp] s8 tf td tc tb s9 s7 tk te tg th
@[simp] theorem yN {op:BinOp} {k:IntKind} {a b:Int} (h:op≠.shl) (h':op≠.shr):eC op (.int k a) (.int k b)=dS op k a b:=by
 cases op <;> first | exact absurd rfl h | exact absurd rfl h' | simp [eC]
@[simp] theorem yO {op:BinOp} {a b:ByteArray}:eC op (.string a) (.string b)=dA op a b:=Eq.trans rfl rfl
@[simp] theorem A1 {k:IntKind} {n:Int}:unI .neg (.sc (.int k n))=some (.sc (.int k (k.wrap (0-n)))):=Eq.trans rfl rfl
@[simp] theorem A2 {b:Bool}:unI .not (.sc (.bool b))=some (.bool !b):=Eq.trans rfl rfl
attribute [simp] aA newRow AV.cells AV.cell iB
@[simp] theorem wv {n g e o:Nat} {v:AV} {s:St}:stI n (.ptr g e o) v s=(match s.h g with
  | some (.row sz es .live none)=>match es[e]? with
   | some cs=>if v.cells.length=n∧v.cells.all AV.cell=true∧o+n≤cs.length then
     some { s with h:=upd s.h g (some (.row sz (es.set e (cZ cs o v.cells)) .live none)) } else none
   | none=>none
  | _=>none):=Eq.trans rfl rfl
attribute [simp] St.elem cZ
theorem ah {x:Int} (h:-9223372036854775808≤x) (h':x<9223372036854775808):IntKind.i64.wrap x=x:=by
 simp [IntKind.wrap,IntKind.bits,IntKind.signed]; omega
theorem yG (a b:ByteArray):dA .eql a b=some (.bool (decide (a=b))):=by
 simp only [dA]
 rw [←beq_toListBytes,fj]
theorem yH (a b:ByteArray):dA .neq a b=some (.bool !(decide (a=b))):=by
 simp only [dA]
 rw [←beq_toListBytes,fj]
attribute [simp] yG yH
end Go.AM
