/- Part of the claim: see its last text. -/
import Derived.Test.YtocppbmmfklbmaaGreatMa27
set_option linter.all false
namespace Go.AM
@[simp] theorem fz1_sc {v:Value} {s:St}:fz1 (.sc v) s=some (.sc v,s):=Eq.trans rfl rfl
@[simp] theorem yY {s:St}:fz1 .undef s=some (.undef,s):=Eq.trans rfl rfl
@[simp] theorem fz1_sl {es:List (List AV)} {f:Bool} {s:St}:fz1 (.sl es f) s=some (.sl (bo es) false,s):=Eq.trans rfl rfl
@[simp] theorem Aj {g e o:Nat} {s:St}:fz1 (.ptr g e o) s=some (.ptr g e o,s):=Eq.trans rfl rfl
@[simp] theorem fz1_zp {cs:List AV} {o:Nat} {s:St}:fz1 (.zp cs o) s=some (.zp cs o,s):=Eq.trans rfl rfl
@[simp] theorem AG {g:Nat} {s:St}:fz1 (.map g) s=some (.map g,s):=Eq.trans rfl rfl
@[simp] theorem fz1_fn {f:Fn} {a b:List AV} {s:St}:fz1 (.fn f a b) s=some (.fn f a b,s):=Eq.trans rfl rfl
@[simp] theorem AL {t:TypeId} {v:AV} {s:St}:fz1 (.ifc t v) s=some (.ifc t v,s):=Eq.trans rfl rfl
@[simp] theorem dP {g z off len:Nat} {s:St}:fz1 (.row g z off len) s=(match s.h g with
  | some (.row sz es st par)=>if off+len≤es.length∧par=none∧(st=.live∨st=.frz) then
    some (.sl (bo ((es.drop off).take len)) false,{ s with h:=upd s.h g (some (.row sz es .frz none)) }) else none
  | _=>none):=Eq.trans rfl rfl
@[simp] theorem AR {s:St}:fzL [] s=some ([],s):=Eq.trans rfl rfl
@[simp] theorem zC {v:AV} {vs:List AV} {s:St}:fzL (v::vs) s=(match fz1 v s with
  | some (v',s')=>match fzL vs s' with
   | some (vs',s'')=>some (v'::vs',s'')
   | none=>none
  | none=>none):=Eq.trans rfl rfl
@[simp] theorem Al {cs:List AV} {s:St}:fzI (.agg cs) s=(match fzL cs s with | some (cs',s')=>some (.agg cs',s') | none=>none):=Eq.trans rfl rfl
@[simp] theorem fzI_sc {v:Value} {s:St}:fzI (.sc v) s=fz1 (.sc v) s:=Eq.trans rfl rfl
@[simp] theorem yU {s:St}:fzI .undef s=fz1 .undef s:=Eq.trans rfl rfl
@[simp] theorem fzI_sl {es:List (List AV)} {f:Bool} {s:St}:fzI (.sl es f) s=fz1 (.sl es f) s:=Eq.trans rfl rfl
@[simp] theorem Ag {g e o:Nat} {s:St}:fzI (.ptr g e o) s=fz1 (.ptr g e o) s:=Eq.trans rfl rfl
@[simp] theorem fzI_zp {cs:List AV} {o:Nat} {s:St}:fzI (.zp cs o) s=fz1 (.zp cs o) s:=Eq.trans rfl rfl
@[simp] theorem AN {g:Nat} {s:St}:fzI (.map g) s=fz1 (.map g) s:=Eq.trans rfl rfl
@[simp] theorem fzI_fn {f:Fn} {a b:List AV} {s:St}:fzI (.fn f a b) s=fz1 (.fn f a b) s:=Eq.trans rfl rfl
@[simp] theorem Am {t:TypeId} {v:AV} {s:St}:fzI (.ifc t v) s=fz1 (.ifc t v) s:=Eq.trans rfl rfl
@[simp] theorem AA {g z off len:Nat} {s:St}:fzI (.row g z off len) s=fz1 (.row g z off len) s:=Eq.trans rfl rfl
@[simp] theorem AI {vs:List AV} {s:St}:fzR (.tup vs) s=(match fzR.go vs s with | some (vs',s')=>some (.tup vs',s') | none=>none):=Eq.trans rfl rfl
@[simp] theorem yF {s:St}:fzR.go [] s=some ([],s):=Eq.trans rfl rfl
@[simp] theorem yy {v:AV} {vs:List AV} {s:St}:fzR.go (v::vs) s=(match fzI v s with
   | some (v',s')=>match fzR.go vs s' with
    | some (vs',s'')=>some (v'::vs',s'')
    | none=>none
   | none=>none):=Eq.trans rfl rfl
@[simp] theorem Ac {cs:List AV} {s:St}:fzR (.agg cs) s=fzI (.agg cs) s:=Eq.trans rfl rfl
@[simp] theorem fzR_sc {v:Value} {s:St}:fzR (.sc v) s=fz1 (.sc v) s:=Eq.trans rfl rfl
@[simp] theorem zj {s:St}:fzR .undef s=fz1 .undef s:=Eq.trans rfl rfl
@[simp] theorem fzR_sl {es:List (List AV)} {f:Bool} {s:St}:fzR (.sl es f) s=fz1 (.sl es f) s:=Eq.trans rfl rfl
@[simp] theorem AJ {g e o:Nat} {s:St}:fzR (.ptr g e o) s=fz1 (.ptr g e o) s:=Eq.trans rfl rfl
@[simp] theorem fzR_zp {cs:List AV} {o:Nat} {s:St}:fzR (.zp cs o) s=fz1 (.zp cs o) s:=Eq.trans rfl rfl
@[simp] theorem Ah {g:Nat} {s:St}:fzR (.map g) s=fz1 (.map g) s:=Eq.trans rfl rfl
@[simp] theorem fzR_fn {f:Fn} {a b:List AV} {s:St}:fzR (.fn f a b) s=fz1 (.fn f a b) s:=Eq.trans rfl rfl
@[simp] theorem At {t:TypeId} {v:AV} {s:St}:fzR (.ifc t v) s=fz1 (.ifc t v) s:=Eq.trans rfl rfl
@[simp] theorem Ao {g z off len:Nat} {s:St}:fzR (.row g z off len) s=fz1 (.row g z off len) s:=Eq.trans rfl rfl
@[simp] theorem xj {s0 s:St} {r:AV}:dE .frz s0 r s=(fzR r s).map fun p=>(p.1,{ h:=retH s0.c s0.h p.2.h,c:=p.2.c }):=Eq.trans rfl rfl
@[simp] theorem wu {s0 s:St} {r:AV}:dE .keep s0 r s=some (r,s):=Eq.trans rfl rfl
@[simp] theorem wh {s0 s:St} {g sz off len:Nat}:dE .fresh s0 (.row g sz off len) s=(match s.h g with
   | some (.row _ _ .live none)=>some (.row g sz off len,{ h:=upd (retH s0.c s0.h s.h) g (s.h g),c:=s.c })
   | _=>none):=Eq.trans rfl rfl
@[simp] theorem Ap {ag:Option Nat} {g e o:Nat} {s:St}:ldI ag (.ptr g e o) s=(s.elem g e).bind (cQ ag · o):=Eq.trans rfl rfl
@[simp] theorem ldI_zp {ag:Option Nat} {cs:List AV} {o:Nat} {s:St}:ldI ag (.zp cs o) s=cQ ag cs o:=Eq.trans rfl rfl
@[simp] theorem wg {cs:List AV} {o:Nat}:cQ none cs o=cs[o]?:=Eq.trans rfl rfl
@[simp] theorem wi {cs:List AV} {o n:Nat}:cQ (some n) cs o=if o+n≤cs.length then some (.agg ((cs.drop o).take n)) else none:=Eq.trans rfl rfl
@[simp] theorem Ar {off g e o:Nat}:faI off (.ptr g e o)=some (.ptr g e (o+off)):=Eq.trans rfl rfl
@[simp] theorem faI_zp {off o:Nat} {cs:List AV}:faI off (.zp cs o)=some (.zp cs (o+off)):=Eq.trans rfl rfl
@[simp] theorem Ad {ag:Option Nat} {off:Nat} {cs:List AV}:fdI ag off (.agg cs)=cQ ag cs off:=Eq.trans rfl rfl
@[simp] theorem asI_sc {k:IntKind} {n:Int}:asI (.sc (.int k n))=some n:=Eq.trans rfl rfl
@[simp] theorem iaI_sl {sz:Nat} {es:List (List AV)} {f:Bool} {k:IntKind} {n:Int}:iaI sz (.sl es f) (.sc (.int k n))=if 0≤n then match es[n.toNat]? with
   | some cs=>if cs.length=sz then some (.zp cs 0) else none
   | none=>none
   else none:=Eq.trans rfl rfl
@[simp] theorem AF {sz g z off len:Nat} {k:IntKind} {n:Int}:iaI sz (.row g z off len) (.sc (.int k n))=if sz=z∧0≤n∧n<len then some (.ptr g (off+n.toNat) 0) else none:=Eq.trans rfl rfl
@[simp] theorem ixI_sc {b:ByteArray} {k:IntKind} {n:Int}:ixI (.sc (.string b)) (.sc (.int k n))=if 0≤n then (b[n.toNat]?).map fun b=>.sc (.int .u8 b.toNat) else none:=Eq.trans rfl rfl
@[simp] theorem zy {b:ByteArray} {s:St}:eP 0 (.sc (.string b)) s=some (.int b.size):=Eq.trans rfl rfl
@[simp] theorem Aa {es:List (List AV)} {f:Bool} {s:St}:eP 1 (.sl es f) s=some (.int es.length):=Eq.trans rfl rfl
@[simp] theorem zx {g z off len:Nat} {s:St}:eP 1 (.row g z off len) s=some (.int len):=Eq.trans rfl rfl
@[simp] theorem zG {g:Nat} {s:St}:eP 2 (.map g) s=(match s.h g with
  | some (.map kv _)=>some (.int kv.length)
  | _=>none):=Eq.trans rfl rfl
@[simp] theorem Av {op:BinOp} {a b:Value}:fe .sc op (.sc a) (.sc b)=(er op a b).map .sc:=Eq.trans rfl rfl
@[simp] theorem AS {op:BinOp} {a b:Value}:fe .bl op (.sc a) (.sc b)=(jc op a b).map .sc:=Eq.trans rfl rfl
@[simp] theorem zr {op:BinOp} {ks:List FK} {a b:List AV}:fe (.eqAgg ks) op (.agg a) (.agg b)=(cz ks a b).bind (iK op):=Eq.trans rfl rfl
@[simp] theorem yI {a b:Bool}:jc .eql (.bool a) (.bool b)=some (.bool (decide (a=b))):=by cases a <;> cases b <;> rfl
@[simp] theorem zi {a b:Bool}:jc .neq (.bool a) (.bool b)=some (.bool (!decide (a=b))):=by cases a <;> cases b <;> rfl
@[simp] theorem AZ {vs:List AV} {i:Nat}:exI (.tup vs) i=vs[i]?:=Eq.trans rfl rfl
@[simp] theorem Ae {k k':IntKind} {n:Int} {s:St}:cvI (.int k) (.sc (.int k' n)) s=some (.sc (.int k (k.wrap n))):=Eq.trans rfl rfl
@[simp] theorem zO {a:ByteArray} {s:St}:cvI .same (.sc (.string a)) s=some (.sc (.string a)):=Eq.trans rfl rfl
def ncI:AV→Option AV
 | .ptr g e o=>some (.ptr g e o)
 | .zp cs o=>some (.zp cs o)
 | .fn (.func f) a b=>some (.fn (.func f) a b)
 | _=>none
def ou (P:Program) (b:AC) (Q:Ex→Slots→St→Prop):Ex→Slots→St→Prop:=fun e sl' s'=>match e with | .normal=>acW P b Q sl' s' | e=>Q e sl' s'
def ju (id:Nat) (Q:Ex→Slots→St→Prop):Ex→Slots→St→Prop:=fun e sl' s'=>match e with | .exit i=>if i=id then Q .normal sl' s' else Q (.exit i) sl' s' | e=>Q e sl' s'
def d7 (N:Slots→St→Prop) (Q:Ex→Slots→St→Prop):Ex→Slots→St→Prop:=fun e sl' s'=>match e with | .normal=>N sl' s' | e=>Q e sl' s'
class Bx (α:Type) where
 v:α
def n6 (v:AV) [A:Bx Prop] [B:Bx Prop]:Prop:=match v with
 | .sc (.bool t)=>if t=true then A.v else B.v
 | _=>False
def mM (v:AV) (b:Bool) [A:Bx Prop] [B:Bx Prop]:Prop:=match v with
 | .sc (.bool b')=>if b'=b then A.v else B.v
 | .tup []=>B.v
 | _=>False
def cH (o:Option AV) (s:St) [F:Bx (AV→St→Prop)]:Prop:=match o with
 | some v=>F.v v s
 | none=>False
def dz (o:Option (AV×St)) [F:Bx (AV→St→Prop)]:Prop:=match o with
 | some (v,s)=>F.v v s
 | none=>False
def kf (o:Option St) (v:AV) [F:Bx (AV→St→Prop)]:Prop:=match o with
 | some s=>F.v v s
 | none=>False
def rS (P:Program) (f:FuncId) (args:List AV) (s:St) [F:Bx (AV→St→Prop)]:Prop:=ACalls P f args s F.v
def lpW (P:Program) [A:Bx AC] (sl:Slots) (s:St) [Q:Bx (Ex→Slots→St→Prop)]:Prop:=acW P (.loop A.v) Q.v sl s
def tX (op:BinOp) (x:AV) (s:St) [F:Bx (AV→St→Prop)]:Prop:=nG op x s F.v
def xu (x:AV) (s:St) [F:Bx (AV→St→Prop)]:Prop:=nxW x s F.v
def aX (P:Program) (d:Option Nat) (m:Md) (re:List (Nat×Option (Nat×Bool)×I)) (r:List AO) (K:Slots→St→Prop) (sl:Slots) (v:AV) (s:St):Prop:=
 @dz (di m v s) ⟨fun v' s''=>(∀ q∈re,fc q sl s'')∧aO P r K (put sl d v') s''⟩
def tl (P:Program) (x:AV) (args:List AV) (s:St) [F:Bx (AV→St→Prop)]:Prop:=match x with
 | .fn (.func f) a b=>rS P f (a++args++b) s
 | _=>False
def doW (P:Program) (d:Option Nat) (m:Md) (i:I) (re:List (Nat×Option (Nat×Bool)×I)) (r:List AO) (K:Slots→St→Prop) (sl:Slots) (s:St):Prop:=opW P ⟨d,none,m,i,re⟩ sl s (aX P d m re r K sl)
@[congr] theorem zF {P:Program} {a:AC} {Q:Ex→Slots→St→Prop} {sl sl':Slots} {s s':St} (h1:sl=sl') (h2:s=s'):acW P a Q sl s=acW P a Q sl' s':=by rw [h1,h2]
@[congr] theorem yN {P:Program} {b:AC} {Q:Ex→Slots→St→Prop} {e:Ex} {sl sl':Slots} {s s':St} (h1:sl=sl') (h2:s=s'):ou P b Q e sl s=ou P b Q e sl' s':=by rw [h1,h2]
@[congr] theorem wL {id:Nat} {Q:Ex→Slots→St→Prop} {e:Ex} {sl sl':Slots} {s s':St} (h1:sl=sl') (h2:s=s'):ju id Q e sl s=ju id Q e sl' s':=by rw [h1,h2]
@[congr] theorem yz {N:Slots→St→Prop} {Q:Ex→Slots→St→Prop} {e:Ex} {sl sl':Slots} {s s':St} (h1:sl=sl') (h2:s=s'):d7 N Q e sl s=d7 N Q e sl' s':=by rw [h1,h2]
@[congr] theorem y0 {P:Program} {l:List AO} {K:Slots→St→Prop} {sl sl':Slots} {s s':St} (h1:sl=sl') (h2:s=s'):aO P l K sl s=aO P l K sl' s':=by rw [h1,h2]
@[congr] theorem yV {P:Program} {d:Option Nat} {m:Md} {re:List (Nat×Option (Nat×Bool)×I)} {r:List AO} {K:Slots→St→Prop} {sl sl':Slots} {v v':AV} {s s':St} (h1:sl=sl') (h2:v=v') (h3:s=s'):aX P d m re r K sl v s=aX P d m re r K sl' v' s':=by rw [h1,h2,h3]
@[congr] theorem zq {P:Program} {d:Option Nat} {m:Md} {i:I} {re:List (Nat×Option (Nat×Bool)×I)} {r:List AO} {K:Slots→St→Prop} {sl sl':Slots} {s s':St} (h1:sl=sl') (h2:s=s'):doW P d m i re r K sl s=doW P d m i re r K sl' s':=by rw [h1,h2]
@[congr] theorem xY {P:Program} {a:AO} {pre:List (Bool×AO)} {post:List AO} {K:Slots→St→Prop} {sl sl':Slots} {s s':St} (h1:sl=sl') (h2:s=s'):cq P a post K pre sl s=cq P a post K pre sl' s':=by rw [h1,h2]
section
variable {P:Program} {Q:Ex→Slots→St→Prop} {sl:Slots} {s:St} {d:Option Nat} {m:Md} {re:List (Nat×Option (Nat×Bool)×I)} {r:List AO} {K:Slots→St→Prop}
@[simp] theorem zt:acW P .skip Q sl s=Q .normal sl s:=Eq.trans rfl rfl
@[simp] theorem AE {l:List AO}:acW P (.ops l) Q sl s=aO P l (Q .normal) sl s:=Eq.trans rfl rfl
@[simp] theorem zQ {a:AO} {pre:List (Bool×AO)} {post:List AO}:acW P (.roam a pre post) Q sl s=cq P a post (Q .normal) pre sl s:=Eq.trans rfl rfl
@[simp] theorem Af {a b:AC}:acW P (.seq a b) Q sl s=acW P a (ou P b Q) sl s:=Eq.trans rfl rfl
@[simp] theorem zV {c:X} {a b:AC}:acW P (.cond c a b) Q sl s=@n6 (c.ev sl) ⟨acW P a Q sl s⟩ ⟨acW P b Q sl s⟩:=Eq.trans rfl rfl
@[simp] theorem AD {a:AC}:acW P (.loop a) Q sl s=@lpW P ⟨a⟩ sl s ⟨Q⟩:=Eq.trans rfl rfl
@[simp] theorem bx_v {α:Type} {x:α}:(Bx.mk x).v=x:=Eq.trans rfl rfl
@[simp] theorem zg {id:Nat} {a:AC}:acW P (.block id a) Q sl s=acW P a (ju id Q) sl s:=Eq.trans rfl rfl
@[simp] theorem zK {id:Nat}:acW P (.exit id) Q sl s=Q (.exit id) sl s:=Eq.trans rfl rfl
@[simp] theorem AW:acW P .ret Q sl s=Q .ret sl s:=Eq.trans rfl rfl
@[simp] theorem wV {b:AC}:ou P b Q .normal sl s=acW P b Q sl s:=Eq.trans rfl rfl
@[simp] theorem yK {b:AC} {i:Nat}:ou P b Q (.exit i) sl s=Q (.exit i) sl s:=Eq.trans rfl rfl
@[simp] theorem zv {b:AC}:ou P b Q .ret sl s=Q .ret sl s:=Eq.trans rfl rfl
@[simp] theorem we {id:Nat}:ju id Q .normal sl s=Q .normal sl s:=Eq.trans rfl rfl
@[simp] theorem wM {id i:Nat}:ju id Q (.exit i) sl s=if i=id then Q .normal sl s else Q (.exit i) sl s:=Eq.trans rfl rfl
@[simp] theorem xq {id:Nat}:ju id Q .ret sl s=Q .ret sl s:=Eq.trans rfl rfl
@[simp] theorem wj {N:Slots→St→Prop}:d7 N Q .normal sl s=N sl s:=Eq.trans rfl rfl
@[simp] theorem xD {N:Slots→St→Prop} {i:Nat}:d7 N Q (.exit i) sl s=Q (.exit i) sl s:=Eq.trans rfl rfl
@[simp] theorem yO {N:Slots→St→Prop}:d7 N Q .ret sl s=Q .ret sl s:=Eq.trans rfl rfl
@[simp] theorem xP {A B:Bx Prop}:@n6 (.sc (.bool true)) A B=A.v:=Eq.trans rfl rfl
@[simp] theorem wY {A B:Bx Prop}:@n6 (.sc (.bool false)) A B=B.v:=Eq.trans rfl rfl
@[simp] theorem zm {b:Bool} {A B:Bx Prop}:@mM (.tup []) b A B=B.v:=Eq.trans rfl rfl
@[simp] theorem Ab {A B:Bx Prop}:@mM (.sc (.bool true)) true A B=A.v:=Eq.trans rfl rfl
@[simp] theorem An {A B:Bx Prop}:@mM (.sc (.bool false)) false A B=A.v:=Eq.trans rfl rfl
@[simp] theorem Au {A B:Bx Prop}:@mM (.sc (.bool true)) false A B=B.v:=Eq.trans rfl rfl
@[simp] theorem Az {A B:Bx Prop}:@mM (.sc (.bool false)) true A B=B.v:=Eq.trans rfl rfl
theorem wX {t:Bool} {A B:Bx Prop} (h:t=true→A.v) (h':t=false→B.v):@n6 (.sc (.bool t)) A B:=by cases t <;> simp_all
theorem xC {t b:Bool} {A B:Bx Prop} (h:t=b→A.v) (h':t=(!b)→B.v):@mM (.sc (.bool t)) b A B:=by cases t <;> cases b <;> simp_all
@[simp] theorem xQ {v:AV} {F:Bx (AV→St→Prop)}:cH (some v) s=F.v v s:=Eq.trans rfl rfl
@[simp] theorem yc {F:Bx (AV→St→Prop)}:cH none s=False:=Eq.trans rfl rfl
@[simp] theorem xw {v:AV} {F:Bx (AV→St→Prop)}:dz (some (v,s))=F.v v s:=Eq.trans rfl rfl
@[simp] theorem xE {F:Bx (AV→St→Prop)}:dz none=False:=Eq.trans rfl rfl
@[simp] theorem xW {v:AV} {F:Bx (AV→St→Prop)}:kf (some s) v=F.v v s:=Eq.trans rfl rfl
@[simp] theorem yj {v:AV} {F:Bx (AV→St→Prop)}:kf none v=False:=Eq.trans rfl rfl
@[simp] theorem yP {f:Nat} {a b args:List AV} {F:Bx (AV→St→Prop)}:tl P (.fn (.func f) a b) args s=rS P f (a++args++b) s:=Eq.trans rfl rfl
@[simp] theorem zT:aO P [] K sl s=K sl s:=Eq.trans rfl rfl
@[simp] theorem zf {i:I}:aO P (⟨d,none,m,i,re⟩::r) K sl s=doW P d m i re r K sl s:=by
 have e:aX P d m re r K sl=fun v s'=>match di m v s' with
   | some (v',s'')=>(∀ q∈re,fc q sl s'')∧aO P r K (put sl d v') s''
   | none=>False:=by funext v s'; simp only [aX]; cases di m v s' <;> rfl
 unfold doW; rw [e]; rfl
@[simp] theorem zn {i:I} {t:Nat} {b:Bool}:aO P (⟨d,some (t,b),m,i,re⟩::r) K sl s=@mM (sl t) b ⟨doW P d m i re r K sl s⟩ ⟨aO P r K (put sl d (.tup [])) s⟩:=by
 have h:doW P d m i re r K sl s=opW P ⟨d,some (t,b),m,i,re⟩ sl s fun v s'=>match di m v s' with
   | some (v',s'')=>(∀ q∈re,fc q sl s'')∧aO P r K (put sl d v') s''
   | none=>False:=by
  unfold doW
  have e:aX P d m re r K sl=fun v s'=>match di m v s' with
   | some (v',s'')=>(∀ q∈re,fc q sl s'')∧aO P r K (put sl d v') s''
   | none=>False:=by funext v s'; simp only [aX]; cases di m v s' <;> rfl
  rw [e]; rfl
 rw [h]
 simp only [aO,gdI]
 cases sl t with
 | sc v=>cases v <;> first | rfl | (rename_i b'; cases b <;> cases b' <;> rfl)
 | tup vs=>cases vs <;> rfl
 | _=>rfl
@[simp] theorem Aq {n:Nat}:cf sl s (.t n)=some (sl n):=Eq.trans rfl rfl
@[simp] theorem Ak {n:Nat} {ag:Option Nat}:cf sl s (.l n ag)=ldI ag (sl n) s:=Eq.trans rfl rfl
@[simp] theorem zZ {x:RX}:eO [x] sl s=cf sl s x:=by
 simp only [eO,List.mapM_cons,List.mapM_nil]; cases cf sl s x <;> rfl
@[simp] theorem zU:eO [] sl s=some (.tup []):=Eq.trans rfl rfl
@[simp] theorem zW {x y:RX}:eO [x,y] sl s=(cf sl s x).bind fun a=>(cf sl s y).map fun b=>.tup [a,b]:=by
 simp only [eO,List.mapM_cons,List.mapM_nil]; cases cf sl s x <;> cases cf sl s y <;> rfl
@[simp] theorem xZ {x y z:RX}:eO [x,y,z] sl s=(cf sl s x).bind fun a=>(cf sl s y).bind fun b=>(cf sl s z).map fun c=>.tup [a,b,c]:=by
 simp only [eO,List.mapM_cons,List.mapM_nil]; cases cf sl s x <;> cases cf sl s y <;> cases cf sl s z <;> rfl
@[simp] theorem yC {x y z u:RX}:eO [x,y,z,u] sl s=(cf sl s x).bind fun a=>(cf sl s y).bind fun b=>(cf sl s z).bind fun c=>(cf sl s u).map fun d=>.tup [a,b,c,d]:=by
 simp only [eO,List.mapM_cons,List.mapM_nil]; cases cf sl s x <;> cases cf sl s y <;> cases cf sl s z <;> cases cf sl s u <;> rfl
@[simp] theorem zN {rm:RM} {rs:List RX} {s0:St} {R:AV→St→Prop}:oB rm rs s0 R .ret sl s=@cH (eO rs sl s) s ⟨fun r s'=>@dz (dE rm s0 r s') ⟨R⟩⟩:=by
 simp only [oB,cH,dz]; cases eO rs sl s with
 | none=>rfl
 | some r=>simp only; cases dE rm s0 r s <;> rfl
@[simp] theorem wK {rm:RM} {rs:List RX} {s0:St} {R:AV→St→Prop}:oB rm rs s0 R .normal sl s=@cH (eO rs sl s) s ⟨fun r s'=>@dz (dE rm s0 r s') ⟨R⟩⟩:=by
 simp only [oB,cH,dz]; cases eO rs sl s with
 | none=>rfl
 | some r=>simp only; cases dE rm s0 r s <;> rfl
@[simp] theorem yx {v:AV}:aX P d .plain [] r K sl v s=aO P r K (put sl d v) s:=by simp [aX,di]
@[simp] theorem zD {v:AV}:aX P d .mut [] r K sl v s=aO P r K (put sl d v) s:=by simp [aX,di]
@[simp] theorem yT {v:AV}:aX P d .asis [] r K sl v s=aO P r K (put sl d v) s:=by simp [aX,di]
@[simp] theorem yM {v:AV}:aX P d .fork [] r K sl v s=aO P r K (put sl d v) s:=by simp [aX,di]
@[simp] theorem As {v:AV}:aX P d .fz [] r K sl v s=@dz (fzI v s) ⟨fun v' s'=>aO P r K (put sl d v') s'⟩:=by
 have e:(fun v' s''=>(∀ q∈([]:List (Nat×Option (Nat×Bool)×I)),fc q sl s'')∧aO P r K (put sl d v') s'')=fun v' s''=>aO P r K (put sl d v') s'':=by funext v' s''; simp
 show @dz (fzI v s) ⟨fun v' s''=>(∀ q∈([]:List (Nat×Option (Nat×Bool)×I)),fc q sl s'')∧aO P r K (put sl d v') s''⟩=_
 rw [e]
@[simp] theorem wO {sz:Nat}:aX P d (.ph sz) [] r K sl (.sl [] true) s=(0<sz∧aO P r K (put sl d (.row s.c sz 0 0)) (newRow sz [] s)):=by
 by_cases h:0<sz <;> simp [aX,di,h]
@[simp] theorem wT {sz g z off len:Nat}:aX P d (.ph sz) [] r K sl (.row g z off len) s=aO P r K (put sl d (.row g z off len)) s:=by simp [aX,di]
@[simp] theorem AX {v:AV} {q:Nat×Option (Nat×Bool)×I}:aX P d .plain (q::re) r K sl v s=(fc q sl s∧aX P d .plain re r K sl v s):=by
 simp [aX,di,and_assoc]
@[simp] theorem zu {f:Nat} {args:List X}:doW P d m (.call f args) re r K sl s=@rS P f (ej m sl args) s ⟨aX P d m re r K sl⟩:=Eq.trans rfl rfl
@[simp] theorem zh {x:X} {args:List X}:doW P d m (.callv x args) re r K sl s=@tl P (x.ev sl) (ej m sl args) s ⟨aX P d m re r K sl⟩:=Eq.trans rfl rfl
@[simp] theorem yB {op:BinOp} {x y:X}:doW P d m (.bin .slNil op x y) re r K sl s=@tX op (x.ev sl) s ⟨aX P d m re r K sl⟩:=Eq.trans rfl rfl
@[simp] theorem doW_nx {x:X}:doW P d m (.nx x) re r K sl s=@xu (x.ev sl) s ⟨aX P d m re r K sl⟩:=Eq.trans rfl rfl
theorem cu {o:Option AV} {F:AV→St→Prop}:(match o.map (·,s) with | some (v,s')=>F v s' | none=>False)=@cH o s ⟨F⟩:=by cases o <;> rfl
theorem fC {o:Option (AV×St)} {F:AV→St→Prop}:(match o with | some (v,s')=>F v s' | none=>False)=@dz o ⟨F⟩:=by cases o <;> rfl
theorem kq {o:Option St} {v:AV} {F:AV→St→Prop}:(match o.map (v,·) with | some (v,s')=>F v s' | none=>False)=@kf o v ⟨F⟩:=by cases o <;> rfl
@[simp] theorem doW_mv {x:X}:doW P d m (.mv x) re r K sl s=aX P d m re r K sl (x.ev sl) s:=Eq.trans rfl rfl
@[simp] theorem doW_pk {c a b:X}:doW P d m (.pk c a b) re r K sl s=@n6 (c.ev sl) ⟨aX P d m re r K sl (a.ev sl) s⟩ ⟨aX P d m re r K sl (b.ev sl) s⟩:=by
 simp only [doW,opW,aL]
 cases c.ev sl with
 | sc v=>cases v <;> first | rfl | (rename_i b'; cases b' <;> rfl)
 | _=>rfl
@[simp] theorem doW_bx {x:X} {sz:Nat}:doW P d m (.bx x sz) re r K sl s=@dz (jN (x.ev sl) sz s) ⟨aX P d m re r K sl⟩:=fC
@[simp] theorem doW_al {zs:List AV}:doW P d m (.al zs) re r K sl s=@dz (jN (.agg zs) zs.length s) ⟨aX P d m re r K sl⟩:=fC
@[simp] theorem doW_bd {zs:List AV} {ps:List (Nat×Nat×X)}:doW P d m (.bd zs ps) re r K sl s=@cH ((aK zs (ps.map fun (o,n,x)=>(o,n,x.ev sl))).map .agg) s ⟨aX P d m re r K sl⟩:=cu
@[simp] theorem doW_bs {sz n:Nat} {zs:List AV} {ps:List (Nat×X)}:doW P d m (.bs sz zs n ps) re r K sl s=@dz (bsI sz zs n (ps.map fun (i,x)=>(i,x.ev sl)) m s) ⟨aX P d m re r K sl⟩:=fC
@[simp] theorem doW_ld {ag:Option Nat} {x:X}:doW P d m (.ld ag x) re r K sl s=@cH (ldI ag (x.ev sl) s) s ⟨aX P d m re r K sl⟩:=cu
@[simp] theorem doW_st {n:Nat} {a x:X}:doW P d m (.st n a x) re r K sl s=@kf (stI n (a.ev sl) (x.ev sl) s) .undef ⟨aX P d m re r K sl⟩:=kq
@[simp] theorem doW_nc {x:X}:doW P d m (.nc x) re r K sl s=@cH (ncI (x.ev sl)) s ⟨aX P d m re r K sl⟩:=by
 simp only [doW,opW,aL,ncI]
 cases x.ev sl with
 | fn f a b=>cases f <;> rfl
 | _=>rfl
@[simp] theorem AQ {k:BK} {op:BinOp} {x y:X} (h:k≠.slNil):doW P d m (.bin k op x y) re r K sl s=@cH (fe k op (x.ev sl) (y.ev sl)) s ⟨aX P d m re r K sl⟩:=by
 cases k <;> first | exact cu | exact absurd rfl h
@[simp] theorem doW_un {op:UnOp} {x:X}:doW P d m (.un op x) re r K sl s=@cH (unI op (x.ev sl)) s ⟨aX P d m re r K sl⟩:=cu
@[simp] theorem doW_cv {k:CK} {x:X}:doW P d m (.cv k x) re r K sl s=@cH (cvI k (x.ev sl) s) s ⟨aX P d m re r K sl⟩:=cu
@[simp] theorem doW_mf {f:Nat} {a b:List X}:doW P d m (.mf f a b) re r K sl s=aX P d m re r K sl (.fn (.func f) (a.map (·.ev sl)) (b.map (·.ev sl))) s:=Eq.trans rfl rfl
@[simp] theorem doW_mm:doW P d m .mm re r K sl s=aX P d m re r K sl (.map s.c) { h:=upd s.h s.c (some (.map [] s.c)),c:=s.c+1 }:=Eq.trans rfl rfl
@[simp] theorem doW_ms {sz bytes:Nat} {zs:List AV} {l c:X}:doW P d m (.ms sz zs bytes l c) re r K sl s=@dz (msI sz zs bytes (l.ev sl) (c.ev sl) s) ⟨aX P d m re r K sl⟩:=fC
@[simp] theorem doW_ss {x:X} {lo hi:Option X}:doW P d m (.ss x lo hi) re r K sl s=@cH (ssI (x.ev sl) (lo.map (·.ev sl)) (hi.map (·.ev sl))) s ⟨aX P d m re r K sl⟩:=cu
@[simp] theorem doW_sr {sz:Nat} {x:X} {lo hi mx:Option X}:doW P d m (.sr sz x lo hi mx) re r K sl s=@cH (srI sz (x.ev sl) (lo.map (·.ev sl)) (hi.map (·.ev sl)) (mx.map (·.ev sl))) s ⟨aX P d m re r K sl⟩:=cu
@[simp] theorem doW_fa {off:Nat} {x:X}:doW P d m (.fa off x) re r K sl s=@cH (faI off (x.ev sl)) s ⟨aX P d m re r K sl⟩:=cu
@[simp] theorem doW_fd {ag:Option Nat} {off:Nat} {x:X}:doW P d m (.fd ag off x) re r K sl s=@cH (fdI ag off (x.ev sl)) s ⟨aX P d m re r K sl⟩:=cu
@[simp] theorem doW_ia {sz:Nat} {x i:X}:doW P d m (.ia sz x i) re r K sl s=@cH (iaI sz (x.ev sl) (i.ev sl)) s ⟨aX P d m re r K sl⟩:=cu
@[simp] theorem doW_ix {x i:X}:doW P d m (.ix x i) re r K sl s=@cH (ixI (x.ev sl) (i.ev sl)) s ⟨aX P d m re r K sl⟩:=cu
@[simp] theorem doW_lk {kk:KK} {z:AV} {ok:Bool} {a k:X}:doW P d m (.lk kk z ok a k) re r K sl s=@cH (lkI kk z ok (a.ev sl) (k.ev sl) s) s ⟨aX P d m re r K sl⟩:=cu
@[simp] theorem doW_mu {kk:KK} {a k v:X}:doW P d m (.mu kk a k v) re r K sl s=@kf (muI kk (a.ev sl) (k.ev sl) (v.ev sl) s) .undef ⟨aX P d m re r K sl⟩:=kq
@[simp] theorem doW_dl {kk:KK} {a k:X}:doW P d m (.dl kk a k) re r K sl s=@kf (dlI kk (a.ev sl) (k.ev sl) s) (.tup []) ⟨aX P d m re r K sl⟩:=kq
@[simp] theorem doW_rg {x:X}:doW P d m (.rg x) re r K sl s=@dz (rgI (x.ev sl) s) ⟨aX P d m re r K sl⟩:=fC
@[simp] theorem doW_cl {sz:Nat} {zs:List AV} {x:X}:doW P d m (.cl sz zs x) re r K sl s=@kf (clI sz zs (x.ev sl) s) (.tup []) ⟨aX P d m re r K sl⟩:=kq
@[simp] theorem doW_nt {x:X}:doW P d m (.nt x) re r K sl s=@cH (ntI (x.ev sl) s) s ⟨aX P d m re r K sl⟩:=cu
@[simp] theorem doW_ex {x:X} {i:Nat}:doW P d m (.ex x i) re r K sl s=@cH (exI (x.ev sl) i) s ⟨aX P d m re r K sl⟩:=cu
@[simp] theorem AB {k:Nat} {x:X}:doW P d m (.len k x) re r K sl s=@cH (eP k (x.ev sl) s) s ⟨aX P d m re r K sl⟩:=cu
@[simp] theorem doW_ap {sz bytes:Nat} {a x:X}:doW P d m (.ap sz bytes a x) re r K sl s=@dz (apI sz bytes m (a.ev sl) (x.ev sl) s) ⟨aX P d m re r K sl⟩:=fC
@[simp] theorem doW_cp {sz:Nat} {a x:X}:doW P d m (.cp sz a x) re r K sl s=@dz (cpI sz (a.ev sl) (x.ev sl) s) ⟨aX P d m re r K sl⟩:=fC
@[simp] theorem doW_mx {l:List X}:doW P d m (.mx l) re r K sl s=@cH (eT (fun a b=>if a<b then b else a) (l.map (·.ev sl))) s ⟨aX P d m re r K sl⟩:=cu
@[simp] theorem doW_mn {l:List X}:doW P d m (.mn l) re r K sl s=@cH (eT (fun a b=>if b<a then b else a) (l.map (·.ev sl))) s ⟨aX P d m re r K sl⟩:=cu
@[simp] theorem doW_mi {t:TypeId} {x:X}:doW P d m (.mi t x) re r K sl s=((x.ev sl).val=true∧aX P d m re r K sl (.ifc t (x.ev sl)) s):=by
 simp only [doW,opW,aL]
 by_cases h:(x.ev sl).val=true <;> simp [h]
end
@[simp] theorem wB {sl:Slots} {xs:List X}:ej .plain sl xs=xs.map fun x=>norm (x.ev sl):=Eq.trans rfl rfl
@[simp] theorem xT {sl:Slots} {xs:List X}:ej .mut sl xs=xs.map fun x=>norm (x.ev sl):=Eq.trans rfl rfl
@[simp] theorem yR {sl:Slots} {xs:List X}:ej .fz sl xs=xs.map fun x=>norm (x.ev sl):=Eq.trans rfl rfl
@[simp] theorem wP {sl:Slots} {xs:List X}:ej .fork sl xs=xs.map fun x=>norm (x.ev sl):=Eq.trans rfl rfl
@[simp] theorem xd {sl:Slots} {xs:List X}:ej .asis sl xs=xs.map (·.ev sl):=Eq.trans rfl rfl
@[simp] theorem Ax {g e o:Nat}:ncI (.ptr g e o)=some (.ptr g e o):=Eq.trans rfl rfl
@[simp] theorem ncI_zp {cs:List AV} {o:Nat}:ncI (.zp cs o)=some (.zp cs o):=Eq.trans rfl rfl
@[simp] theorem ncI_fn {f:Nat} {a b:List AV}:ncI (.fn (.func f) a b)=some (.fn (.func f) a b):=Eq.trans rfl rfl
@[simp] theorem zY {v:Value}:norm (.sc v)=.sc v:=Eq.trans rfl rfl
@[simp] theorem yD {g e o:Nat}:norm (.ptr g e o)=.ptr g e o:=Eq.trans rfl rfl
@[simp] theorem zw {cs:List AV} {o:Nat}:norm (.zp cs o)=.zp cs o:=Eq.trans rfl rfl
@[simp] theorem y8 {g z o n:Nat}:norm (.row g z o n)=.row g z o n:=Eq.trans rfl rfl
@[simp] theorem yQ {g:Nat}:norm (.map g)=.map g:=Eq.trans rfl rfl
@[simp] theorem zP {f:Fn} {a b:List AV}:norm (.fn f a b)=.fn f a b:=Eq.trans rfl rfl
@[simp] theorem yL {cs:List AV}:norm (.agg cs)=.agg (aT cs):=Eq.trans rfl rfl
@[simp] theorem zR {es:List (List AV)} {b:Bool}:norm (.sl es b)=.sl (bo es) false:=Eq.trans rfl rfl
@[simp] theorem x9:aT []=[]:=Eq.trans rfl rfl
@[simp] theorem wU {v:AV} {vs:List AV}:aT (v::vs)=norm v::aT vs:=Eq.trans rfl rfl
@[simp] theorem yg:bo []=[]:=Eq.trans rfl rfl
@[simp] theorem xe {v:List AV} {vs:List (List AV)}:bo (v::vs)=aT v::bo vs:=Eq.trans rfl rfl
@[simp] theorem Aw {v:AV} {sz:Nat} {s:St}:jN v sz s=if 0<sz∧az sz v.cells=true then some (.ptr s.c 0 0,newRow sz [v.cells] s) else none:=Eq.trans rfl rfl
theorem sW {k:IntKind} {a b:Int}:eB .eql k a b=some (.bool (decide (a=b))):=Eq.trans rfl rfl
theorem sL {k:IntKind} {a b:Int}:eB .neq k a b=some (.bool (!decide (a=b))):=Eq.trans rfl rfl
theorem sV {k:IntKind} {a b:Int}:eB .lss k a b=some (.bool (decide (a<b))):=Eq.trans rfl rfl
theorem sR {k:IntKind} {a b:Int}:eB .leq k a b=some (.bool (decide (a≤b))):=Eq.trans rfl rfl
theorem td {k:IntKind} {a b:Int}:eB .gtr k a b=some (.bool (decide (b<a))):=Eq.trans rfl rfl
theorem sB {k:IntKind} {a b:Int}:eB .geq k a b=some (.bool (decide (b≤a))):=Eq.trans rfl rfl
theorem sU {k:IntKind} {a b:Int}:eB .add k a b=some (.int k (k.wrap (a+b))):=Eq.trans rfl rfl
theorem tg {k:IntKind} {a b:Int}:eB .sub k a b=some (.int k (k.wrap (a-b))):=Eq.trans rfl rfl
theorem sm {k:IntKind} {a b:Int}:eB .mul k a b=some (.int k (k.wrap (a*b))):=Eq.trans rfl rfl
theorem te {k:IntKind} {a b:Int}:eB .quo k a b=if b=0 then none else some (.int k (k.wrap (a.tdiv b))):=Eq.trans rfl rfl
theorem sG {k:IntKind} {a b:Int}:eB .rem k a b=if b=0 then none else some (.int k (a.tmod b)):=Eq.trans rfl rfl
attribute [simp] sW sL sV sR td sB sU tg sm te sG
@[simp] theorem yZ {op:BinOp} {k:IntKind} {a b:Int} (h:op≠.shl) (h':op≠.shr):er op (.int k a) (.int k b)=eB op k a b:=by
 cases op <;> first | exact absurd rfl h | exact absurd rfl h' | simp [er]
@[simp] theorem yH {op:BinOp} {a b:ByteArray}:er op (.string a) (.string b)=eZ op a b:=Eq.trans rfl rfl
theorem za {k k':IntKind} {a b:Int}:er .shl (.int k a) (.int k' b)=qj .shl k a b:=Eq.trans rfl rfl
theorem zk {k k':IntKind} {a b:Int}:er .shr (.int k a) (.int k' b)=qj .shr k a b:=Eq.trans rfl rfl
@[simp] theorem Ai {k:IntKind} {n:Int}:unI .neg (.sc (.int k n))=some (.sc (.int k (k.wrap (0-n)))):=Eq.trans rfl rfl
@[simp] theorem Ay {b:Bool}:unI .not (.sc (.bool b))=some (.bool !b):=Eq.trans rfl rfl
attribute [simp] az newRow AV.cells AV.cell iK
@[simp] theorem rb {n g e o:Nat} {v:AV} {s:St}:stI n (.ptr g e o) v s=(match s.h g with
  | some (.row sz es .live none)=>match es[e]? with
   | some cs=>if v.cells.length=n∧v.cells.all AV.cell=true∧o+n≤cs.length then
     some { s with h:=upd s.h g (some (.row sz (es.set e (dm cs o v.cells)) .live none)) } else none
   | none=>none
  | _=>none):=Eq.trans rfl rfl
attribute [simp] St.elem dm
theorem ae {x:Int} (h:-9223372036854775808≤x) (h':x<9223372036854775808):IntKind.i64.wrap x=x:=by
 simp [IntKind.wrap,IntKind.bits,IntKind.signed]; omega
theorem xR (a b:ByteArray):eZ .eql a b=some (.bool (decide (a=b))):=by
 simp only [eZ]
 rw [←beq_toListBytes,fE]
theorem xS (a b:ByteArray):eZ .neq a b=some (.bool !(decide (a=b))):=by
 simp only [eZ]
 rw [←beq_toListBytes,fE]
attribute [simp] xR xS
theorem AH {P:Program} {a:AC} {Q:Ex→Slots→St→Prop} (N:Nat) (Inv:Nat→Slots→St→Prop) {sl:Slots} {s:St} (h0:Inv 0 sl s)
  (step:∀ i sl s,i≤N→Inv i sl s→acW P a (fun e sl' s'=>match e with | .normal=>i<N∧Inv (i+1) sl' s' | e=>Q e sl' s') sl s):acW P (.loop a) Q sl s:=by
 refine gA (fun n sl s=>∃ i,i+n=N∧Inv i sl s) N ⟨0,by omega,h0⟩ ?_
 rintro n sl s ⟨i,hi,hinv⟩
 refine bX a (step i sl s (by omega) hinv) fun e sl' s' he=>?_
 cases e with
 | normal=>exact ⟨n-1,by omega,i+1,by omega,he.2⟩
 | exit id=>exact he
 | ret=>exact he
end Go.AM
