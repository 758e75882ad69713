/- Part of the claim: see its last text. -/
import Derived.Test.YtjhogglgkjcacaaGreatMa27
set_option linter.all false
namespace Go.AM
@[simp] theorem fz1_sc {v:Value} {s:St}:fz1 (.sc v) s=some (.sc v,s):=Eq.trans rfl rfl
@[simp] theorem yN {s:St}:fz1 .undef s=some (.undef,s):=Eq.trans rfl rfl
@[simp] theorem fz1_sl {es:List (List AV)} {f:Bool} {s:St}:fz1 (.sl es f) s=some (.sl (aW es) false,s):=Eq.trans rfl rfl
@[simp] theorem Ao {g e o:Nat} {s:St}:fz1 (.ptr g e o) s=some (.ptr g e o,s):=Eq.trans rfl rfl
@[simp] theorem fz1_zp {cs:List AV} {o:Nat} {s:St}:fz1 (.zp cs o) s=some (.zp cs o,s):=Eq.trans rfl rfl
@[simp] theorem An {g:Nat} {s:St}:fz1 (.map g) s=some (.map g,s):=Eq.trans rfl rfl
@[simp] theorem fz1_fn {f:Fn} {a b:List AV} {s:St}:fz1 (.fn f a b) s=some (.fn f a b,s):=Eq.trans rfl rfl
@[simp] theorem Am {t:TypeId} {v:AV} {s:St}:fz1 (.ifc t v) s=some (.ifc t v,s):=Eq.trans rfl rfl
@[simp] theorem dE {g z off len:Nat} {s:St}:fz1 (.row g z off len) s=(match s.h g with
  | some (.row sz es st par)=>if off+len≤es.length∧par=none∧(st=.live∨st=.frz) then
    some (.sl (aW ((es.drop off).take len)) false,{ s with h:=upd s.h g (some (.row sz es .frz none)) }) else none
  | _=>none):=Eq.trans rfl rfl
@[simp] theorem Au {s:St}:fzL [] s=some ([],s):=Eq.trans rfl rfl
@[simp] theorem zz {v:AV} {vs:List AV} {s:St}:fzL (v::vs) s=(match fz1 v s with
  | some (v',s')=>match fzL vs s' with
   | some (vs',s'')=>some (v'::vs',s'')
   | none=>none
  | none=>none):=Eq.trans rfl rfl
@[simp] theorem Ap {cs:List AV} {s:St}:fzI (.agg cs) s=(match fzL cs s with | some (cs',s')=>some (.agg cs',s') | none=>none):=Eq.trans rfl rfl
@[simp] theorem fzI_sc {v:Value} {s:St}:fzI (.sc v) s=fz1 (.sc v) s:=Eq.trans rfl rfl
@[simp] theorem yO {s:St}:fzI .undef s=fz1 .undef s:=Eq.trans rfl rfl
@[simp] theorem fzI_sl {es:List (List AV)} {f:Bool} {s:St}:fzI (.sl es f) s=fz1 (.sl es f) s:=Eq.trans rfl rfl
@[simp] theorem As {g e o:Nat} {s:St}:fzI (.ptr g e o) s=fz1 (.ptr g e o) s:=Eq.trans rfl rfl
@[simp] theorem fzI_zp {cs:List AV} {o:Nat} {s:St}:fzI (.zp cs o) s=fz1 (.zp cs o) s:=Eq.trans rfl rfl
@[simp] theorem Ar {g:Nat} {s:St}:fzI (.map g) s=fz1 (.map g) s:=Eq.trans rfl rfl
@[simp] theorem fzI_fn {f:Fn} {a b:List AV} {s:St}:fzI (.fn f a b) s=fz1 (.fn f a b) s:=Eq.trans rfl rfl
@[simp] theorem Aq {t:TypeId} {v:AV} {s:St}:fzI (.ifc t v) s=fz1 (.ifc t v) s:=Eq.trans rfl rfl
@[simp] theorem At {g z off len:Nat} {s:St}:fzI (.row g z off len) s=fz1 (.row g z off len) s:=Eq.trans rfl rfl
@[simp] theorem AA {vs:List AV} {s:St}:fzR (.tup vs) s=(match fzR.go vs s with | some (vs',s')=>some (.tup vs',s') | none=>none):=Eq.trans rfl rfl
@[simp] theorem yQ {s:St}:fzR.go [] s=some ([],s):=Eq.trans rfl rfl
@[simp] theorem xM {v:AV} {vs:List AV} {s:St}:fzR.go (v::vs) s=(match fzI v s with
   | some (v',s')=>match fzR.go vs s' with
    | some (vs',s'')=>some (v'::vs',s'')
    | none=>none
   | none=>none):=Eq.trans rfl rfl
@[simp] theorem Av {cs:List AV} {s:St}:fzR (.agg cs) s=fzI (.agg cs) s:=Eq.trans rfl rfl
@[simp] theorem fzR_sc {v:Value} {s:St}:fzR (.sc v) s=fz1 (.sc v) s:=Eq.trans rfl rfl
@[simp] theorem yP {s:St}:fzR .undef s=fz1 .undef s:=Eq.trans rfl rfl
@[simp] theorem fzR_sl {es:List (List AV)} {f:Bool} {s:St}:fzR (.sl es f) s=fz1 (.sl es f) s:=Eq.trans rfl rfl
@[simp] theorem Ay {g e o:Nat} {s:St}:fzR (.ptr g e o) s=fz1 (.ptr g e o) s:=Eq.trans rfl rfl
@[simp] theorem fzR_zp {cs:List AV} {o:Nat} {s:St}:fzR (.zp cs o) s=fz1 (.zp cs o) s:=Eq.trans rfl rfl
@[simp] theorem Ax {g:Nat} {s:St}:fzR (.map g) s=fz1 (.map g) s:=Eq.trans rfl rfl
@[simp] theorem fzR_fn {f:Fn} {a b:List AV} {s:St}:fzR (.fn f a b) s=fz1 (.fn f a b) s:=Eq.trans rfl rfl
@[simp] theorem Aw {t:TypeId} {v:AV} {s:St}:fzR (.ifc t v) s=fz1 (.ifc t v) s:=Eq.trans rfl rfl
@[simp] theorem Az {g z off len:Nat} {s:St}:fzR (.row g z off len) s=fz1 (.row g z off len) s:=Eq.trans rfl rfl
@[simp] theorem wV {s0 s:St} {r:AV}:dz .frz s0 r s=(fzR r s).map fun p=>(p.1,{ h:=retH s0.c s0.h p.2.h,c:=p.2.c }):=Eq.trans rfl rfl
@[simp] theorem pU {s0 s:St} {r:AV}:dz .keep s0 r s=some (r,s):=Eq.trans rfl rfl
@[simp] theorem wl {s0 s:St} {g sz off len:Nat}:dz .fresh s0 (.row g sz off len) s=(match s.h g with
   | some (.row _ _ .live none)=>some (.row g sz off len,{ h:=upd (retH s0.c s0.h s.h) g (s.h g),c:=s.c })
   | _=>none):=Eq.trans rfl rfl
@[simp] theorem AH {ag:Option Nat} {g e o:Nat} {s:St}:ldI ag (.ptr g e o) s=(s.elem g e).bind (cK ag · o):=Eq.trans rfl rfl
@[simp] theorem ldI_zp {ag:Option Nat} {cs:List AV} {o:Nat} {s:St}:ldI ag (.zp cs o) s=cK ag cs o:=Eq.trans rfl rfl
@[simp] theorem wm {cs:List AV} {o:Nat}:cK none cs o=cs[o]?:=Eq.trans rfl rfl
@[simp] theorem wn {cs:List AV} {o n:Nat}:cK (some n) cs o=if o+n≤cs.length then some (.agg ((cs.drop o).take n)) else none:=Eq.trans rfl rfl
@[simp] theorem Ai {off g e o:Nat}:faI off (.ptr g e o)=some (.ptr g e (o+off)):=Eq.trans rfl rfl
@[simp] theorem faI_zp {off o:Nat} {cs:List AV}:faI off (.zp cs o)=some (.zp cs (o+off)):=Eq.trans rfl rfl
@[simp] theorem Aj {ag:Option Nat} {off:Nat} {cs:List AV}:fdI ag off (.agg cs)=cK ag cs off:=Eq.trans rfl rfl
@[simp] theorem asI_sc {k:IntKind} {n:Int}:asI (.sc (.int k n))=some n:=Eq.trans rfl rfl
@[simp] theorem iaI_sl {sz:Nat} {es:List (List AV)} {f:Bool} {k:IntKind} {n:Int}:iaI sz (.sl es f) (.sc (.int k n))=if 0≤n then match es[n.toNat]? with
   | some cs=>if cs.length=sz then some (.zp cs 0) else none
   | none=>none
   else none:=Eq.trans rfl rfl
@[simp] theorem AG {sz g z off len:Nat} {k:IntKind} {n:Int}:iaI sz (.row g z off len) (.sc (.int k n))=if sz=z∧0≤n∧n<len then some (.ptr g (off+n.toNat) 0) else none:=Eq.trans rfl rfl
@[simp] theorem ixI_sc {b:ByteArray} {k:IntKind} {n:Int}:ixI (.sc (.string b)) (.sc (.int k n))=if 0≤n then (b[n.toNat]?).map fun b=>.sc (.int .u8 b.toNat) else none:=Eq.trans rfl rfl
@[simp] theorem zF {b:ByteArray} {s:St}:ee 0 (.sc (.string b)) s=some (.int b.size):=Eq.trans rfl rfl
@[simp] theorem AI {es:List (List AV)} {f:Bool} {s:St}:ee 1 (.sl es f) s=some (.int es.length):=Eq.trans rfl rfl
@[simp] theorem zE {g z off len:Nat} {s:St}:ee 1 (.row g z off len) s=some (.int len):=Eq.trans rfl rfl
@[simp] theorem zD {g:Nat} {s:St}:ee 2 (.map g) s=(match s.h g with
  | some (.map kv _)=>some (.int kv.length)
  | _=>none):=Eq.trans rfl rfl
@[simp] theorem Ab {op:BinOp} {a b:Value}:eX .sc op (.sc a) (.sc b)=(eL op a b).map .sc:=Eq.trans rfl rfl
@[simp] theorem Aa {op:BinOp} {a b:Value}:eX .bl op (.sc a) (.sc b)=(iQ op a b).map .sc:=Eq.trans rfl rfl
@[simp] theorem zu {op:BinOp} {ks:List FK} {a b:List AV}:eX (.eqAgg ks) op (.agg a) (.agg b)=(ci ks a b).bind (iH op):=Eq.trans rfl rfl
@[simp] theorem yC {a b:Bool}:iQ .eql (.bool a) (.bool b)=some (.bool (decide (a=b))):=by cases a <;> cases b <;> rfl
@[simp] theorem yD {a b:Bool}:iQ .neq (.bool a) (.bool b)=some (.bool (!decide (a=b))):=by cases a <;> cases b <;> rfl
@[simp] theorem Ah {vs:List AV} {i:Nat}:exI (.tup vs) i=vs[i]?:=Eq.trans rfl rfl
@[simp] theorem Ad {k k':IntKind} {n:Int} {s:St}:cvI (.int k) (.sc (.int k' n)) s=some (.sc (.int k (k.wrap n))):=Eq.trans rfl rfl
@[simp] theorem zv {a:ByteArray} {s:St}:cvI .same (.sc (.string a)) s=some (.sc (.string a)):=Eq.trans rfl rfl
def ncI:AV→Option AV
 | .ptr g e o=>some (.ptr g e o)
 | .zp cs o=>some (.zp cs o)
 | .fn (.func f) a b=>some (.fn (.func f) a b)
 | _=>none
def n6 (P:Program) (b:AC) (Q:Ex→Slots→St→Prop):Ex→Slots→St→Prop:=fun e sl' s'=>match e with | .normal=>acW P b Q sl' s' | e=>Q e sl' s'
def jr (id:Nat) (Q:Ex→Slots→St→Prop):Ex→Slots→St→Prop:=fun e sl' s'=>match e with | .exit i=>if i=id then Q .normal sl' s' else Q (.exit i) sl' s' | e=>Q e sl' s'
def eC (N:Slots→St→Prop) (Q:Ex→Slots→St→Prop):Ex→Slots→St→Prop:=fun e sl' s'=>match e with | .normal=>N sl' s' | e=>Q e sl' s'
class Bx (α:Type) where
 v:α
def pe (v:AV) [A:Bx Prop] [B:Bx Prop]:Prop:=match v with
 | .sc (.bool t)=>if t=true then A.v else B.v
 | _=>False
def nR (v:AV) (b:Bool) [A:Bx Prop] [B:Bx Prop]:Prop:=match v with
 | .sc (.bool b')=>if b'=b then A.v else B.v
 | .tup []=>B.v
 | _=>False
def cA (o:Option AV) (s:St) [F:Bx (AV→St→Prop)]:Prop:=match o with
 | some v=>F.v v s
 | none=>False
def dr (o:Option (AV×St)) [F:Bx (AV→St→Prop)]:Prop:=match o with
 | some (v,s)=>F.v v s
 | none=>False
def jL (o:Option St) (v:AV) [F:Bx (AV→St→Prop)]:Prop:=match o with
 | some s=>F.v v s
 | none=>False
def rG (P:Program) (f:FuncId) (args:List AV) (s:St) [F:Bx (AV→St→Prop)]:Prop:=ACalls P f args s F.v
def lpW (P:Program) [A:Bx AC] (sl:Slots) (s:St) [Q:Bx (Ex→Slots→St→Prop)]:Prop:=acW P (.loop A.v) Q.v sl s
def u5 (op:BinOp) (x:AV) (s:St) [F:Bx (AV→St→Prop)]:Prop:=jC op x s F.v
def xZ (x:AV) (s:St) [F:Bx (AV→St→Prop)]:Prop:=nxW x s F.v
def aZ (P:Program) (d:Option Nat) (m:Md) (re:List (Nat×Option (Nat×Bool)×I)) (r:List AO) (K:Slots→St→Prop) (sl:Slots) (v:AV) (s:St):Prop:=
 @dr (cR m v s) ⟨fun v' s''=>(∀ q∈re,eA q sl s'')∧aN P r K (put sl d v') s''⟩
def sC (P:Program) (x:AV) (args:List AV) (s:St) [F:Bx (AV→St→Prop)]:Prop:=match x with
 | .fn (.func f) a b=>rG P f (a++args++b) s
 | _=>False
def doW (P:Program) (d:Option Nat) (m:Md) (i:I) (re:List (Nat×Option (Nat×Bool)×I)) (r:List AO) (K:Slots→St→Prop) (sl:Slots) (s:St):Prop:=opW P ⟨d,none,m,i,re⟩ sl s (aZ P d m re r K sl)
@[congr] theorem zq {P:Program} {a:AC} {Q:Ex→Slots→St→Prop} {sl sl':Slots} {s s':St} (h1:sl=sl') (h2:s=s'):acW P a Q sl s=acW P a Q sl' s':=by rw [h1,h2]
@[congr] theorem zg {P:Program} {b:AC} {Q:Ex→Slots→St→Prop} {e:Ex} {sl sl':Slots} {s s':St} (h1:sl=sl') (h2:s=s'):n6 P b Q e sl s=n6 P b Q e sl' s':=by rw [h1,h2]
@[congr] theorem wT {id:Nat} {Q:Ex→Slots→St→Prop} {e:Ex} {sl sl':Slots} {s s':St} (h1:sl=sl') (h2:s=s'):jr id Q e sl s=jr id Q e sl' s':=by rw [h1,h2]
@[congr] theorem xT {N:Slots→St→Prop} {Q:Ex→Slots→St→Prop} {e:Ex} {sl sl':Slots} {s s':St} (h1:sl=sl') (h2:s=s'):eC N Q e sl s=eC N Q e sl' s':=by rw [h1,h2]
@[congr] theorem y9 {P:Program} {l:List AO} {K:Slots→St→Prop} {sl sl':Slots} {s s':St} (h1:sl=sl') (h2:s=s'):aN P l K sl s=aN P l K sl' s':=by rw [h1,h2]
@[congr] theorem yL {P:Program} {d:Option Nat} {m:Md} {re:List (Nat×Option (Nat×Bool)×I)} {r:List AO} {K:Slots→St→Prop} {sl sl':Slots} {v v':AV} {s s':St} (h1:sl=sl') (h2:v=v') (h3:s=s'):aZ P d m re r K sl v s=aZ P d m re r K sl' v' s':=by rw [h1,h2,h3]
@[congr] theorem zx {P:Program} {d:Option Nat} {m:Md} {i:I} {re:List (Nat×Option (Nat×Bool)×I)} {r:List AO} {K:Slots→St→Prop} {sl sl':Slots} {s s':St} (h1:sl=sl') (h2:s=s'):doW P d m i re r K sl s=doW P d m i re r K sl' s':=by rw [h1,h2]
@[congr] theorem yp {P:Program} {a:AO} {pre:List (Bool×AO)} {post:List AO} {K:Slots→St→Prop} {sl sl':Slots} {s s':St} (h1:sl=sl') (h2:s=s'):cg P a post K pre sl s=cg P a post K pre sl' s':=by rw [h1,h2]
section
variable {P:Program} {Q:Ex→Slots→St→Prop} {sl:Slots} {s:St} {d:Option Nat} {m:Md} {re:List (Nat×Option (Nat×Bool)×I)} {r:List AO} {K:Slots→St→Prop}
@[simp] theorem zt:acW P .skip Q sl s=Q .normal sl s:=Eq.trans rfl rfl
@[simp] theorem zX {l:List AO}:acW P (.ops l) Q sl s=aN P l (Q .normal) sl s:=Eq.trans rfl rfl
@[simp] theorem zr {a:AO} {pre:List (Bool×AO)} {post:List AO}:acW P (.roam a pre post) Q sl s=cg P a post (Q .normal) pre sl s:=Eq.trans rfl rfl
@[simp] theorem zZ {a b:AC}:acW P (.seq a b) Q sl s=acW P a (n6 P b Q) sl s:=Eq.trans rfl rfl
@[simp] theorem zn {c:X} {a b:AC}:acW P (.cond c a b) Q sl s=@pe (c.ev sl) ⟨acW P a Q sl s⟩ ⟨acW P b Q sl s⟩:=Eq.trans rfl rfl
@[simp] theorem zW {a:AC}:acW P (.loop a) Q sl s=@lpW P ⟨a⟩ sl s ⟨Q⟩:=Eq.trans rfl rfl
@[simp] theorem bx_v {α:Type} {x:α}:(Bx.mk x).v=x:=Eq.trans rfl rfl
@[simp] theorem yA {id:Nat} {a:AC}:acW P (.block id a) Q sl s=acW P a (jr id Q) sl s:=Eq.trans rfl rfl
@[simp] theorem zo {id:Nat}:acW P (.exit id) Q sl s=Q (.exit id) sl s:=Eq.trans rfl rfl
@[simp] theorem zY:acW P .ret Q sl s=Q .ret sl s:=Eq.trans rfl rfl
@[simp] theorem xj {b:AC}:n6 P b Q .normal sl s=acW P b Q sl s:=Eq.trans rfl rfl
@[simp] theorem zf {b:AC} {i:Nat}:n6 P b Q (.exit i) sl s=Q (.exit i) sl s:=Eq.trans rfl rfl
@[simp] theorem zR {b:AC}:n6 P b Q .ret sl s=Q .ret sl s:=Eq.trans rfl rfl
@[simp] theorem wk {id:Nat}:jr id Q .normal sl s=Q .normal sl s:=Eq.trans rfl rfl
@[simp] theorem wS {id i:Nat}:jr id Q (.exit i) sl s=if i=id then Q .normal sl s else Q (.exit i) sl s:=Eq.trans rfl rfl
@[simp] theorem xB {id:Nat}:jr id Q .ret sl s=Q .ret sl s:=Eq.trans rfl rfl
@[simp] theorem wH {N:Slots→St→Prop}:eC N Q .normal sl s=N sl s:=Eq.trans rfl rfl
@[simp] theorem xS {N:Slots→St→Prop} {i:Nat}:eC N Q (.exit i) sl s=Q (.exit i) sl s:=Eq.trans rfl rfl
@[simp] theorem yS {N:Slots→St→Prop}:eC N Q .ret sl s=Q .ret sl s:=Eq.trans rfl rfl
@[simp] theorem xF {A B:Bx Prop}:@pe (.sc (.bool true)) A B=A.v:=Eq.trans rfl rfl
@[simp] theorem wU {A B:Bx Prop}:@pe (.sc (.bool false)) A B=B.v:=Eq.trans rfl rfl
@[simp] theorem yR {b:Bool} {A B:Bx Prop}:@nR (.tup []) b A B=B.v:=Eq.trans rfl rfl
@[simp] theorem AF {A B:Bx Prop}:@nR (.sc (.bool true)) true A B=A.v:=Eq.trans rfl rfl
@[simp] theorem AB {A B:Bx Prop}:@nR (.sc (.bool false)) false A B=A.v:=Eq.trans rfl rfl
@[simp] theorem AE {A B:Bx Prop}:@nR (.sc (.bool true)) false A B=B.v:=Eq.trans rfl rfl
@[simp] theorem AD {A B:Bx Prop}:@nR (.sc (.bool false)) true A B=B.v:=Eq.trans rfl rfl
@[simp] theorem xA {v:AV} {F:Bx (AV→St→Prop)}:cA (some v) s=F.v v s:=Eq.trans rfl rfl
@[simp] theorem xz {F:Bx (AV→St→Prop)}:cA none s=False:=Eq.trans rfl rfl
@[simp] theorem xw {v:AV} {F:Bx (AV→St→Prop)}:dr (some (v,s))=F.v v s:=Eq.trans rfl rfl
@[simp] theorem xu {F:Bx (AV→St→Prop)}:dr none=False:=Eq.trans rfl rfl
@[simp] theorem xy {v:AV} {F:Bx (AV→St→Prop)}:jL (some s) v=F.v v s:=Eq.trans rfl rfl
@[simp] theorem xx {v:AV} {F:Bx (AV→St→Prop)}:jL none v=False:=Eq.trans rfl rfl
@[simp] theorem yG {f:Nat} {a b args:List AV} {F:Bx (AV→St→Prop)}:sC P (.fn (.func f) a b) args s=rG P f (a++args++b) s:=Eq.trans rfl rfl
@[simp] theorem zL:aN P [] K sl s=K sl s:=Eq.trans rfl rfl
@[simp] theorem za {i:I}:aN P (⟨d,none,m,i,re⟩::r) K sl s=doW P d m i re r K sl s:=by
 have e:aZ P d m re r K sl=fun v s'=>match cR m v s' with
   | some (v',s'')=>(∀ q∈re,eA q sl s'')∧aN P r K (put sl d v') s''
   | none=>False:=by funext v s'; simp only [aZ]; cases cR m v s' <;> rfl
 unfold doW; rw [e]; rfl
@[simp] theorem zd {i:I} {t:Nat} {b:Bool}:aN P (⟨d,some (t,b),m,i,re⟩::r) K sl s=@nR (sl t) b ⟨doW P d m i re r K sl s⟩ ⟨aN P r K (put sl d (.tup [])) s⟩:=by
 have h:doW P d m i re r K sl s=opW P ⟨d,some (t,b),m,i,re⟩ sl s fun v s'=>match cR m v s' with
   | some (v',s'')=>(∀ q∈re,eA q sl s'')∧aN P r K (put sl d v') s''
   | none=>False:=by
  unfold doW
  have e:aZ P d m re r K sl=fun v s'=>match cR m v s' with
   | some (v',s'')=>(∀ q∈re,eA q sl s'')∧aN P r K (put sl d v') s''
   | none=>False:=by funext v s'; simp only [aZ]; cases cR m v s' <;> rfl
  rw [e]; rfl
 rw [h]
 simp only [aN,gdI]
 cases sl t with
 | sc v=>cases v <;> first | rfl | (rename_i b'; cases b <;> cases b' <;> rfl)
 | tup vs=>cases vs <;> rfl
 | _=>rfl
@[simp] theorem AN {n:Nat}:cd sl s (.t n)=some (sl n):=Eq.trans rfl rfl
@[simp] theorem AL {n:Nat} {ag:Option Nat}:cd sl s (.l n ag)=ldI ag (sl n) s:=Eq.trans rfl rfl
@[simp] theorem zP {x:RX}:eB [x] sl s=cd sl s x:=by
 simp only [eB,List.mapM_cons,List.mapM_nil]; cases cd sl s x <;> rfl
@[simp] theorem zO:eB [] sl s=some (.tup []):=Eq.trans rfl rfl
@[simp] theorem zQ {x y:RX}:eB [x,y] sl s=(cd sl s x).bind fun a=>(cd sl s y).map fun b=>.tup [a,b]:=by
 simp only [eB,List.mapM_cons,List.mapM_nil]; cases cd sl s x <;> cases cd sl s y <;> rfl
@[simp] theorem yl {x y z:RX}:eB [x,y,z] sl s=(cd sl s x).bind fun a=>(cd sl s y).bind fun b=>(cd sl s z).map fun c=>.tup [a,b,c]:=by
 simp only [eB,List.mapM_cons,List.mapM_nil]; cases cd sl s x <;> cases cd sl s y <;> cases cd sl s z <;> rfl
@[simp] theorem ze {x y z u:RX}:eB [x,y,z,u] sl s=(cd sl s x).bind fun a=>(cd sl s y).bind fun b=>(cd sl s z).bind fun c=>(cd sl s u).map fun d=>.tup [a,b,c,d]:=by
 simp only [eB,List.mapM_cons,List.mapM_nil]; cases cd sl s x <;> cases cd sl s y <;> cases cd sl s z <;> cases cd sl s u <;> rfl
@[simp] theorem zm {rm:RM} {rs:List RX} {s0:St} {R:AV→St→Prop}:l8 rm rs s0 R .ret sl s=@cA (eB rs sl s) s ⟨fun r s'=>@dr (dz rm s0 r s') ⟨R⟩⟩:=by
 simp only [l8,cA,dr]; cases eB rs sl s with
 | none=>rfl
 | some r=>simp only; cases dz rm s0 r s <;> rfl
@[simp] theorem wP {rm:RM} {rs:List RX} {s0:St} {R:AV→St→Prop}:l8 rm rs s0 R .normal sl s=@cA (eB rs sl s) s ⟨fun r s'=>@dr (dz rm s0 r s') ⟨R⟩⟩:=by
 simp only [l8,cA,dr]; cases eB rs sl s with
 | none=>rfl
 | some r=>simp only; cases dz rm s0 r s <;> rfl
@[simp] theorem xL {v:AV}:aZ P d .plain [] r K sl v s=aN P r K (put sl d v) s:=by simp [aZ,cR]
@[simp] theorem zy {v:AV}:aZ P d .mut [] r K sl v s=aN P r K (put sl d v) s:=by simp [aZ,cR]
@[simp] theorem yJ {v:AV}:aZ P d .asis [] r K sl v s=aN P r K (put sl d v) s:=by simp [aZ,cR]
@[simp] theorem yK {v:AV}:aZ P d .fork [] r K sl v s=aN P r K (put sl d v) s:=by simp [aZ,cR]
@[simp] theorem Ak {v:AV}:aZ P d .fz [] r K sl v s=@dr (fzI v s) ⟨fun v' s'=>aN P r K (put sl d v') s'⟩:=by
 have e:(fun v' s''=>(∀ q∈([]:List (Nat×Option (Nat×Bool)×I)),eA q sl s'')∧aN P r K (put sl d v') s'')=fun v' s''=>aN P r K (put sl d v') s'':=by funext v' s''; simp
 show @dr (fzI v s) ⟨fun v' s''=>(∀ q∈([]:List (Nat×Option (Nat×Bool)×I)),eA q sl s'')∧aN P r K (put sl d v') s''⟩=_
 rw [e]
@[simp] theorem wW {sz:Nat}:aZ P d (.ph sz) [] r K sl (.sl [] true) s=(0<sz∧aN P r K (put sl d (.row s.c sz 0 0)) (newRow sz [] s)):=by
 by_cases h:0<sz <;> simp [aZ,cR,h]
@[simp] theorem wX {sz g z off len:Nat}:aZ P d (.ph sz) [] r K sl (.row g z off len) s=aN P r K (put sl d (.row g z off len)) s:=by simp [aZ,cR]
@[simp] theorem Al {v:AV} {q:Nat×Option (Nat×Bool)×I}:aZ P d .plain (q::re) r K sl v s=(eA q sl s∧aZ P d .plain re r K sl v s):=by
 simp [aZ,cR,and_assoc]
@[simp] theorem zw {f:Nat} {args:List X}:doW P d m (.call f args) re r K sl s=@rG P f (cH m sl args) s ⟨aZ P d m re r K sl⟩:=Eq.trans rfl rfl
@[simp] theorem yH {x:X} {args:List X}:doW P d m (.callv x args) re r K sl s=@sC P (x.ev sl) (cH m sl args) s ⟨aZ P d m re r K sl⟩:=Eq.trans rfl rfl
@[simp] theorem yI {op:BinOp} {x y:X}:doW P d m (.bin .slNil op x y) re r K sl s=@u5 op (x.ev sl) s ⟨aZ P d m re r K sl⟩:=Eq.trans rfl rfl
@[simp] theorem doW_nx {x:X}:doW P d m (.nx x) re r K sl s=@xZ (x.ev sl) s ⟨aZ P d m re r K sl⟩:=Eq.trans rfl rfl
theorem cf {o:Option AV} {F:AV→St→Prop}:(match o.map (·,s) with | some (v,s')=>F v s' | none=>False)=@cA o s ⟨F⟩:=by cases o <;> rfl
theorem fv {o:Option (AV×St)} {F:AV→St→Prop}:(match o with | some (v,s')=>F v s' | none=>False)=@dr o ⟨F⟩:=by cases o <;> rfl
theorem jM {o:Option St} {v:AV} {F:AV→St→Prop}:(match o.map (v,·) with | some (v,s')=>F v s' | none=>False)=@jL o v ⟨F⟩:=by cases o <;> rfl
@[simp] theorem doW_mv {x:X}:doW P d m (.mv x) re r K sl s=aZ P d m re r K sl (x.ev sl) s:=Eq.trans rfl rfl
@[simp] theorem doW_pk {c a b:X}:doW P d m (.pk c a b) re r K sl s=@pe (c.ev sl) ⟨aZ P d m re r K sl (a.ev sl) s⟩ ⟨aZ P d m re r K sl (b.ev sl) s⟩:=by
 simp only [doW,opW,aJ]
 cases c.ev sl with
 | sc v=>cases v <;> first | rfl | (rename_i b'; cases b' <;> rfl)
 | _=>rfl
@[simp] theorem doW_bx {x:X} {sz:Nat}:doW P d m (.bx x sz) re r K sl s=@dr (jN (x.ev sl) sz s) ⟨aZ P d m re r K sl⟩:=fv
@[simp] theorem doW_al {zs:List AV}:doW P d m (.al zs) re r K sl s=@dr (jN (.agg zs) zs.length s) ⟨aZ P d m re r K sl⟩:=fv
@[simp] theorem doW_bd {zs:List AV} {ps:List (Nat×Nat×X)}:doW P d m (.bd zs ps) re r K sl s=@cA ((aM zs (ps.map fun (o,n,x)=>(o,n,x.ev sl))).map .agg) s ⟨aZ P d m re r K sl⟩:=cf
@[simp] theorem doW_bs {sz n:Nat} {zs:List AV} {ps:List (Nat×X)}:doW P d m (.bs sz zs n ps) re r K sl s=@dr (bsI sz zs n (ps.map fun (i,x)=>(i,x.ev sl)) m s) ⟨aZ P d m re r K sl⟩:=fv
@[simp] theorem doW_ld {ag:Option Nat} {x:X}:doW P d m (.ld ag x) re r K sl s=@cA (ldI ag (x.ev sl) s) s ⟨aZ P d m re r K sl⟩:=cf
@[simp] theorem doW_st {n:Nat} {a x:X}:doW P d m (.st n a x) re r K sl s=@jL (stI n (a.ev sl) (x.ev sl) s) .undef ⟨aZ P d m re r K sl⟩:=jM
@[simp] theorem doW_nc {x:X}:doW P d m (.nc x) re r K sl s=@cA (ncI (x.ev sl)) s ⟨aZ P d m re r K sl⟩:=by
 simp only [doW,opW,aJ,ncI]
 cases x.ev sl with
 | fn f a b=>cases f <;> rfl
 | _=>rfl
@[simp] theorem Ae {k:BK} {op:BinOp} {x y:X} (h:k≠.slNil):doW P d m (.bin k op x y) re r K sl s=@cA (eX k op (x.ev sl) (y.ev sl)) s ⟨aZ P d m re r K sl⟩:=by
 cases k <;> first | exact cf | exact absurd rfl h
@[simp] theorem doW_un {op:UnOp} {x:X}:doW P d m (.un op x) re r K sl s=@cA (unI op (x.ev sl)) s ⟨aZ P d m re r K sl⟩:=cf
@[simp] theorem doW_cv {k:CK} {x:X}:doW P d m (.cv k x) re r K sl s=@cA (cvI k (x.ev sl) s) s ⟨aZ P d m re r K sl⟩:=cf
@[simp] theorem doW_mf {f:Nat} {a b:List X}:doW P d m (.mf f a b) re r K sl s=aZ P d m re r K sl (.fn (.func f) (a.map (·.ev sl)) (b.map (·.ev sl))) s:=Eq.trans rfl rfl
@[simp] theorem doW_mm:doW P d m .mm re r K sl s=aZ P d m re r K sl (.map s.c) { h:=upd s.h s.c (some (.map [] s.c)),c:=s.c+1 }:=Eq.trans rfl rfl
@[simp] theorem doW_ms {sz bytes:Nat} {zs:List AV} {l c:X}:doW P d m (.ms sz zs bytes l c) re r K sl s=@dr (msI sz zs bytes (l.ev sl) (c.ev sl) s) ⟨aZ P d m re r K sl⟩:=fv
@[simp] theorem doW_ss {x:X} {lo hi:Option X}:doW P d m (.ss x lo hi) re r K sl s=@cA (ssI (x.ev sl) (lo.map (·.ev sl)) (hi.map (·.ev sl))) s ⟨aZ P d m re r K sl⟩:=cf
@[simp] theorem doW_sr {sz:Nat} {x:X} {lo hi mx:Option X} (h:m≠.mut):doW P d m (.sr sz x lo hi mx) re r K sl s=@cA (srI sz (x.ev sl) (lo.map (·.ev sl)) (hi.map (·.ev sl)) (mx.map (·.ev sl))) s ⟨aZ P d m re r K sl⟩:=by
 unfold doW opW
 simp only [aJ,h,if_false]
 exact cf
@[simp] theorem Ag {sz:Nat} {x:X} {lo hi mx:Option X}:doW P d .mut (.sr sz x lo hi mx) re r K sl s=@cA (srX sz (x.ev sl) (lo.map (·.ev sl)) (hi.map (·.ev sl)) (mx.map (·.ev sl)) s) s ⟨aZ P d .mut re r K sl⟩:=cf
@[simp] theorem doW_fa {off:Nat} {x:X}:doW P d m (.fa off x) re r K sl s=@cA (faI off (x.ev sl)) s ⟨aZ P d m re r K sl⟩:=cf
@[simp] theorem doW_fd {ag:Option Nat} {off:Nat} {x:X}:doW P d m (.fd ag off x) re r K sl s=@cA (fdI ag off (x.ev sl)) s ⟨aZ P d m re r K sl⟩:=cf
@[simp] theorem doW_ia {sz:Nat} {x i:X}:doW P d m (.ia sz x i) re r K sl s=@cA (iaI sz (x.ev sl) (i.ev sl)) s ⟨aZ P d m re r K sl⟩:=cf
@[simp] theorem doW_ix {x i:X}:doW P d m (.ix x i) re r K sl s=@cA (ixI (x.ev sl) (i.ev sl)) s ⟨aZ P d m re r K sl⟩:=cf
@[simp] theorem doW_lk {kk:KK} {z:AV} {ok:Bool} {a k:X}:doW P d m (.lk kk z ok a k) re r K sl s=@cA (lkI kk z ok (a.ev sl) (k.ev sl) s) s ⟨aZ P d m re r K sl⟩:=cf
@[simp] theorem doW_mu {kk:KK} {a k v:X}:doW P d m (.mu kk a k v) re r K sl s=@jL (muI kk (a.ev sl) (k.ev sl) (v.ev sl) s) .undef ⟨aZ P d m re r K sl⟩:=jM
@[simp] theorem doW_dl {kk:KK} {a k:X}:doW P d m (.dl kk a k) re r K sl s=@jL (dlI kk (a.ev sl) (k.ev sl) s) (.tup []) ⟨aZ P d m re r K sl⟩:=jM
@[simp] theorem doW_rg {x:X}:doW P d m (.rg x) re r K sl s=@dr (rgI (x.ev sl) s) ⟨aZ P d m re r K sl⟩:=fv
@[simp] theorem doW_cl {sz:Nat} {zs:List AV} {x:X}:doW P d m (.cl sz zs x) re r K sl s=@jL (clI sz zs (x.ev sl) s) (.tup []) ⟨aZ P d m re r K sl⟩:=jM
@[simp] theorem doW_nt {x:X}:doW P d m (.nt x) re r K sl s=@cA (ntI (x.ev sl) s) s ⟨aZ P d m re r K sl⟩:=cf
@[simp] theorem doW_ex {x:X} {i:Nat}:doW P d m (.ex x i) re r K sl s=@cA (exI (x.ev sl) i) s ⟨aZ P d m re r K sl⟩:=cf
@[simp] theorem Af {k:Nat} {x:X}:doW P d m (.len k x) re r K sl s=@cA (ee k (x.ev sl) s) s ⟨aZ P d m re r K sl⟩:=cf
@[simp] theorem doW_ap {sz bytes:Nat} {a x:X}:doW P d m (.ap sz bytes a x) re r K sl s=@dr (apI sz bytes m (a.ev sl) (x.ev sl) s) ⟨aZ P d m re r K sl⟩:=fv
@[simp] theorem doW_cp {sz:Nat} {a x:X}:doW P d m (.cp sz a x) re r K sl s=@dr (cpI sz (a.ev sl) (x.ev sl) s) ⟨aZ P d m re r K sl⟩:=fv
@[simp] theorem doW_mx {l:List X}:doW P d m (.mx l) re r K sl s=@cA (gE (fun a b=>if a<b then b else a) (l.map (·.ev sl))) s ⟨aZ P d m re r K sl⟩:=cf
@[simp] theorem doW_mn {l:List X}:doW P d m (.mn l) re r K sl s=@cA (gE (fun a b=>if b<a then b else a) (l.map (·.ev sl))) s ⟨aZ P d m re r K sl⟩:=cf
@[simp] theorem doW_mi {t:TypeId} {x:X}:doW P d m (.mi t x) re r K sl s=((x.ev sl).val=true∧aZ P d m re r K sl (.ifc t (x.ev sl)) s):=by
 simp only [doW,opW,aJ]
 by_cases h:(x.ev sl).val=true <;> simp [h]
end
@[simp] theorem wx {sl:Slots} {xs:List X}:cH .plain sl xs=xs.map fun x=>norm (x.ev sl):=Eq.trans rfl rfl
@[simp] theorem xq {sl:Slots} {xs:List X}:cH .mut sl xs=xs.map fun x=>norm (x.ev sl):=Eq.trans rfl rfl
@[simp] theorem yB {sl:Slots} {xs:List X}:cH .fz sl xs=xs.map fun x=>norm (x.ev sl):=Eq.trans rfl rfl
@[simp] theorem wR {sl:Slots} {xs:List X}:cH .fork sl xs=xs.map fun x=>norm (x.ev sl):=Eq.trans rfl rfl
@[simp] theorem wQ {sl:Slots} {xs:List X}:cH .asis sl xs=xs.map (·.ev sl):=Eq.trans rfl rfl
@[simp] theorem AJ {g e o:Nat}:ncI (.ptr g e o)=some (.ptr g e o):=Eq.trans rfl rfl
@[simp] theorem ncI_zp {cs:List AV} {o:Nat}:ncI (.zp cs o)=some (.zp cs o):=Eq.trans rfl rfl
@[simp] theorem ncI_fn {f:Nat} {a b:List AV}:ncI (.fn (.func f) a b)=some (.fn (.func f) a b):=Eq.trans rfl rfl
@[simp] theorem zI {v:Value}:norm (.sc v)=.sc v:=Eq.trans rfl rfl
@[simp] theorem yZ {g e o:Nat}:norm (.ptr g e o)=.ptr g e o:=Eq.trans rfl rfl
@[simp] theorem zK {cs:List AV} {o:Nat}:norm (.zp cs o)=.zp cs o:=Eq.trans rfl rfl
@[simp] theorem y7 {g z o n:Nat}:norm (.row g z o n)=.row g z o n:=Eq.trans rfl rfl
@[simp] theorem yX {g:Nat}:norm (.map g)=.map g:=Eq.trans rfl rfl
@[simp] theorem zG {f:Fn} {a b:List AV}:norm (.fn f a b)=.fn f a b:=Eq.trans rfl rfl
@[simp] theorem yT {cs:List AV}:norm (.agg cs)=.agg (aQ cs):=Eq.trans rfl rfl
@[simp] theorem zJ {es:List (List AV)} {b:Bool}:norm (.sl es b)=.sl (aW es) false:=Eq.trans rfl rfl
@[simp] theorem ye:aQ []=[]:=Eq.trans rfl rfl
@[simp] theorem xh {v:AV} {vs:List AV}:aQ (v::vs)=norm v::aQ vs:=Eq.trans rfl rfl
@[simp] theorem yc:aW []=[]:=Eq.trans rfl rfl
@[simp] theorem wZ {v:List AV} {vs:List (List AV)}:aW (v::vs)=aQ v::aW vs:=Eq.trans rfl rfl
@[simp] theorem Ac {v:AV} {sz:Nat} {s:St}:jN v sz s=if 0<sz∧aB sz v.cells=true then some (.ptr s.c 0 0,newRow sz [v.cells] s) else none:=Eq.trans rfl rfl
theorem sM {k:IntKind} {a b:Int}:ec .eql k a b=some (.bool (decide (a=b))):=Eq.trans rfl rfl
theorem sS {k:IntKind} {a b:Int}:ec .neq k a b=some (.bool (!decide (a=b))):=Eq.trans rfl rfl
theorem sQ {k:IntKind} {a b:Int}:ec .lss k a b=some (.bool (decide (a<b))):=Eq.trans rfl rfl
theorem sP {k:IntKind} {a b:Int}:ec .leq k a b=some (.bool (decide (a≤b))):=Eq.trans rfl rfl
theorem sO {k:IntKind} {a b:Int}:ec .gtr k a b=some (.bool (decide (b<a))):=Eq.trans rfl rfl
theorem sN {k:IntKind} {a b:Int}:ec .geq k a b=some (.bool (decide (b≤a))):=Eq.trans rfl rfl
theorem sL {k:IntKind} {a b:Int}:ec .add k a b=some (.int k (k.wrap (a+b))):=Eq.trans rfl rfl
theorem sV {k:IntKind} {a b:Int}:ec .sub k a b=some (.int k (k.wrap (a-b))):=Eq.trans rfl rfl
theorem sR {k:IntKind} {a b:Int}:ec .mul k a b=some (.int k (k.wrap (a*b))):=Eq.trans rfl rfl
theorem sT {k:IntKind} {a b:Int}:ec .quo k a b=if b=0 then none else some (.int k (k.wrap (a.tdiv b))):=Eq.trans rfl rfl
theorem sU {k:IntKind} {a b:Int}:ec .rem k a b=if b=0 then none else some (.int k (a.tmod b)):=Eq.trans rfl rfl
attribute [simp] sM sS sQ sP sO sN sL sV sR sT sU
@[simp] theorem yE {op:BinOp} {k:IntKind} {a b:Int} (h:op≠.shl) (h':op≠.shr):eL op (.int k a) (.int k b)=ec op k a b:=by
 cases op <;> first | exact absurd rfl h | exact absurd rfl h' | simp [eL]
@[simp] theorem yF {op:BinOp} {a b:ByteArray}:eL op (.string a) (.string b)=eT op a b:=Eq.trans rfl rfl
@[simp] theorem AP {k:IntKind} {n:Int}:unI .neg (.sc (.int k n))=some (.sc (.int k (k.wrap (0-n)))):=Eq.trans rfl rfl
@[simp] theorem AQ {b:Bool}:unI .not (.sc (.bool b))=some (.bool !b):=Eq.trans rfl rfl
attribute [simp] aB newRow AV.cells AV.cell iH
@[simp] theorem wi {n g e o:Nat} {v:AV} {s:St}:stI n (.ptr g e o) v s=(match s.h g with
  | some (.row sz es .live none)=>match es[e]? with
   | some cs=>if v.cells.length=n∧v.cells.all AV.cell=true∧o+n≤cs.length then
     some { s with h:=upd s.h g (some (.row sz (es.set e (di cs o v.cells)) .live none)) } else none
   | none=>none
  | _=>none):=Eq.trans rfl rfl
attribute [simp] St.elem di
theorem ae {x:Int} (h:-9223372036854775808≤x) (h':x<9223372036854775808):IntKind.i64.wrap x=x:=by
 simp [IntKind.wrap,IntKind.bits,IntKind.signed]; omega
theorem yx (a b:ByteArray):eT .eql a b=some (.bool (decide (a=b))):=by
 simp only [eT]
 rw [←beq_toListBytes,fB]
theorem yy (a b:ByteArray):eT .neq a b=some (.bool !(decide (a=b))):=by
 simp only [eT]
 rw [←beq_toListBytes,fB]
attribute [simp] yx yy
end Go.AM
