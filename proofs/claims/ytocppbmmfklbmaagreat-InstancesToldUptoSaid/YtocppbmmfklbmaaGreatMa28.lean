/- Part of the claim: see its last text. -/
import Derived.Test.YtocppbmmfklbmaaGreatMa27
set_option linter.all false
namespace Go.AM
@[simp] theorem fz1_sc {v:Value} {s:St}:fz1 (.sc v) s=some (.sc v,s):=Eq.trans rfl rfl
@[simp] theorem yh {s:St}:fz1 .undef s=some (.undef,s):=Eq.trans rfl rfl
@[simp] theorem fz1_sl {es:List (List AV)} {f:Bool} {s:St}:fz1 (.sl es f) s=some (.sl (aX es) false,s):=Eq.trans rfl rfl
@[simp] theorem zK {g e o:Nat} {s:St}:fz1 (.ptr g e o) s=some (.ptr g e o,s):=Eq.trans rfl rfl
@[simp] theorem fz1_zp {cs:List AV} {o:Nat} {s:St}:fz1 (.zp cs o) s=some (.zp cs o,s):=Eq.trans rfl rfl
@[simp] theorem zJ {g:Nat} {s:St}:fz1 (.map g) s=some (.map g,s):=Eq.trans rfl rfl
@[simp] theorem fz1_fn {f:Fn} {a b:List AV} {s:St}:fz1 (.fn f a b) s=some (.fn f a b,s):=Eq.trans rfl rfl
@[simp] theorem zI {t:TypeId} {v:AV} {s:St}:fz1 (.ifc t v) s=some (.ifc t v,s):=Eq.trans rfl rfl
@[simp] theorem dz {g z off len:Nat} {s:St}:fz1 (.row g z off len) s=(match s.h g with
  | some (.row sz es st par)=>if off+len≤es.length∧par=none∧(st=.live∨st=.frz) then
    some (.sl (aX ((es.drop off).take len)) false,{ s with h:=upd s.h g (some (.row sz es .frz none)) }) else none
  | _=>none):=Eq.trans rfl rfl
@[simp] theorem zQ {s:St}:fzL [] s=some ([],s):=Eq.trans rfl rfl
@[simp] theorem yW {v:AV} {vs:List AV} {s:St}:fzL (v::vs) s=(match fz1 v s with
  | some (v',s')=>match fzL vs s' with
   | some (vs',s'')=>some (v'::vs',s'')
   | none=>none
  | none=>none):=Eq.trans rfl rfl
@[simp] theorem zL {cs:List AV} {s:St}:fzI (.agg cs) s=(match fzL cs s with | some (cs',s')=>some (.agg cs',s') | none=>none):=Eq.trans rfl rfl
@[simp] theorem fzI_sc {v:Value} {s:St}:fzI (.sc v) s=fz1 (.sc v) s:=Eq.trans rfl rfl
@[simp] theorem yi {s:St}:fzI .undef s=fz1 .undef s:=Eq.trans rfl rfl
@[simp] theorem fzI_sl {es:List (List AV)} {f:Bool} {s:St}:fzI (.sl es f) s=fz1 (.sl es f) s:=Eq.trans rfl rfl
@[simp] theorem zO {g e o:Nat} {s:St}:fzI (.ptr g e o) s=fz1 (.ptr g e o) s:=Eq.trans rfl rfl
@[simp] theorem fzI_zp {cs:List AV} {o:Nat} {s:St}:fzI (.zp cs o) s=fz1 (.zp cs o) s:=Eq.trans rfl rfl
@[simp] theorem zN {g:Nat} {s:St}:fzI (.map g) s=fz1 (.map g) s:=Eq.trans rfl rfl
@[simp] theorem fzI_fn {f:Fn} {a b:List AV} {s:St}:fzI (.fn f a b) s=fz1 (.fn f a b) s:=Eq.trans rfl rfl
@[simp] theorem zM {t:TypeId} {v:AV} {s:St}:fzI (.ifc t v) s=fz1 (.ifc t v) s:=Eq.trans rfl rfl
@[simp] theorem zP {g z off len:Nat} {s:St}:fzI (.row g z off len) s=fz1 (.row g z off len) s:=Eq.trans rfl rfl
@[simp] theorem zW {vs:List AV} {s:St}:fzR (.tup vs) s=(match fzR.go vs s with | some (vs',s')=>some (.tup vs',s') | none=>none):=Eq.trans rfl rfl
@[simp] theorem yk {s:St}:fzR.go [] s=some ([],s):=Eq.trans rfl rfl
@[simp] theorem wZ {v:AV} {vs:List AV} {s:St}:fzR.go (v::vs) s=(match fzI v s with
   | some (v',s')=>match fzR.go vs s' with
    | some (vs',s'')=>some (v'::vs',s'')
    | none=>none
   | none=>none):=Eq.trans rfl rfl
@[simp] theorem zR {cs:List AV} {s:St}:fzR (.agg cs) s=fzI (.agg cs) s:=Eq.trans rfl rfl
@[simp] theorem fzR_sc {v:Value} {s:St}:fzR (.sc v) s=fz1 (.sc v) s:=Eq.trans rfl rfl
@[simp] theorem yj {s:St}:fzR .undef s=fz1 .undef s:=Eq.trans rfl rfl
@[simp] theorem fzR_sl {es:List (List AV)} {f:Bool} {s:St}:fzR (.sl es f) s=fz1 (.sl es f) s:=Eq.trans rfl rfl
@[simp] theorem zU {g e o:Nat} {s:St}:fzR (.ptr g e o) s=fz1 (.ptr g e o) s:=Eq.trans rfl rfl
@[simp] theorem fzR_zp {cs:List AV} {o:Nat} {s:St}:fzR (.zp cs o) s=fz1 (.zp cs o) s:=Eq.trans rfl rfl
@[simp] theorem zT {g:Nat} {s:St}:fzR (.map g) s=fz1 (.map g) s:=Eq.trans rfl rfl
@[simp] theorem fzR_fn {f:Fn} {a b:List AV} {s:St}:fzR (.fn f a b) s=fz1 (.fn f a b) s:=Eq.trans rfl rfl
@[simp] theorem zS {t:TypeId} {v:AV} {s:St}:fzR (.ifc t v) s=fz1 (.ifc t v) s:=Eq.trans rfl rfl
@[simp] theorem zV {g z off len:Nat} {s:St}:fzR (.row g z off len) s=fz1 (.row g z off len) s:=Eq.trans rfl rfl
@[simp] theorem wq {s0 s:St} {r:AV}:dq .frz s0 r s=(fzR r s).map fun p=>(p.1,{ h:=retH s0.c s0.h p.2.h,c:=p.2.c }):=Eq.trans rfl rfl
@[simp] theorem vZ {s0 s:St} {r:AV}:dq .keep s0 r s=some (r,s):=Eq.trans rfl rfl
@[simp] theorem vK {s0 s:St} {g sz off len:Nat}:dq .fresh s0 (.row g sz off len) s=(match s.h g with
   | some (.row _ _ .live none)=>some (.row g sz off len,{ h:=upd (retH s0.c s0.h s.h) g (s.h g),c:=s.c })
   | _=>none):=Eq.trans rfl rfl
@[simp] theorem Ac {ag:Option Nat} {g e o:Nat} {s:St}:ldI ag (.ptr g e o) s=(s.elem g e).bind (cJ ag · o):=Eq.trans rfl rfl
@[simp] theorem ldI_zp {ag:Option Nat} {cs:List AV} {o:Nat} {s:St}:ldI ag (.zp cs o) s=cJ ag cs o:=Eq.trans rfl rfl
@[simp] theorem vL {cs:List AV} {o:Nat}:cJ none cs o=cs[o]?:=Eq.trans rfl rfl
@[simp] theorem vM {cs:List AV} {o n:Nat}:cJ (some n) cs o=if o+n≤cs.length then some (.agg ((cs.drop o).take n)) else none:=Eq.trans rfl rfl
@[simp] theorem zE {off g e o:Nat}:faI off (.ptr g e o)=some (.ptr g e (o+off)):=Eq.trans rfl rfl
@[simp] theorem faI_zp {off o:Nat} {cs:List AV}:faI off (.zp cs o)=some (.zp cs (o+off)):=Eq.trans rfl rfl
@[simp] theorem zF {ag:Option Nat} {off:Nat} {cs:List AV}:fdI ag off (.agg cs)=cJ ag cs off:=Eq.trans rfl rfl
@[simp] theorem asI_sc {k:IntKind} {n:Int}:asI (.sc (.int k n))=some n:=Eq.trans rfl rfl
@[simp] theorem iaI_sl {sz:Nat} {es:List (List AV)} {f:Bool} {k:IntKind} {n:Int}:iaI sz (.sl es f) (.sc (.int k n))=if 0≤n then match es[n.toNat]? with
   | some cs=>if cs.length=sz then some (.zp cs 0) else none
   | none=>none
   else none:=Eq.trans rfl rfl
@[simp] theorem Ab {sz g z off len:Nat} {k:IntKind} {n:Int}:iaI sz (.row g z off len) (.sc (.int k n))=if sz=z∧0≤n∧n<len then some (.ptr g (off+n.toNat) 0) else none:=Eq.trans rfl rfl
@[simp] theorem ixI_sc {b:ByteArray} {k:IntKind} {n:Int}:ixI (.sc (.string b)) (.sc (.int k n))=if 0≤n then (b[n.toNat]?).map fun b=>.sc (.int .u8 b.toNat) else none:=Eq.trans rfl rfl
@[simp] theorem y8 {b:ByteArray} {s:St}:er 0 (.sc (.string b)) s=some (.int b.size):=Eq.trans rfl rfl
@[simp] theorem Ad {es:List (List AV)} {f:Bool} {s:St}:er 1 (.sl es f) s=some (.int es.length):=Eq.trans rfl rfl
@[simp] theorem y7 {g z off len:Nat} {s:St}:er 1 (.row g z off len) s=some (.int len):=Eq.trans rfl rfl
@[simp] theorem y0 {g:Nat} {s:St}:er 2 (.map g) s=(match s.h g with
  | some (.map kv _)=>some (.int kv.length)
  | _=>none):=Eq.trans rfl rfl
@[simp] theorem zy {op:BinOp} {a b:Value}:eQ .sc op (.sc a) (.sc b)=(eI op a b).map .sc:=Eq.trans rfl rfl
@[simp] theorem zx {op:BinOp} {a b:Value}:eQ .bl op (.sc a) (.sc b)=(iC op a b).map .sc:=Eq.trans rfl rfl
@[simp] theorem yR {op:BinOp} {ks:List FK} {a b:List AV}:eQ (.eqAgg ks) op (.agg a) (.agg b)=(bT ks a b).bind (iu op):=Eq.trans rfl rfl
@[simp] theorem xX {a b:Bool}:iC .eql (.bool a) (.bool b)=some (.bool (decide (a=b))):=by cases a <;> cases b <;> rfl
@[simp] theorem xY {a b:Bool}:iC .neq (.bool a) (.bool b)=some (.bool (!decide (a=b))):=by cases a <;> cases b <;> rfl
@[simp] theorem zD {vs:List AV} {i:Nat}:exI (.tup vs) i=vs[i]?:=Eq.trans rfl rfl
@[simp] theorem zA {k k':IntKind} {n:Int} {s:St}:cvI (.int k) (.sc (.int k' n)) s=some (.sc (.int k (k.wrap n))):=Eq.trans rfl rfl
@[simp] theorem yS {a:ByteArray} {s:St}:cvI .same (.sc (.string a)) s=some (.sc (.string a)):=Eq.trans rfl rfl
def ncI:AV→Option AV
 | .ptr g e o=>some (.ptr g e o)
 | .zp cs o=>some (.zp cs o)
 | .fn (.func f) a b=>some (.fn (.func f) a b)
 | _=>none
def n8 (P:Program) (b:AC) (Q:Ex→Slots→St→Prop):Ex→Slots→St→Prop:=fun e sl' s'=>match e with | .normal=>acW P b Q sl' s' | e=>Q e sl' s'
def je (id:Nat) (Q:Ex→Slots→St→Prop):Ex→Slots→St→Prop:=fun e sl' s'=>match e with | .exit i=>if i=id then Q .normal sl' s' else Q (.exit i) sl' s' | e=>Q e sl' s'
def ew (N:Slots→St→Prop) (Q:Ex→Slots→St→Prop):Ex→Slots→St→Prop:=fun e sl' s'=>match e with | .normal=>N sl' s' | e=>Q e sl' s'
class Bx (α:Type) where
 v:α
def oX (v:AV) [A:Bx Prop] [B:Bx Prop]:Prop:=match v with
 | .sc (.bool t)=>if t=true then A.v else B.v
 | _=>False
def nX (v:AV) (b:Bool) [A:Bx Prop] [B:Bx Prop]:Prop:=match v with
 | .sc (.bool b')=>if b'=b then A.v else B.v
 | .tup []=>B.v
 | _=>False
def cD (o:Option AV) (s:St) [F:Bx (AV→St→Prop)]:Prop:=match o with
 | some v=>F.v v s
 | none=>False
def di (o:Option (AV×St)) [F:Bx (AV→St→Prop)]:Prop:=match o with
 | some (v,s)=>F.v v s
 | none=>False
def jz (o:Option St) (v:AV) [F:Bx (AV→St→Prop)]:Prop:=match o with
 | some s=>F.v v s
 | none=>False
def rl (P:Program) (f:FuncId) (args:List AV) (s:St) [F:Bx (AV→St→Prop)]:Prop:=ACalls P f args s F.v
def lpW (P:Program) [A:Bx AC] (sl:Slots) (s:St) [Q:Bx (Ex→Slots→St→Prop)]:Prop:=acW P (.loop A.v) Q.v sl s
def ur (op:BinOp) (x:AV) (s:St) [F:Bx (AV→St→Prop)]:Prop:=nq op x s F.v
def xx (x:AV) (s:St) [F:Bx (AV→St→Prop)]:Prop:=nxW x s F.v
def aU (P:Program) (d:Option Nat) (m:Md) (re:List (Nat×Option (Nat×Bool)×I)) (r:List AO) (K:Slots→St→Prop) (sl:Slots) (v:AV) (s:St):Prop:=
 @di (cY m v s) ⟨fun v' s''=>(∀ q∈re,eS q sl s'')∧aM P r K (put sl d v') s''⟩
def rY (P:Program) (x:AV) (args:List AV) (s:St) [F:Bx (AV→St→Prop)]:Prop:=match x with
 | .fn (.func f) a b=>rl P f (a++args++b) s
 | _=>False
def doW (P:Program) (d:Option Nat) (m:Md) (i:I) (re:List (Nat×Option (Nat×Bool)×I)) (r:List AO) (K:Slots→St→Prop) (sl:Slots) (s:St):Prop:=opW P ⟨d,none,m,i,re⟩ sl s (aU P d m re r K sl)
@[congr] theorem yO {P:Program} {a:AC} {Q:Ex→Slots→St→Prop} {sl sl':Slots} {s s':St} (h1:sl=sl') (h2:s=s'):acW P a Q sl s=acW P a Q sl' s':=by rw [h1,h2]
@[congr] theorem yF {P:Program} {b:AC} {Q:Ex→Slots→St→Prop} {e:Ex} {sl sl':Slots} {s s':St} (h1:sl=sl') (h2:s=s'):n8 P b Q e sl s=n8 P b Q e sl' s':=by rw [h1,h2]
@[congr] theorem wn {id:Nat} {Q:Ex→Slots→St→Prop} {e:Ex} {sl sl':Slots} {s s':St} (h1:sl=sl') (h2:s=s'):je id Q e sl s=je id Q e sl' s':=by rw [h1,h2]
@[congr] theorem xp {N:Slots→St→Prop} {Q:Ex→Slots→St→Prop} {e:Ex} {sl sl':Slots} {s s':St} (h1:sl=sl') (h2:s=s'):ew N Q e sl s=ew N Q e sl' s':=by rw [h1,h2]
@[congr] theorem yA {P:Program} {l:List AO} {K:Slots→St→Prop} {sl sl':Slots} {s s':St} (h1:sl=sl') (h2:s=s'):aM P l K sl s=aM P l K sl' s':=by rw [h1,h2]
@[congr] theorem yf {P:Program} {d:Option Nat} {m:Md} {re:List (Nat×Option (Nat×Bool)×I)} {r:List AO} {K:Slots→St→Prop} {sl sl':Slots} {v v':AV} {s s':St} (h1:sl=sl') (h2:v=v') (h3:s=s'):aU P d m re r K sl v s=aU P d m re r K sl' v' s':=by rw [h1,h2,h3]
@[congr] theorem yU {P:Program} {d:Option Nat} {m:Md} {i:I} {re:List (Nat×Option (Nat×Bool)×I)} {r:List AO} {K:Slots→St→Prop} {sl sl':Slots} {s s':St} (h1:sl=sl') (h2:s=s'):doW P d m i re r K sl s=doW P d m i re r K sl' s':=by rw [h1,h2]
@[congr] theorem xM {P:Program} {a:AO} {pre:List (Bool×AO)} {post:List AO} {K:Slots→St→Prop} {sl sl':Slots} {s s':St} (h1:sl=sl') (h2:s=s'):ci P a post K pre sl s=ci P a post K pre sl' s':=by rw [h1,h2]
section
variable {P:Program} {Q:Ex→Slots→St→Prop} {sl:Slots} {s:St} {d:Option Nat} {m:Md} {re:List (Nat×Option (Nat×Bool)×I)} {r:List AO} {K:Slots→St→Prop}
@[simp] theorem yQ:acW P .skip Q sl s=Q .normal sl s:=Eq.trans rfl rfl
@[simp] theorem zu {l:List AO}:acW P (.ops l) Q sl s=aM P l (Q .normal) sl s:=Eq.trans rfl rfl
@[simp] theorem yP {a:AO} {pre:List (Bool×AO)} {post:List AO}:acW P (.roam a pre post) Q sl s=ci P a post (Q .normal) pre sl s:=Eq.trans rfl rfl
@[simp] theorem zw {a b:AC}:acW P (.seq a b) Q sl s=acW P a (n8 P b Q) sl s:=Eq.trans rfl rfl
@[simp] theorem yM {c:X} {a b:AC}:acW P (.cond c a b) Q sl s=@oX (c.ev sl) ⟨acW P a Q sl s⟩ ⟨acW P b Q sl s⟩:=Eq.trans rfl rfl
@[simp] theorem zt {a:AC}:acW P (.loop a) Q sl s=@lpW P ⟨a⟩ sl s ⟨Q⟩:=Eq.trans rfl rfl
@[simp] theorem bx_v {α:Type} {x:α}:(Bx.mk x).v=x:=Eq.trans rfl rfl
@[simp] theorem xV {id:Nat} {a:AC}:acW P (.block id a) Q sl s=acW P a (je id Q) sl s:=Eq.trans rfl rfl
@[simp] theorem yN {id:Nat}:acW P (.exit id) Q sl s=Q (.exit id) sl s:=Eq.trans rfl rfl
@[simp] theorem zv:acW P .ret Q sl s=Q .ret sl s:=Eq.trans rfl rfl
@[simp] theorem wD {b:AC}:n8 P b Q .normal sl s=acW P b Q sl s:=Eq.trans rfl rfl
@[simp] theorem yE {b:AC} {i:Nat}:n8 P b Q (.exit i) sl s=Q (.exit i) sl s:=Eq.trans rfl rfl
@[simp] theorem zm {b:AC}:n8 P b Q .ret sl s=Q .ret sl s:=Eq.trans rfl rfl
@[simp] theorem vJ {id:Nat}:je id Q .normal sl s=Q .normal sl s:=Eq.trans rfl rfl
@[simp] theorem wm {id i:Nat}:je id Q (.exit i) sl s=if i=id then Q .normal sl s else Q (.exit i) sl s:=Eq.trans rfl rfl
@[simp] theorem wO {id:Nat}:je id Q .ret sl s=Q .ret sl s:=Eq.trans rfl rfl
@[simp] theorem wh {N:Slots→St→Prop}:ew N Q .normal sl s=N sl s:=Eq.trans rfl rfl
@[simp] theorem xl {N:Slots→St→Prop} {i:Nat}:ew N Q (.exit i) sl s=Q (.exit i) sl s:=Eq.trans rfl rfl
@[simp] theorem yo {N:Slots→St→Prop}:ew N Q .ret sl s=Q .ret sl s:=Eq.trans rfl rfl
@[simp] theorem wS {A B:Bx Prop}:@oX (.sc (.bool true)) A B=A.v:=Eq.trans rfl rfl
@[simp] theorem wo {A B:Bx Prop}:@oX (.sc (.bool false)) A B=B.v:=Eq.trans rfl rfl
@[simp] theorem yl {b:Bool} {A B:Bx Prop}:@nX (.tup []) b A B=B.v:=Eq.trans rfl rfl
@[simp] theorem Aa {A B:Bx Prop}:@nX (.sc (.bool true)) true A B=A.v:=Eq.trans rfl rfl
@[simp] theorem zX {A B:Bx Prop}:@nX (.sc (.bool false)) false A B=A.v:=Eq.trans rfl rfl
@[simp] theorem zZ {A B:Bx Prop}:@nX (.sc (.bool true)) false A B=B.v:=Eq.trans rfl rfl
@[simp] theorem zY {A B:Bx Prop}:@nX (.sc (.bool false)) true A B=B.v:=Eq.trans rfl rfl
@[simp] theorem wN {v:AV} {F:Bx (AV→St→Prop)}:cD (some v) s=F.v v s:=Eq.trans rfl rfl
@[simp] theorem wM {F:Bx (AV→St→Prop)}:cD none s=False:=Eq.trans rfl rfl
@[simp] theorem wJ {v:AV} {F:Bx (AV→St→Prop)}:di (some (v,s))=F.v v s:=Eq.trans rfl rfl
@[simp] theorem wI {F:Bx (AV→St→Prop)}:di none=False:=Eq.trans rfl rfl
@[simp] theorem wL {v:AV} {F:Bx (AV→St→Prop)}:jz (some s) v=F.v v s:=Eq.trans rfl rfl
@[simp] theorem wK {v:AV} {F:Bx (AV→St→Prop)}:jz none v=False:=Eq.trans rfl rfl
@[simp] theorem ya {f:Nat} {a b args:List AV} {F:Bx (AV→St→Prop)}:rY P (.fn (.func f) a b) args s=rl P f (a++args++b) s:=Eq.trans rfl rfl
@[simp] theorem zg:aM P [] K sl s=K sl s:=Eq.trans rfl rfl
@[simp] theorem yB {i:I}:aM P (⟨d,none,m,i,re⟩::r) K sl s=doW P d m i re r K sl s:=by
 have e:aU P d m re r K sl=fun v s'=>match cY m v s' with
   | some (v',s'')=>(∀ q∈re,eS q sl s'')∧aM P r K (put sl d v') s''
   | none=>False:=by funext v s'; simp only [aU]; cases cY m v s' <;> rfl
 unfold doW; rw [e]; rfl
@[simp] theorem yC {i:I} {t:Nat} {b:Bool}:aM P (⟨d,some (t,b),m,i,re⟩::r) K sl s=@nX (sl t) b ⟨doW P d m i re r K sl s⟩ ⟨aM P r K (put sl d (.tup [])) s⟩:=by
 have h:doW P d m i re r K sl s=opW P ⟨d,some (t,b),m,i,re⟩ sl s fun v s'=>match cY m v s' with
   | some (v',s'')=>(∀ q∈re,eS q sl s'')∧aM P r K (put sl d v') s''
   | none=>False:=by
  unfold doW
  have e:aU P d m re r K sl=fun v s'=>match cY m v s' with
   | some (v',s'')=>(∀ q∈re,eS q sl s'')∧aM P r K (put sl d v') s''
   | none=>False:=by funext v s'; simp only [aU]; cases cY m v s' <;> rfl
  rw [e]; rfl
 rw [h]
 simp only [aM,gdI]
 cases sl t with
 | sc v=>cases v <;> first | rfl | (rename_i b'; cases b <;> cases b' <;> rfl)
 | tup vs=>cases vs <;> rfl
 | _=>rfl
@[simp] theorem Ah {n:Nat}:bZ sl s (.t n)=some (sl n):=Eq.trans rfl rfl
@[simp] theorem Ag {n:Nat} {ag:Option Nat}:bZ sl s (.l n ag)=ldI ag (sl n) s:=Eq.trans rfl rfl
@[simp] theorem zk {x:RX}:eB [x] sl s=bZ sl s x:=by
 simp only [eB,List.mapM_cons,List.mapM_nil]; cases bZ sl s x <;> rfl
@[simp] theorem zj:eB [] sl s=some (.tup []):=Eq.trans rfl rfl
@[simp] theorem zl {x y:RX}:eB [x,y] sl s=(bZ sl s x).bind fun a=>(bZ sl s y).map fun b=>.tup [a,b]:=by
 simp only [eB,List.mapM_cons,List.mapM_nil]; cases bZ sl s x <;> cases bZ sl s y <;> rfl
@[simp] theorem xK {x y z:RX}:eB [x,y,z] sl s=(bZ sl s x).bind fun a=>(bZ sl s y).bind fun b=>(bZ sl s z).map fun c=>.tup [a,b,c]:=by
 simp only [eB,List.mapM_cons,List.mapM_nil]; cases bZ sl s x <;> cases bZ sl s y <;> cases bZ sl s z <;> rfl
@[simp] theorem yD {x y z u:RX}:eB [x,y,z,u] sl s=(bZ sl s x).bind fun a=>(bZ sl s y).bind fun b=>(bZ sl s z).bind fun c=>(bZ sl s u).map fun d=>.tup [a,b,c,d]:=by
 simp only [eB,List.mapM_cons,List.mapM_nil]; cases bZ sl s x <;> cases bZ sl s y <;> cases bZ sl s z <;> cases bZ sl s u <;> rfl
@[simp] theorem yL {rm:RM} {rs:List RX} {s0:St} {R:AV→St→Prop}:nH rm rs s0 R .ret sl s=@cD (eB rs sl s) s ⟨fun r s'=>@di (dq rm s0 r s') ⟨R⟩⟩:=by
 simp only [nH,cD,di]; cases eB rs sl s with
 | none=>rfl
 | some r=>simp only; cases dq rm s0 r s <;> rfl
@[simp] theorem wj {rm:RM} {rs:List RX} {s0:St} {R:AV→St→Prop}:nH rm rs s0 R .normal sl s=@cD (eB rs sl s) s ⟨fun r s'=>@di (dq rm s0 r s') ⟨R⟩⟩:=by
 simp only [nH,cD,di]; cases eB rs sl s with
 | none=>rfl
 | some r=>simp only; cases dq rm s0 r s <;> rfl
@[simp] theorem wY {v:AV}:aU P d .plain [] r K sl v s=aM P r K (put sl d v) s:=by simp [aU,cY]
@[simp] theorem yV {v:AV}:aU P d .mut [] r K sl v s=aM P r K (put sl d v) s:=by simp [aU,cY]
@[simp] theorem yd {v:AV}:aU P d .asis [] r K sl v s=aM P r K (put sl d v) s:=by simp [aU,cY]
@[simp] theorem ye {v:AV}:aU P d .fork [] r K sl v s=aM P r K (put sl d v) s:=by simp [aU,cY]
@[simp] theorem zG {v:AV}:aU P d .fz [] r K sl v s=@di (fzI v s) ⟨fun v' s'=>aM P r K (put sl d v') s'⟩:=by
 have e:(fun v' s''=>(∀ q∈([]:List (Nat×Option (Nat×Bool)×I)),eS q sl s'')∧aM P r K (put sl d v') s'')=fun v' s''=>aM P r K (put sl d v') s'':=by funext v' s''; simp
 show @di (fzI v s) ⟨fun v' s''=>(∀ q∈([]:List (Nat×Option (Nat×Bool)×I)),eS q sl s'')∧aM P r K (put sl d v') s''⟩=_
 rw [e]
@[simp] theorem wt {sz:Nat}:aU P d (.ph sz) [] r K sl (.sl [] true) s=(0<sz∧aM P r K (put sl d (.row s.c sz 0 0)) (newRow sz [] s)):=by
 by_cases h:0<sz <;> simp [aU,cY,h]
@[simp] theorem wu {sz g z off len:Nat}:aU P d (.ph sz) [] r K sl (.row g z off len) s=aM P r K (put sl d (.row g z off len)) s:=by simp [aU,cY]
@[simp] theorem zH {v:AV} {q:Nat×Option (Nat×Bool)×I}:aU P d .plain (q::re) r K sl v s=(eS q sl s∧aU P d .plain re r K sl v s):=by
 simp [aU,cY,and_assoc]
@[simp] theorem yT {f:Nat} {args:List X}:doW P d m (.call f args) re r K sl s=@rl P f (dS m sl args) s ⟨aU P d m re r K sl⟩:=Eq.trans rfl rfl
@[simp] theorem yb {x:X} {args:List X}:doW P d m (.callv x args) re r K sl s=@rY P (x.ev sl) (dS m sl args) s ⟨aU P d m re r K sl⟩:=Eq.trans rfl rfl
@[simp] theorem yc {op:BinOp} {x y:X}:doW P d m (.bin .slNil op x y) re r K sl s=@ur op (x.ev sl) s ⟨aU P d m re r K sl⟩:=Eq.trans rfl rfl
@[simp] theorem doW_nx {x:X}:doW P d m (.nx x) re r K sl s=@xx (x.ev sl) s ⟨aU P d m re r K sl⟩:=Eq.trans rfl rfl
theorem ck {o:Option AV} {F:AV→St→Prop}:(match o.map (·,s) with | some (v,s')=>F v s' | none=>False)=@cD o s ⟨F⟩:=by cases o <;> rfl
theorem fe {o:Option (AV×St)} {F:AV→St→Prop}:(match o with | some (v,s')=>F v s' | none=>False)=@di o ⟨F⟩:=by cases o <;> rfl
theorem jA {o:Option St} {v:AV} {F:AV→St→Prop}:(match o.map (v,·) with | some (v,s')=>F v s' | none=>False)=@jz o v ⟨F⟩:=by cases o <;> rfl
@[simp] theorem doW_mv {x:X}:doW P d m (.mv x) re r K sl s=aU P d m re r K sl (x.ev sl) s:=Eq.trans rfl rfl
@[simp] theorem doW_pk {c a b:X}:doW P d m (.pk c a b) re r K sl s=@oX (c.ev sl) ⟨aU P d m re r K sl (a.ev sl) s⟩ ⟨aU P d m re r K sl (b.ev sl) s⟩:=by
 simp only [doW,opW,aK]
 cases c.ev sl with
 | sc v=>cases v <;> first | rfl | (rename_i b'; cases b' <;> rfl)
 | _=>rfl
@[simp] theorem doW_bx {x:X} {sz:Nat}:doW P d m (.bx x sz) re r K sl s=@di (jB (x.ev sl) sz s) ⟨aU P d m re r K sl⟩:=fe
@[simp] theorem doW_al {zs:List AV}:doW P d m (.al zs) re r K sl s=@di (jB (.agg zs) zs.length s) ⟨aU P d m re r K sl⟩:=fe
@[simp] theorem doW_bd {zs:List AV} {ps:List (Nat×Nat×X)}:doW P d m (.bd zs ps) re r K sl s=@cD ((aJ zs (ps.map fun (o,n,x)=>(o,n,x.ev sl))).map .agg) s ⟨aU P d m re r K sl⟩:=ck
@[simp] theorem doW_bs {sz n:Nat} {zs:List AV} {ps:List (Nat×X)}:doW P d m (.bs sz zs n ps) re r K sl s=@di (bsI sz zs n (ps.map fun (i,x)=>(i,x.ev sl)) m s) ⟨aU P d m re r K sl⟩:=fe
@[simp] theorem doW_ld {ag:Option Nat} {x:X}:doW P d m (.ld ag x) re r K sl s=@cD (ldI ag (x.ev sl) s) s ⟨aU P d m re r K sl⟩:=ck
@[simp] theorem doW_st {n:Nat} {a x:X}:doW P d m (.st n a x) re r K sl s=@jz (stI n (a.ev sl) (x.ev sl) s) .undef ⟨aU P d m re r K sl⟩:=jA
@[simp] theorem doW_nc {x:X}:doW P d m (.nc x) re r K sl s=@cD (ncI (x.ev sl)) s ⟨aU P d m re r K sl⟩:=by
 simp only [doW,opW,aK,ncI]
 cases x.ev sl with
 | fn f a b=>cases f <;> rfl
 | _=>rfl
@[simp] theorem zB {k:BK} {op:BinOp} {x y:X} (h:k≠.slNil):doW P d m (.bin k op x y) re r K sl s=@cD (eQ k op (x.ev sl) (y.ev sl)) s ⟨aU P d m re r K sl⟩:=by
 cases k <;> first | exact ck | exact absurd rfl h
@[simp] theorem doW_un {op:UnOp} {x:X}:doW P d m (.un op x) re r K sl s=@cD (unI op (x.ev sl)) s ⟨aU P d m re r K sl⟩:=ck
@[simp] theorem doW_cv {k:CK} {x:X}:doW P d m (.cv k x) re r K sl s=@cD (cvI k (x.ev sl) s) s ⟨aU P d m re r K sl⟩:=ck
@[simp] theorem doW_mf {f:Nat} {a b:List X}:doW P d m (.mf f a b) re r K sl s=aU P d m re r K sl (.fn (.func f) (a.map (·.ev sl)) (b.map (·.ev sl))) s:=Eq.trans rfl rfl
@[simp] theorem doW_mm:doW P d m .mm re r K sl s=aU P d m re r K sl (.map s.c) { h:=upd s.h s.c (some (.map [] s.c)),c:=s.c+1 }:=Eq.trans rfl rfl
@[simp] theorem doW_ms {sz bytes:Nat} {zs:List AV} {l c:X}:doW P d m (.ms sz zs bytes l c) re r K sl s=@di (msI sz zs bytes (l.ev sl) (c.ev sl) s) ⟨aU P d m re r K sl⟩:=fe
@[simp] theorem doW_ss {x:X} {lo hi:Option X}:doW P d m (.ss x lo hi) re r K sl s=@cD (ssI (x.ev sl) (lo.map (·.ev sl)) (hi.map (·.ev sl))) s ⟨aU P d m re r K sl⟩:=ck
@[simp] theorem doW_sr {sz:Nat} {x:X} {lo hi mx:Option X}:doW P d m (.sr sz x lo hi mx) re r K sl s=@cD (srI sz (x.ev sl) (lo.map (·.ev sl)) (hi.map (·.ev sl)) (mx.map (·.ev sl))) s ⟨aU P d m re r K sl⟩:=ck
@[simp] theorem doW_fa {off:Nat} {x:X}:doW P d m (.fa off x) re r K sl s=@cD (faI off (x.ev sl)) s ⟨aU P d m re r K sl⟩:=ck
@[simp] theorem doW_fd {ag:Option Nat} {off:Nat} {x:X}:doW P d m (.fd ag off x) re r K sl s=@cD (fdI ag off (x.ev sl)) s ⟨aU P d m re r K sl⟩:=ck
@[simp] theorem doW_ia {sz:Nat} {x i:X}:doW P d m (.ia sz x i) re r K sl s=@cD (iaI sz (x.ev sl) (i.ev sl)) s ⟨aU P d m re r K sl⟩:=ck
@[simp] theorem doW_ix {x i:X}:doW P d m (.ix x i) re r K sl s=@cD (ixI (x.ev sl) (i.ev sl)) s ⟨aU P d m re r K sl⟩:=ck
@[simp] theorem doW_lk {kk:KK} {z:AV} {ok:Bool} {a k:X}:doW P d m (.lk kk z ok a k) re r K sl s=@cD (lkI kk z ok (a.ev sl) (k.ev sl) s) s ⟨aU P d m re r K sl⟩:=ck
@[simp] theorem doW_mu {kk:KK} {a k v:X}:doW P d m (.mu kk a k v) re r K sl s=@jz (muI kk (a.ev sl) (k.ev sl) (v.ev sl) s) .undef ⟨aU P d m re r K sl⟩:=jA
@[simp] theorem doW_dl {kk:KK} {a k:X}:doW P d m (.dl kk a k) re r K sl s=@jz (dlI kk (a.ev sl) (k.ev sl) s) (.tup []) ⟨aU P d m re r K sl⟩:=jA
@[simp] theorem doW_rg {x:X}:doW P d m (.rg x) re r K sl s=@di (rgI (x.ev sl) s) ⟨aU P d m re r K sl⟩:=fe
@[simp] theorem doW_cl {sz:Nat} {zs:List AV} {x:X}:doW P d m (.cl sz zs x) re r K sl s=@jz (clI sz zs (x.ev sl) s) (.tup []) ⟨aU P d m re r K sl⟩:=jA
@[simp] theorem doW_nt {x:X}:doW P d m (.nt x) re r K sl s=@cD (ntI (x.ev sl) s) s ⟨aU P d m re r K sl⟩:=ck
@[simp] theorem doW_ex {x:X} {i:Nat}:doW P d m (.ex x i) re r K sl s=@cD (exI (x.ev sl) i) s ⟨aU P d m re r K sl⟩:=ck
@[simp] theorem zC {k:Nat} {x:X}:doW P d m (.len k x) re r K sl s=@cD (er k (x.ev sl) s) s ⟨aU P d m re r K sl⟩:=ck
@[simp] theorem doW_ap {sz bytes:Nat} {a x:X}:doW P d m (.ap sz bytes a x) re r K sl s=@di (apI sz bytes m (a.ev sl) (x.ev sl) s) ⟨aU P d m re r K sl⟩:=fe
@[simp] theorem doW_cp {sz:Nat} {a x:X}:doW P d m (.cp sz a x) re r K sl s=@di (cpI sz (a.ev sl) (x.ev sl) s) ⟨aU P d m re r K sl⟩:=fe
@[simp] theorem doW_mx {l:List X}:doW P d m (.mx l) re r K sl s=@cD (f9 (fun a b=>if a<b then b else a) (l.map (·.ev sl))) s ⟨aU P d m re r K sl⟩:=ck
@[simp] theorem doW_mn {l:List X}:doW P d m (.mn l) re r K sl s=@cD (f9 (fun a b=>if b<a then b else a) (l.map (·.ev sl))) s ⟨aU P d m re r K sl⟩:=ck
@[simp] theorem doW_mi {t:TypeId} {x:X}:doW P d m (.mi t x) re r K sl s=((x.ev sl).val=true∧aU P d m re r K sl (.ifc t (x.ev sl)) s):=by
 simp only [doW,opW,aK]
 by_cases h:(x.ev sl).val=true <;> simp [h]
end
@[simp] theorem vS {sl:Slots} {xs:List X}:dS .plain sl xs=xs.map fun x=>norm (x.ev sl):=Eq.trans rfl rfl
@[simp] theorem wG {sl:Slots} {xs:List X}:dS .mut sl xs=xs.map fun x=>norm (x.ev sl):=Eq.trans rfl rfl
@[simp] theorem xW {sl:Slots} {xs:List X}:dS .fz sl xs=xs.map fun x=>norm (x.ev sl):=Eq.trans rfl rfl
@[simp] theorem wl {sl:Slots} {xs:List X}:dS .fork sl xs=xs.map fun x=>norm (x.ev sl):=Eq.trans rfl rfl
@[simp] theorem wk {sl:Slots} {xs:List X}:dS .asis sl xs=xs.map (·.ev sl):=Eq.trans rfl rfl
@[simp] theorem Ae {g e o:Nat}:ncI (.ptr g e o)=some (.ptr g e o):=Eq.trans rfl rfl
@[simp] theorem ncI_zp {cs:List AV} {o:Nat}:ncI (.zp cs o)=some (.zp cs o):=Eq.trans rfl rfl
@[simp] theorem ncI_fn {f:Nat} {a b:List AV}:ncI (.fn (.func f) a b)=some (.fn (.func f) a b):=Eq.trans rfl rfl
@[simp] theorem zd {v:Value}:norm (.sc v)=.sc v:=Eq.trans rfl rfl
@[simp] theorem yx {g e o:Nat}:norm (.ptr g e o)=.ptr g e o:=Eq.trans rfl rfl
@[simp] theorem zf {cs:List AV} {o:Nat}:norm (.zp cs o)=.zp cs o:=Eq.trans rfl rfl
@[simp] theorem yy {g z o n:Nat}:norm (.row g z o n)=.row g z o n:=Eq.trans rfl rfl
@[simp] theorem yv {g:Nat}:norm (.map g)=.map g:=Eq.trans rfl rfl
@[simp] theorem y9 {f:Fn} {a b:List AV}:norm (.fn f a b)=.fn f a b:=Eq.trans rfl rfl
@[simp] theorem yp {cs:List AV}:norm (.agg cs)=.agg (aQ cs):=Eq.trans rfl rfl
@[simp] theorem ze {es:List (List AV)} {b:Bool}:norm (.sl es b)=.sl (aX es) false:=Eq.trans rfl rfl
@[simp] theorem xD:aQ []=[]:=Eq.trans rfl rfl
@[simp] theorem wC {v:AV} {vs:List AV}:aQ (v::vs)=norm v::aQ vs:=Eq.trans rfl rfl
@[simp] theorem xB:aX []=[]:=Eq.trans rfl rfl
@[simp] theorem ww {v:List AV} {vs:List (List AV)}:aX (v::vs)=aQ v::aX vs:=Eq.trans rfl rfl
@[simp] theorem zz {v:AV} {sz:Nat} {s:St}:jB v sz s=if 0<sz∧aC sz v.cells=true then some (.ptr s.c 0 0,newRow sz [v.cells] s) else none:=Eq.trans rfl rfl
theorem sj {k:IntKind} {a b:Int}:d9 .eql k a b=some (.bool (decide (a=b))):=Eq.trans rfl rfl
theorem sy {k:IntKind} {a b:Int}:d9 .neq k a b=some (.bool (!decide (a=b))):=Eq.trans rfl rfl
theorem su {k:IntKind} {a b:Int}:d9 .lss k a b=some (.bool (decide (a<b))):=Eq.trans rfl rfl
theorem sq {k:IntKind} {a b:Int}:d9 .leq k a b=some (.bool (decide (a≤b))):=Eq.trans rfl rfl
theorem sm {k:IntKind} {a b:Int}:d9 .gtr k a b=some (.bool (decide (b<a))):=Eq.trans rfl rfl
theorem sk {k:IntKind} {a b:Int}:d9 .geq k a b=some (.bool (decide (b≤a))):=Eq.trans rfl rfl
theorem si {k:IntKind} {a b:Int}:d9 .add k a b=some (.int k (k.wrap (a+b))):=Eq.trans rfl rfl
theorem sC {k:IntKind} {a b:Int}:d9 .sub k a b=some (.int k (k.wrap (a-b))):=Eq.trans rfl rfl
theorem sw {k:IntKind} {a b:Int}:d9 .mul k a b=some (.int k (k.wrap (a*b))):=Eq.trans rfl rfl
theorem sA {k:IntKind} {a b:Int}:d9 .quo k a b=if b=0 then none else some (.int k (k.wrap (a.tdiv b))):=Eq.trans rfl rfl
theorem sB {k:IntKind} {a b:Int}:d9 .rem k a b=if b=0 then none else some (.int k (a.tmod b)):=Eq.trans rfl rfl
attribute [simp] sj sy su sq sm sk si sC sw sA sB
@[simp] theorem xZ {op:BinOp} {k:IntKind} {a b:Int} (h:op≠.shl) (h':op≠.shr):eI op (.int k a) (.int k b)=d9 op k a b:=by
 cases op <;> first | exact absurd rfl h | exact absurd rfl h' | simp [eI]
@[simp] theorem x9 {op:BinOp} {a b:ByteArray}:eI op (.string a) (.string b)=eO op a b:=Eq.trans rfl rfl
@[simp] theorem Ai {k:IntKind} {n:Int}:unI .neg (.sc (.int k n))=some (.sc (.int k (k.wrap (0-n)))):=Eq.trans rfl rfl
@[simp] theorem Aj {b:Bool}:unI .not (.sc (.bool b))=some (.bool !b):=Eq.trans rfl rfl
attribute [simp] aC newRow AV.cells AV.cell iu
@[simp] theorem vH {n g e o:Nat} {v:AV} {s:St}:stI n (.ptr g e o) v s=(match s.h g with
  | some (.row sz es .live none)=>match es[e]? with
   | some cs=>if v.cells.length=n∧v.cells.all AV.cell=true∧o+n≤cs.length then
     some { s with h:=upd s.h g (some (.row sz (es.set e (dd cs o v.cells)) .live none)) } else none
   | none=>none
  | _=>none):=Eq.trans rfl rfl
attribute [simp] St.elem dd
theorem ae {x:Int} (h:-9223372036854775808≤x) (h':x<9223372036854775808):IntKind.i64.wrap x=x:=by
 simp [IntKind.wrap,IntKind.bits,IntKind.signed]; omega
theorem xS (a b:ByteArray):eO .eql a b=some (.bool (decide (a=b))):=by
 simp only [eO]
 rw [←beq_toListBytes,fm]
theorem xT (a b:ByteArray):eO .neq a b=some (.bool !(decide (a=b))):=by
 simp only [eO]
 rw [←beq_toListBytes,fm]
attribute [simp] xS xT
end Go.AM
