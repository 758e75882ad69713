/- Part of the claim: see its last text. -/
import Derived.Test.YtjhogglgkjcacaaGreatMa17
set_option linter.all false
namespace Go.AM
@[simp] theorem fz1_sc {v:Value} {s:St}:fz1 (.sc v) s=some (.sc v,s):=q6 rfl rfl
@[simp] theorem CG {s:St}:fz1 .undef s=some (.undef,s):=q6 rfl rfl
@[simp] theorem fz1_sl {es:List (List AV)} {f:Bool} {s:St}:fz1 (.sl es f) s=some (.sl (aP es) false,s):=q6 rfl rfl
@[simp] theorem DX {g e o:Nat} {s:St}:fz1 (.ptr g e o) s=some (.ptr g e o,s):=q6 rfl rfl
@[simp] theorem fz1_zp {cs:List AV} {o:Nat} {s:St}:fz1 (.zp cs o) s=some (.zp cs o,s):=q6 rfl rfl
@[simp] theorem DW {g:Nat} {s:St}:fz1 (.map g) s=some (.map g,s):=q6 rfl rfl
@[simp] theorem fz1_fn {f:Fn} {a b:List AV} {s:St}:fz1 (.fn f a b) s=some (.fn f a b,s):=q6 rfl rfl
@[simp] theorem DV {t:TypeId} {v:AV} {s:St}:fz1 (.ifc t v) s=some (.ifc t v,s):=q6 rfl rfl
@[simp] theorem er {g z off len:Nat} {s:St}:fz1 (.row g z off len) s=(match s.h g with
  | some (.row sz es a b)=>if off+len<=es.length/\b=none/\(a=.live\/a=.frz) then
    some (.sl (aP ((es.drop off).take len)) false,{ s with h:=upd s.h g (some (.row sz es .frz none)) }) else none
  | _=>none):=q6 rfl rfl
@[simp] theorem D6 {s:St}:fzL [] s=some ([],s):=q6 rfl rfl
@[simp] theorem Dh {v:AV} {vs:List AV} {s:St}:fzL (v::vs) s=(match fz1 v s with
  | some (v',s')=>match fzL vs s' with
   | some (vs',a)=>some (v'::vs',a)
   | none=>none
  | none=>none):=q6 rfl rfl
@[simp] theorem DY {cs:List AV} {s:St}:fzI (.agg cs) s=(match fzL cs s with | some (cs',s')=>some (.agg cs',s') | none=>none):=q6 rfl rfl
@[simp] theorem fzI_sc {v:Value} {s:St}:fzI (.sc v) s=fz1 (.sc v) s:=q6 rfl rfl
@[simp] theorem CH {s:St}:fzI .undef s=fz1 .undef s:=q6 rfl rfl
@[simp] theorem fzI_sl {es:List (List AV)} {f:Bool} {s:St}:fzI (.sl es f) s=fz1 (.sl es f) s:=q6 rfl rfl
@[simp] theorem D2 {g e o:Nat} {s:St}:fzI (.ptr g e o) s=fz1 (.ptr g e o) s:=q6 rfl rfl
@[simp] theorem fzI_zp {cs:List AV} {o:Nat} {s:St}:fzI (.zp cs o) s=fz1 (.zp cs o) s:=q6 rfl rfl
@[simp] theorem D0 {g:Nat} {s:St}:fzI (.map g) s=fz1 (.map g) s:=q6 rfl rfl
@[simp] theorem fzI_fn {f:Fn} {a b:List AV} {s:St}:fzI (.fn f a b) s=fz1 (.fn f a b) s:=q6 rfl rfl
@[simp] theorem DZ {t:TypeId} {v:AV} {s:St}:fzI (.ifc t v) s=fz1 (.ifc t v) s:=q6 rfl rfl
@[simp] theorem D4 {g z off len:Nat} {s:St}:fzI (.row g z off len) s=fz1 (.row g z off len) s:=q6 rfl rfl
@[simp] theorem Ec {vs:List AV} {s:St}:fzR (.tup vs) s=(match fzR.go vs s with | some (vs',s')=>some (.tup vs',s') | none=>none):=q6 rfl rfl
@[simp] theorem CJ {s:St}:fzR.go [] s=some ([],s):=q6 rfl rfl
@[simp] theorem BP {v:AV} {vs:List AV} {s:St}:fzR.go (v::vs) s=(match fzI v s with
   | some (v',s')=>match fzR.go vs s' with
    | some (vs',a)=>some (v'::vs',a)
    | none=>none
   | none=>none):=q6 rfl rfl
@[simp] theorem D7 {cs:List AV} {s:St}:fzR (.agg cs) s=fzI (.agg cs) s:=q6 rfl rfl
@[simp] theorem fzR_sc {v:Value} {s:St}:fzR (.sc v) s=fz1 (.sc v) s:=q6 rfl rfl
@[simp] theorem CI {s:St}:fzR .undef s=fz1 .undef s:=q6 rfl rfl
@[simp] theorem fzR_sl {es:List (List AV)} {f:Bool} {s:St}:fzR (.sl es f) s=fz1 (.sl es f) s:=q6 rfl rfl
@[simp] theorem Ea {g e o:Nat} {s:St}:fzR (.ptr g e o) s=fz1 (.ptr g e o) s:=q6 rfl rfl
@[simp] theorem fzR_zp {cs:List AV} {o:Nat} {s:St}:fzR (.zp cs o) s=fz1 (.zp cs o) s:=q6 rfl rfl
@[simp] theorem D9 {g:Nat} {s:St}:fzR (.map g) s=fz1 (.map g) s:=q6 rfl rfl
@[simp] theorem fzR_fn {f:Fn} {a b:List AV} {s:St}:fzR (.fn f a b) s=fz1 (.fn f a b) s:=q6 rfl rfl
@[simp] theorem D8 {t:TypeId} {v:AV} {s:St}:fzR (.ifc t v) s=fz1 (.ifc t v) s:=q6 rfl rfl
@[simp] theorem Eb {g z off len:Nat} {s:St}:fzR (.row g z off len) s=fz1 (.row g z off len) s:=q6 rfl rfl
@[simp] theorem Bh {a s:St} {r:AV}:eb .frz a r s=(fzR r s).map fun p=>(p.1,{ h:=retH a.c a.h p.2.h,c:=p.2.c }):=q6 rfl rfl
@[simp] theorem te {a s:St} {r:AV}:eb .keep a r s=some (r,s):=q6 rfl rfl
@[simp] theorem AD {a s:St} {g sz off len:Nat}:eb .fresh a (.row g sz off len) s=(match s.h g with
   | some (.row _ _ .live none)=>some (.row g sz off len,{ h:=upd (retH a.c a.h s.h) g (s.h g),c:=s.c })
   | _=>none):=q6 rfl rfl
@[simp] theorem Ei {a:Option Nat} {g e o:Nat} {s:St}:ldI a (.ptr g e o) s=(s.elem g e).bind (du a · o):=q6 rfl rfl
@[simp] theorem ldI_zp {a:Option Nat} {cs:List AV} {o:Nat} {s:St}:ldI a (.zp cs o) s=du a cs o:=q6 rfl rfl
@[simp] theorem AE {cs:List AV} {o:Nat}:du none cs o=cs[o]?:=q6 rfl rfl
@[simp] theorem AF {cs:List AV} {o n:Nat}:du (some n) cs o=if o+n<=cs.length then some (.agg ((cs.drop o).take n)) else none:=q6 rfl rfl
@[simp] theorem DQ {off g e o:Nat}:faI off (.ptr g e o)=some (.ptr g e (o+off)):=q6 rfl rfl
@[simp] theorem faI_zp {off o:Nat} {cs:List AV}:faI off (.zp cs o)=some (.zp cs (o+off)):=q6 rfl rfl
@[simp] theorem DR {a:Option Nat} {off:Nat} {cs:List AV}:fdI a off (.agg cs)=du a cs off:=q6 rfl rfl
@[simp] theorem asI_sc {k:IntKind} {n:Int}:asI (.sc (.int k n))=some n:=q6 rfl rfl
@[simp] theorem iaI_sl {sz:Nat} {es:List (List AV)} {f:Bool} {k:IntKind} {n:Int}:iaI sz (.sl es f) (.sc (.int k n))=if 0<=n then match es[n.toNat]? with
   | some cs=>if cs.length=sz then some (.zp cs 0) else none
   | none=>none
   else none:=q6 rfl rfl
@[simp] theorem Eh {sz g z off len:Nat} {k:IntKind} {n:Int}:iaI sz (.row g z off len) (.sc (.int k n))=if sz=z/\0<=n/\n<len then some (.ptr g (off+n.toNat) 0) else none:=q6 rfl rfl
@[simp] theorem ixI_sc {b:ByteArray} {k:IntKind} {n:Int}:ixI (.sc (.string b)) (.sc (.int k n))=if 0<=n then (b[n.toNat]?).map fun b=>.sc (.int .u8 b.toNat) else none:=q6 rfl rfl
@[simp] theorem Dn {b:ByteArray} {s:St}:eL 0 (.sc (.string b)) s=some (.int b.size):=q6 rfl rfl
@[simp] theorem Ej {es:List (List AV)} {f:Bool} {s:St}:eL 1 (.sl es f) s=some (.int es.length):=q6 rfl rfl
@[simp] theorem Dm {g z off len:Nat} {s:St}:eL 1 (.row g z off len) s=some (.int len):=q6 rfl rfl
@[simp] theorem Dl {g:Nat} {s:St}:eL 2 (.map g) s=(match s.h g with
  | some (.map kv _)=>some (.int kv.length)
  | _=>none):=q6 rfl rfl
@[simp] theorem DJ {op:BinOp} {a b:Value}:gq .sc op (.sc a) (.sc b)=(fT op a b).map .sc:=q6 rfl rfl
@[simp] theorem DI {op:BinOp} {a b:Value}:gq .bl op (.sc a) (.sc b)=(kz op a b).map .sc:=q6 rfl rfl
@[simp] theorem Dc {op:BinOp} {ks:List FK} {a b:List AV}:gq (.eqAgg ks) op (.agg a) (.agg b)=(cd ks a b).bind (j7 op):=q6 rfl rfl
@[simp] theorem Cs {a b:Bool}:kz .eql (.bool a) (.bool b)=some (.bool (decide (a=b))):=by cases a <;> cases b <;> rfl
@[simp] theorem Ct {a b:Bool}:kz .neq (.bool a) (.bool b)=some (.bool (!decide (a=b))):=by cases a <;> cases b <;> rfl
@[simp] theorem DP {vs:List AV} {i:Nat}:exI (.tup vs) i=vs[i]?:=q6 rfl rfl
@[simp] theorem DL {k a:IntKind} {n:Int} {s:St}:cvI (.int k) (.sc (.int a n)) s=some (.sc (.int k (k.wrap n))):=q6 rfl rfl
@[simp] theorem Dd {a:ByteArray} {s:St}:cvI .same (.sc (.string a)) s=some (.sc (.string a)):=q6 rfl rfl
def ncI:AV->Option AV
 | .ptr h f a=>some (.ptr h f a)
 | .zp e a=>some (.zp e a)
 | .fn (.func g) b c=>some (.fn (.func g) b c)
 | _=>none
def qI (P:Program) (b:AC) (Q:Ex->Slots->St->Prop):Ex->Slots->St->Prop:=fun a e c=>match a with | .normal=>acW P b Q e c | a=>Q a e c
def ll (id:Nat) (Q:Ex->Slots->St->Prop):Ex->Slots->St->Prop:=fun a c b=>match a with | .exit i=>if i=id then Q .normal c b else Q (.exit i) c b | a=>Q a c b
def fJ (e:Slots->St->Prop) (Q:Ex->Slots->St->Prop):Ex->Slots->St->Prop:=fun a c b=>match a with | .normal=>e c b | a=>Q a c b
class Bx (α:Type) where
 v:α
def rQ (v:AV) [A:Bx Prop] [B:Bx Prop]:Prop:=match v with
 | .sc (.bool a)=>if a=true then A.v else B.v
 | _=>False
def qB (v:AV) (b:Bool) [A:Bx Prop] [B:Bx Prop]:Prop:=match v with
 | .sc (.bool a)=>if a=b then A.v else B.v
 | .tup []=>B.v
 | _=>False
def cV (o:Option AV) (s:St) [F:Bx (AV->St->Prop)]:Prop:=match o with
 | some a=>F.v a s
 | none=>False
def dV (o:Option (AV×St)) [F:Bx (AV->St->Prop)]:Prop:=match o with
 | some (a,s)=>F.v a s
 | none=>False
def lX (o:Option St) (v:AV) [F:Bx (AV->St->Prop)]:Prop:=match o with
 | some s=>F.v v s
 | none=>False
def uU (P:Program) (f:FuncId) (args:List AV) (s:St) [F:Bx (AV->St->Prop)]:Prop:=ACalls P f args s F.v
def lpW (P:Program) [A:Bx AC] (sl:Slots) (s:St) [Q:Bx (Ex->Slots->St->Prop)]:Prop:=acW P (.loop A.v) Q.v sl s
def vo (op:BinOp) (x:AV) (s:St) [F:Bx (AV->St->Prop)]:Prop:=lK op x s F.v
def B5 (x:AV) (s:St) [F:Bx (AV->St->Prop)]:Prop:=nxW x s F.v
def aT (P:Program) (d:Option Nat) (m:Md) (re:List (Nat×Option (Nat×Bool)×I)) (r:List AO) (K:Slots->St->Prop) (sl:Slots) (v:AV) (s:St):Prop:=
 @dV (dt m v s) ⟨fun c a=>(∀ b∈re,fG b sl a)/\aQ P r K (put sl d c) a⟩
def vN (P:Program) (x:AV) (args:List AV) (s:St) [F:Bx (AV->St->Prop)]:Prop:=match x with
 | .fn (.func c) a b=>uU P c (a++args++b) s
 | _=>False
def doW (P:Program) (d:Option Nat) (m:Md) (i:I) (re:List (Nat×Option (Nat×Bool)×I)) (r:List AO) (K:Slots->St->Prop) (sl:Slots) (s:St):Prop:=opW P ⟨d,none,m,i,re⟩ sl s (aT P d m re r K sl)
@[congr] theorem C9 {P:Program} {a:AC} {Q:Ex->Slots->St->Prop} {sl b:Slots} {s s':St} (c:sl=b) (e:s=s'):acW P a Q sl s=acW P a Q b s':=by rw [c,e]
@[congr] theorem C0 {P:Program} {b:AC} {Q:Ex->Slots->St->Prop} {e:Ex} {sl a:Slots} {s s':St} (c:sl=a) (f:s=s'):qI P b Q e sl s=qI P b Q e a s':=by rw [c,f]
@[congr] theorem Bd {id:Nat} {Q:Ex->Slots->St->Prop} {e:Ex} {sl a:Slots} {s s':St} (b:sl=a) (c:s=s'):ll id Q e sl s=ll id Q e a s':=by rw [b,c]
@[congr] theorem BY {a:Slots->St->Prop} {Q:Ex->Slots->St->Prop} {e:Ex} {sl b:Slots} {s s':St} (c:sl=b) (f:s=s'):fJ a Q e sl s=fJ a Q e b s':=by rw [c,f]
@[congr] theorem CV {P:Program} {l:List AO} {K:Slots->St->Prop} {sl a:Slots} {s s':St} (b:sl=a) (c:s=s'):aQ P l K sl s=aQ P l K a s':=by rw [b,c]
@[congr] theorem CE {P:Program} {d:Option Nat} {m:Md} {re:List (Nat×Option (Nat×Bool)×I)} {r:List AO} {K:Slots->St->Prop} {sl a:Slots} {v v':AV} {s s':St} (b:sl=a) (c:v=v') (e:s=s'):aT P d m re r K sl v s=aT P d m re r K a v' s':=by rw [b,c,e]
@[congr] theorem Df {P:Program} {d:Option Nat} {m:Md} {i:I} {re:List (Nat×Option (Nat×Bool)×I)} {r:List AO} {K:Slots->St->Prop} {sl a:Slots} {s s':St} (b:sl=a) (c:s=s'):doW P d m i re r K sl s=doW P d m i re r K a s':=by rw [b,c]
@[congr] theorem Cg {P:Program} {a:AO} {pre:List (Bool×AO)} {post:List AO} {K:Slots->St->Prop} {sl b:Slots} {s s':St} (c:sl=b) (e:s=s'):cE P a post K pre sl s=cE P a post K pre b s':=by rw [c,e]
section
variable {P:Program} {Q:Ex->Slots->St->Prop} {sl:Slots} {s:St} {d:Option Nat} {m:Md} {re:List (Nat×Option (Nat×Bool)×I)} {r:List AO} {K:Slots->St->Prop}
@[simp] theorem Db:acW P .skip Q sl s=Q .normal sl s:=q6 rfl rfl
@[simp] theorem DG {l:List AO}:acW P (.ops l) Q sl s=aQ P l (Q .normal) sl s:=q6 rfl rfl
@[simp] theorem Da {a:AO} {pre:List (Bool×AO)} {post:List AO}:acW P (.roam a pre post) Q sl s=cE P a post (Q .normal) pre sl s:=q6 rfl rfl
@[simp] theorem uB {a b:AC}:acW P (.seq a b) Q sl s=acW P a (qI P b Q) sl s:=q6 rfl rfl
@[simp] theorem jQ {c:X} {a b:AC}:acW P (.cond c a b) Q sl s=@rQ (c.ev sl) ⟨acW P a Q sl s⟩ ⟨acW P b Q sl s⟩:=q6 rfl rfl
@[simp] theorem DF {a:AC}:acW P (.loop a) Q sl s=@lpW P ⟨a⟩ sl s ⟨Q⟩:=q6 rfl rfl
@[simp] theorem bx_v {a:Type} {x:a}:(Bx.mk x).v=x:=q6 rfl rfl
@[simp] theorem Cq {id:Nat} {a:AC}:acW P (.block id a) Q sl s=acW P a (ll id Q) sl s:=q6 rfl rfl
@[simp] theorem C8 {id:Nat}:acW P (.exit id) Q sl s=Q (.exit id) sl s:=q6 rfl rfl
@[simp] theorem DH:acW P .ret Q sl s=Q .ret sl s:=q6 rfl rfl
@[simp] theorem Bo {b:AC}:qI P b Q .normal sl s=acW P b Q sl s:=q6 rfl rfl
@[simp] theorem CZ {b:AC} {i:Nat}:qI P b Q (.exit i) sl s=Q (.exit i) sl s:=q6 rfl rfl
@[simp] theorem Dz {b:AC}:qI P b Q .ret sl s=Q .ret sl s:=q6 rfl rfl
@[simp] theorem AB {id:Nat}:ll id Q .normal sl s=Q .normal sl s:=q6 rfl rfl
@[simp] theorem Bc {id i:Nat}:ll id Q (.exit i) sl s=if i=id then Q .normal sl s else Q (.exit i) sl s:=q6 rfl rfl
@[simp] theorem BB {id:Nat}:ll id Q .ret sl s=Q .ret sl s:=q6 rfl rfl
@[simp] theorem AX {a:Slots->St->Prop}:fJ a Q .normal sl s=a sl s:=q6 rfl rfl
@[simp] theorem BX {a:Slots->St->Prop} {i:Nat}:fJ a Q (.exit i) sl s=Q (.exit i) sl s:=q6 rfl rfl
@[simp] theorem CM {a:Slots->St->Prop}:fJ a Q .ret sl s=Q .ret sl s:=q6 rfl rfl
@[simp] theorem BF {A B:Bx Prop}:@rQ (.sc (.bool true)) A B=A.v:=q6 rfl rfl
@[simp] theorem Be {A B:Bx Prop}:@rQ (.sc (.bool false)) A B=B.v:=q6 rfl rfl
@[simp] theorem CL {b:Bool} {A B:Bx Prop}:@qB (.tup []) b A B=B.v:=q6 rfl rfl
@[simp] theorem Eg {A B:Bx Prop}:@qB (.sc (.bool true)) true A B=A.v:=q6 rfl rfl
@[simp] theorem Ed {A B:Bx Prop}:@qB (.sc (.bool false)) false A B=A.v:=q6 rfl rfl
@[simp] theorem Ef {A B:Bx Prop}:@qB (.sc (.bool true)) false A B=B.v:=q6 rfl rfl
@[simp] theorem Ee {A B:Bx Prop}:@qB (.sc (.bool false)) true A B=B.v:=q6 rfl rfl
@[simp] theorem BA {v:AV} {F:Bx (AV->St->Prop)}:cV (some v) s=F.v v s:=q6 rfl rfl
@[simp] theorem Bz {F:Bx (AV->St->Prop)}:cV none s=False:=q6 rfl rfl
@[simp] theorem Bv {v:AV} {F:Bx (AV->St->Prop)}:dV (some (v,s))=F.v v s:=q6 rfl rfl
@[simp] theorem Bu {F:Bx (AV->St->Prop)}:dV none=False:=q6 rfl rfl
@[simp] theorem By {v:AV} {F:Bx (AV->St->Prop)}:lX (some s) v=F.v v s:=q6 rfl rfl
@[simp] theorem Bw {v:AV} {F:Bx (AV->St->Prop)}:lX none v=False:=q6 rfl rfl
@[simp] theorem Cw {f:Nat} {a b args:List AV} {F:Bx (AV->St->Prop)}:vN P (.fn (.func f) a b) args s=uU P f (a++args++b) s:=q6 rfl rfl
@[simp] theorem Dt:aQ P [] K sl s=K sl s:=q6 rfl rfl
@[simp] theorem CW {i:I}:aQ P (⟨d,none,m,i,re⟩::r) K sl s=doW P d m i re r K sl s:=by
 have e:aT P d m re r K sl=fun b a=>match dt m b a with
   | some (g,c)=>(∀ f∈re,fG f sl c)/\aQ P r K (put sl d g) c
   | none=>False:=by funext b a; simp only [aT]; cases dt m b a <;> rfl
 unfold doW; rw [e]; rfl
@[simp] theorem CX {i:I} {t:Nat} {b:Bool}:aQ P (⟨d,some (t,b),m,i,re⟩::r) K sl s=@qB (sl t) b ⟨doW P d m i re r K sl s⟩ ⟨aQ P r K (put sl d (.tup [])) s⟩:=by
 have l:doW P d m i re r K sl s=opW P ⟨d,some (t,b),m,i,re⟩ sl s fun a c=>match dt m a c with
   | some (g,e)=>(∀ f∈re,fG f sl e)/\aQ P r K (put sl d g) e
   | none=>False:=by
  unfold doW;have k:aT P d m re r K sl=fun a c=>match dt m a c with
   | some (g,e)=>(∀ f∈re,fG f sl e)/\aQ P r K (put sl d g) e
   | none=>False:=by funext a c; simp only [aT]; cases dt m a c <;> rfl
  rw [k]; rfl
 rw [l];simp only [aQ,gdI];cases sl t with
 | sc a=>cases a <;> first | rfl | (rename_i h; cases b <;> cases h <;> rfl)
 | tup o=>cases o <;> rfl
 | _=>rfl
@[simp] theorem En {n:Nat}:cr sl s (.t n)=some (sl n):=q6 rfl rfl
@[simp] theorem Em {n:Nat} {a:Option Nat}:cr sl s (.l n a)=ldI a (sl n) s:=q6 rfl rfl
@[simp] theorem Dx {x:RX}:fH [x] sl s=cr sl s x:=by
 simp only [fH,v1,Ev]; cases cr sl s x <;> rfl
@[simp] theorem Dw:fH [] sl s=some (.tup []):=q6 rfl rfl
@[simp] theorem Dy {x y:RX}:fH [x,y] sl s=(cr sl s x).bind fun a=>(cr sl s y).map fun b=>.tup [a,b]:=by
 simp only [fH,v1,Ev]; cases cr sl s x <;> cases cr sl s y <;> rfl
@[simp] theorem Ce {x y z:RX}:fH [x,y,z] sl s=(cr sl s x).bind fun a=>(cr sl s y).bind fun b=>(cr sl s z).map fun c=>.tup [a,b,c]:=by
 simp only [fH,v1,Ev]; cases cr sl s x <;> cases cr sl s y <;> cases cr sl s z <;> rfl
@[simp] theorem CY {x y z e:RX}:fH [x,y,z,e] sl s=(cr sl s x).bind fun a=>(cr sl s y).bind fun b=>(cr sl s z).bind fun c=>(cr sl s e).map fun d=>.tup [a,b,c,d]:=by
 simp only [fH,v1,Ev]; cases cr sl s x <;> cases cr sl s y <;> cases cr sl s z <;> cases cr sl s e <;> rfl
@[simp] theorem C7 {a:RM} {b:List RX} {c:St} {R:AV->St->Prop}:oO a b c R .ret sl s=@cV (fH b sl s) s ⟨fun r s'=>@dV (eb a c r s') ⟨R⟩⟩:=by
 simp only [oO,cV,dV]; cases fH b sl s with
 | none=>rfl
 | some r=>simp only; cases eb a c r s <;> rfl
@[simp] theorem A9 {a:RM} {b:List RX} {c:St} {R:AV->St->Prop}:oO a b c R .normal sl s=@cV (fH b sl s) s ⟨fun r s'=>@dV (eb a c r s') ⟨R⟩⟩:=by
 simp only [oO,cV,dV]; cases fH b sl s with
 | none=>rfl
 | some r=>simp only; cases eb a c r s <;> rfl
@[simp] theorem BO {v:AV}:aT P d .plain [] r K sl v s=aQ P r K (put sl d v) s:=by simp [aT,dt]
@[simp] theorem Dg {v:AV}:aT P d .mut [] r K sl v s=aQ P r K (put sl d v) s:=by simp [aT,dt]
@[simp] theorem CC {v:AV}:aT P d .asis [] r K sl v s=aQ P r K (put sl d v) s:=by simp [aT,dt]
@[simp] theorem CD {v:AV}:aT P d .fork [] r K sl v s=aQ P r K (put sl d v) s:=by simp [aT,dt]
@[simp] theorem DS {v:AV}:aT P d .fz [] r K sl v s=@dV (fzI v s) ⟨fun v' s'=>aQ P r K (put sl d v') s'⟩:=by
 have c:(fun v' a=>(∀ b∈([]:List (Nat×Option (Nat×Bool)×I)),fG b sl a)/\aQ P r K (put sl d v') a)=fun v' a=>aQ P r K (put sl d v') a:=by funext v' a; simp
 show @dV (fzI v s) ⟨fun v' a=>(∀ b∈([]:List (Nat×Option (Nat×Bool)×I)),fG b sl a)/\aQ P r K (put sl d v') a⟩=_;rw [c]
@[simp] theorem Bi {sz:Nat}:aT P d (.ph sz) [] r K sl (.sl [] true) s=(0<sz/\aQ P r K (put sl d (.row s.c sz 0 0)) (newRow sz [] s)):=by
 by_cases a:0<sz <;> simp [aT,dt,a]
@[simp] theorem Bj {sz g z off len:Nat}:aT P d (.ph sz) [] r K sl (.row g z off len) s=aQ P r K (put sl d (.row g z off len)) s:=by simp [aT,dt]
@[simp] theorem DU {v:AV} {a:Nat×Option (Nat×Bool)×I}:aT P d .plain (a::re) r K sl v s=(fG a sl s/\aT P d .plain re r K sl v s):=by
 simp [aT,dt,and_assoc]
@[simp] theorem De {f:Nat} {args:List X}:doW P d m (.call f args) re r K sl s=@uU P f (dh m sl args) s ⟨aT P d m re r K sl⟩:=q6 rfl rfl
@[simp] theorem Cx {x:X} {args:List X}:doW P d m (.callv x args) re r K sl s=@vN P (x.ev sl) (dh m sl args) s ⟨aT P d m re r K sl⟩:=q6 rfl rfl
@[simp] theorem CB {op:BinOp} {x y:X}:doW P d m (.bin .slNil op x y) re r K sl s=@vo op (x.ev sl) s ⟨aT P d m re r K sl⟩:=q6 rfl rfl
@[simp] theorem doW_nx {x:X}:doW P d m (.nx x) re r K sl s=@B5 (x.ev sl) s ⟨aT P d m re r K sl⟩:=q6 rfl rfl
theorem cy {o:Option AV} {F:AV->St->Prop}:(match o.map (·,s) with | some (v,s')=>F v s' | none=>False)=@cV o s ⟨F⟩:=by cases o <;> rfl
theorem gP {o:Option (AV×St)} {F:AV->St->Prop}:(match o with | some (v,s')=>F v s' | none=>False)=@dV o ⟨F⟩:=by cases o <;> rfl
theorem lY {o:Option St} {v:AV} {F:AV->St->Prop}:(match o.map (v,·) with | some (v,s')=>F v s' | none=>False)=@lX o v ⟨F⟩:=by cases o <;> rfl
@[simp] theorem doW_mv {x:X}:doW P d .plain (.mv x) re r K sl s=aT P d .plain re r K sl (x.ev sl) s:=q6 rfl rfl
@[simp] theorem Cy {x:X}:doW P d .fz (.mv x) re r K sl s=aT P d .fz re r K sl (x.ev sl) s:=q6 rfl rfl
@[simp] theorem BI {x:X}:doW P d .mut (.mv x) re r K sl s=aT P d .mut re r K sl (x.ev sl) s:=q6 rfl rfl
@[simp] theorem Bf {x:X}:doW P d .asis (.mv x) re r K sl s=aT P d .asis re r K sl (x.ev sl) s:=q6 rfl rfl
@[simp] theorem Bg {x:X}:doW P d .fork (.mv x) re r K sl s=aT P d .fork re r K sl (x.ev sl) s:=q6 rfl rfl
@[simp] theorem CA {x:X} {n:Nat}:doW P d (.ph n) (.mv x) re r K sl s=aT P d (.ph n) re r K sl (x.ev sl) s:=q6 rfl rfl
@[simp] theorem Cz:doW P d .nl (.mv (.c (.sl [] true))) re r K sl s=aT P d .nl re r K sl (.sc (.slice none 0 0)) s:=q6 rfl rfl
@[simp] theorem BJ {n:Nat}:doW P d .nl (.mv (.t n)) re r K sl s=aT P d .nl re r K sl (sl n) s:=q6 rfl rfl
@[simp] theorem DT {v:AV}:aT P d .nl [] r K sl v s=aQ P r K (put sl d v) s:=by simp [aT,dt]
@[simp] theorem DA {op:BinOp} {s:St} {F:Bx (AV->St->Prop)}:@vo op (.sc (.slice none 0 0)) s F=((op=.eql\/op=.neq)/\F.v (.bool (op==.eql)) s):=q6 rfl rfl
@[simp] theorem doW_pk {c a b:X}:doW P d m (.pk c a b) re r K sl s=@rQ (c.ev sl) ⟨aT P d m re r K sl (a.ev sl) s⟩ ⟨aT P d m re r K sl (b.ev sl) s⟩:=by
 simp only [doW,opW,aO];cases c.ev sl with
 | sc f=>cases f <;> first | rfl | (rename_i e; cases e <;> rfl)
 | _=>rfl
@[simp] theorem doW_bx {x:X} {sz:Nat}:doW P d m (.bx x sz) re r K sl s=@dV (lZ (x.ev sl) sz s) ⟨aT P d m re r K sl⟩:=gP
@[simp] theorem doW_al {zs:List AV}:doW P d m (.al zs) re r K sl s=@dV (lZ (.agg zs) zs.length s) ⟨aT P d m re r K sl⟩:=gP
@[simp] theorem doW_bd {zs:List AV} {a:List (Nat×Nat×X)}:doW P d m (.bd zs a) re r K sl s=@cV ((aH zs (a.map fun (o,n,x)=>(o,n,x.ev sl))).map .agg) s ⟨aT P d m re r K sl⟩:=cy
@[simp] theorem doW_bs {sz n:Nat} {zs:List AV} {a:List (Nat×X)}:doW P d m (.bs sz zs n a) re r K sl s=@dV (bsI sz zs n (a.map fun (i,x)=>(i,x.ev sl)) m s) ⟨aT P d m re r K sl⟩:=gP
@[simp] theorem doW_ld {a:Option Nat} {x:X}:doW P d m (.ld a x) re r K sl s=@cV (ldI a (x.ev sl) s) s ⟨aT P d m re r K sl⟩:=cy
@[simp] theorem doW_st {n:Nat} {a x:X}:doW P d m (.st n a x) re r K sl s=@lX (stI n (a.ev sl) (x.ev sl) s) .undef ⟨aT P d m re r K sl⟩:=lY
@[simp] theorem doW_nc {x:X}:doW P d m (.nc x) re r K sl s=@cV (ncI (x.ev sl)) s ⟨aT P d m re r K sl⟩:=by
 simp only [doW,opW,aO,ncI];cases x.ev sl with
 | fn a b c=>cases a <;> rfl
 | _=>rfl
@[simp] theorem DM {k:BK} {op:BinOp} {x y:X} (h:k≠.slNil):doW P d m (.bin k op x y) re r K sl s=@cV (gq k op (x.ev sl) (y.ev sl)) s ⟨aT P d m re r K sl⟩:=by
 cases k <;> first | exact cy | exact absurd rfl h
@[simp] theorem doW_un {op:UnOp} {x:X}:doW P d m (.un op x) re r K sl s=@cV (unI op (x.ev sl)) s ⟨aT P d m re r K sl⟩:=cy
@[simp] theorem doW_cv {k:CK} {x:X}:doW P d m (.cv k x) re r K sl s=@cV (cvI k (x.ev sl) s) s ⟨aT P d m re r K sl⟩:=cy
@[simp] theorem doW_mf {f:Nat} {a b:List X}:doW P d m (.mf f a b) re r K sl s=aT P d m re r K sl (.fn (.func f) (a.map (·.ev sl)) (b.map (·.ev sl))) s:=q6 rfl rfl
@[simp] theorem doW_mm:doW P d m .mm re r K sl s=aT P d m re r K sl (.map s.c) { h:=upd s.h s.c (some (.map [] s.c)),c:=s.c+1 }:=q6 rfl rfl
@[simp] theorem doW_ms {sz bytes:Nat} {zs:List AV} {l c:X}:doW P d m (.ms sz zs bytes l c) re r K sl s=@dV (msI sz zs bytes (l.ev sl) (c.ev sl) s) ⟨aT P d m re r K sl⟩:=gP
@[simp] theorem doW_ss {x:X} {b a:Option X}:doW P d m (.ss x b a) re r K sl s=@cV (ssI (x.ev sl) (b.map (·.ev sl)) (a.map (·.ev sl))) s ⟨aT P d m re r K sl⟩:=cy
@[simp] theorem doW_sr {sz:Nat} {x:X} {b a mx:Option X} (h:m≠.mut):doW P d m (.sr sz x b a mx) re r K sl s=@cV (srI sz (x.ev sl) (b.map (·.ev sl)) (a.map (·.ev sl)) (mx.map (·.ev sl))) s ⟨aT P d m re r K sl⟩:=by
 unfold doW opW;simp only [aO,h,if_false];exact cy
@[simp] theorem DO {sz:Nat} {x:X} {b a mx:Option X}:doW P d .mut (.sr sz x b a mx) re r K sl s=@cV (srX sz (x.ev sl) (b.map (·.ev sl)) (a.map (·.ev sl)) (mx.map (·.ev sl)) s) s ⟨aT P d .mut re r K sl⟩:=cy
@[simp] theorem doW_fa {off:Nat} {x:X}:doW P d m (.fa off x) re r K sl s=@cV (faI off (x.ev sl)) s ⟨aT P d m re r K sl⟩:=cy
@[simp] theorem doW_fd {a:Option Nat} {off:Nat} {x:X}:doW P d m (.fd a off x) re r K sl s=@cV (fdI a off (x.ev sl)) s ⟨aT P d m re r K sl⟩:=cy
@[simp] theorem doW_ia {sz:Nat} {x i:X}:doW P d m (.ia sz x i) re r K sl s=@cV (iaI sz (x.ev sl) (i.ev sl)) s ⟨aT P d m re r K sl⟩:=cy
@[simp] theorem doW_ix {x i:X}:doW P d m (.ix x i) re r K sl s=@cV (ixI (x.ev sl) (i.ev sl)) s ⟨aT P d m re r K sl⟩:=cy
@[simp] theorem doW_lk {b:KK} {z:AV} {ok:Bool} {a k:X}:doW P d m (.lk b z ok a k) re r K sl s=@cV (lkI b z ok (a.ev sl) (k.ev sl) s) s ⟨aT P d m re r K sl⟩:=cy
@[simp] theorem doW_mu {b:KK} {a k v:X}:doW P d m (.mu b a k v) re r K sl s=@lX (muI b (a.ev sl) (k.ev sl) (v.ev sl) s) .undef ⟨aT P d m re r K sl⟩:=lY
@[simp] theorem doW_dl {b:KK} {a k:X}:doW P d m (.dl b a k) re r K sl s=@lX (dlI b (a.ev sl) (k.ev sl) s) (.tup []) ⟨aT P d m re r K sl⟩:=lY
@[simp] theorem doW_rg {x:X}:doW P d m (.rg x) re r K sl s=@dV (rgI (x.ev sl) s) ⟨aT P d m re r K sl⟩:=gP
@[simp] theorem doW_cl {sz:Nat} {zs:List AV} {x:X}:doW P d m (.cl sz zs x) re r K sl s=@lX (clI sz zs (x.ev sl) s) (.tup []) ⟨aT P d m re r K sl⟩:=lY
@[simp] theorem doW_nt {x:X}:doW P d m (.nt x) re r K sl s=@cV (ntI (x.ev sl) s) s ⟨aT P d m re r K sl⟩:=cy
@[simp] theorem doW_ex {x:X} {i:Nat}:doW P d m (.ex x i) re r K sl s=@cV (exI (x.ev sl) i) s ⟨aT P d m re r K sl⟩:=cy
@[simp] theorem DN {k:Nat} {x:X}:doW P d m (.len k x) re r K sl s=@cV (eL k (x.ev sl) s) s ⟨aT P d m re r K sl⟩:=cy
@[simp] theorem doW_ap {sz bytes:Nat} {a x:X}:doW P d m (.ap sz bytes a x) re r K sl s=@dV (apI sz bytes m (a.ev sl) (x.ev sl) s) ⟨aT P d m re r K sl⟩:=gP
@[simp] theorem doW_cp {sz:Nat} {a x:X}:doW P d m (.cp sz a x) re r K sl s=@dV (cpI sz (a.ev sl) (x.ev sl) s) ⟨aT P d m re r K sl⟩:=gP
@[simp] theorem doW_mx {l:List X}:doW P d m (.mx l) re r K sl s=@cV (jd (fun a b=>if a<b then b else a) (l.map (·.ev sl))) s ⟨aT P d m re r K sl⟩:=cy
@[simp] theorem doW_mn {l:List X}:doW P d m (.mn l) re r K sl s=@cV (jd (fun a b=>if b<a then b else a) (l.map (·.ev sl))) s ⟨aT P d m re r K sl⟩:=cy
@[simp] theorem doW_mi {t:TypeId} {x:X}:doW P d m (.mi t x) re r K sl s=((x.ev sl).val=true/\aT P d m re r K sl (.ifc t (x.ev sl)) s):=by
 simp only [doW,opW,aO];by_cases a:(x.ev sl).val=true <;> simp [a]
end
@[simp] theorem AJ {sl:Slots} {xs:List X}:dh .plain sl xs=xs.map fun x=>norm (x.ev sl):=q6 rfl rfl
@[simp] theorem Bs {sl:Slots} {xs:List X}:dh .mut sl xs=xs.map fun x=>norm (x.ev sl):=q6 rfl rfl
@[simp] theorem Cr {sl:Slots} {xs:List X}:dh .fz sl xs=xs.map fun x=>norm (x.ev sl):=q6 rfl rfl
@[simp] theorem Bb {sl:Slots} {xs:List X}:dh .fork sl xs=xs.map fun x=>norm (x.ev sl):=q6 rfl rfl
@[simp] theorem Ba {sl:Slots} {xs:List X}:dh .asis sl xs=xs.map (·.ev sl):=q6 rfl rfl
@[simp] theorem Ek {g e o:Nat}:ncI (.ptr g e o)=some (.ptr g e o):=q6 rfl rfl
@[simp] theorem ncI_zp {cs:List AV} {o:Nat}:ncI (.zp cs o)=some (.zp cs o):=q6 rfl rfl
@[simp] theorem ncI_fn {f:Nat} {a b:List AV}:ncI (.fn (.func f) a b)=some (.fn (.func f) a b):=q6 rfl rfl
@[simp] theorem Dq {v:Value}:norm (.sc v)=.sc v:=q6 rfl rfl
@[simp] theorem CS {g e o:Nat}:norm (.ptr g e o)=.ptr g e o:=q6 rfl rfl
@[simp] theorem Ds {cs:List AV} {o:Nat}:norm (.zp cs o)=.zp cs o:=q6 rfl rfl
@[simp] theorem CT {g z o n:Nat}:norm (.row g z o n)=.row g z o n:=q6 rfl rfl
@[simp] theorem CQ {g:Nat}:norm (.map g)=.map g:=q6 rfl rfl
@[simp] theorem Do {f:Fn} {a b:List AV}:norm (.fn f a b)=.fn f a b:=q6 rfl rfl
@[simp] theorem CN {cs:List AV}:norm (.agg cs)=.agg (br cs):=q6 rfl rfl
@[simp] theorem Dr {es:List (List AV)} {b:Bool}:norm (.sl es b)=.sl (aP es) false:=q6 rfl rfl
@[simp] theorem B9:br []=[]:=q6 rfl rfl
@[simp] theorem Bn {v:AV} {vs:List AV}:br (v::vs)=norm v::br vs:=q6 rfl rfl
@[simp] theorem B8:aP []=[]:=q6 rfl rfl
@[simp] theorem Bl {v:List AV} {vs:List (List AV)}:aP (v::vs)=br v::aP vs:=q6 rfl rfl
@[simp] theorem DK {v:AV} {sz:Nat} {s:St}:lZ v sz s=if 0<sz/\aF sz v.cells=true then some (.ptr s.c 0 0,newRow sz [v.cells] s) else none:=q6 rfl rfl
theorem vZ {k:IntKind} {a b:Int}:fh .eql k a b=some (.bool (decide (a=b))):=q6 rfl rfl
theorem wj {k:IntKind} {a b:Int}:fh .neq k a b=some (.bool (!decide (a=b))):=q6 rfl rfl
theorem wh {k:IntKind} {a b:Int}:fh .lss k a b=some (.bool (decide (a<b))):=q6 rfl rfl
theorem wg {k:IntKind} {a b:Int}:fh .leq k a b=some (.bool (decide (a<=b))):=q6 rfl rfl
theorem we {k:IntKind} {a b:Int}:fh .gtr k a b=some (.bool (decide (b<a))):=q6 rfl rfl
theorem wd {k:IntKind} {a b:Int}:fh .geq k a b=some (.bool (decide (b<=a))):=q6 rfl rfl
theorem vY {k:IntKind} {a b:Int}:fh .add k a b=some (.int k (k.wrap (a+b))):=q6 rfl rfl
theorem wm {k:IntKind} {a b:Int}:fh .sub k a b=some (.int k (k.wrap (a-b))):=q6 rfl rfl
theorem wi {k:IntKind} {a b:Int}:fh .mul k a b=some (.int k (k.wrap (a*b))):=q6 rfl rfl
theorem wk {k:IntKind} {a b:Int}:fh .quo k a b=if b=0 then none else some (.int k (k.wrap (a.tdiv b))):=q6 rfl rfl
theorem wl {k:IntKind} {a b:Int}:fh .rem k a b=if b=0 then none else some (.int k (a.tmod b)):=q6 rfl rfl
attribute [simp] vZ wj wh wg we wd vY wm wi wk wl
@[simp] theorem Cu {op:BinOp} {k:IntKind} {a b:Int} (h:op≠.shl) (h':op≠.shr):fT op (.int k a) (.int k b)=fh op k a b:=by
 cases op <;> first | exact absurd rfl h | exact absurd rfl h' | simp [fT]
@[simp] theorem Cv {op:BinOp} {a b:ByteArray}:fT op (.string a) (.string b)=gd op a b:=q6 rfl rfl
@[simp] theorem Eo {k:IntKind} {n:Int}:unI .neg (.sc (.int k n))=some (.sc (.int k (k.wrap (0-n)))):=q6 rfl rfl
@[simp] theorem Ep {b:Bool}:unI .not (.sc (.bool b))=some (.bool !b):=q6 rfl rfl
attribute [simp] aF newRow AV.cells AV.cell j7
@[simp] theorem Ax {n g e o:Nat} {v:AV} {s:St}:stI n (.ptr g e o) v s=(match s.h g with
  | some (.row sz es .live none)=>match es[e]? with
   | some cs=>if v.cells.length=n/\v.cells.all AV.cell=true/\o+n<=cs.length then
     some { s with h:=upd s.h g (some (.row sz (es.set e (dO cs o v.cells)) .live none)) } else none
   | none=>none
  | _=>none):=q6 rfl rfl
attribute [simp] St.elem dO
theorem ah {x:Int} (h:-9223372036854775808<=x) (h':x<9223372036854775808):IntKind.i64.wrap x=x:=by
 simp [IntKind.wrap,IntKind.bits,IntKind.signed]; omega
theorem q0 {x:Int} (h:-9223372036854775808<=x:=by omega) (k:x<9223372036854775808:=by omega):IntKind.i64.wrap x=x:=ah h k
theorem Cn (a b:ByteArray):gd .eql a b=some (.bool (decide (a=b))):=by
 simp only [gd];rw [<-beq_toListBytes,gV]
theorem Co (a b:ByteArray):gd .neq a b=some (.bool !(decide (a=b))):=by
 simp only [gd];rw [<-beq_toListBytes,gV]
attribute [simp] Cn Co
end Go.AM
