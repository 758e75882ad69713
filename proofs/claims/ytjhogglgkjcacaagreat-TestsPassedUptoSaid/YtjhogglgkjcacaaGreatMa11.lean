/- Part of the claim: see its last text. -/
import Derived.Test.YtjhogglgkjcacaaGreatMa9
import Derived.Test.YtjhogglgkjcacaaGreatMa10
import Derived.LoopN
set_option linter.all false
namespace Go.AM
def CallOk (P:Program) (f:FuncId) (as:Array Value) (w:World) (R:Value→World→Prop):Prop:=
 match (callFunc f as).run P w with
 | .ok (.enter g bs) w1=>Calls P g bs w1 (fun e w'=>match e with | .returned v=>R v w' | _=>False)
 | .ok (.value v) w1=>R v w1
 | _=>False
def ACalls (P:Program) (f:FuncId) (args:List AV) (s:St) (R:AV→St→Prop):Prop:=
 ∀ (G:Gh) (w:World) (vs:List Value),Sim G s w→RepL G args vs →
  CallOk P f vs.toArray w fun v w'=>∃ av G' s',Stp G s w G' s' w'∧Sim G' s' w'∧Rep G' av v∧R av s'
theorem CallOk.mono {P:Program} {f:FuncId} {as:Array Value} {w:World} {R R':Value→World→Prop} (h:CallOk P f as w R) (hr:∀ v w',R v w'→R' v w'):CallOk P f as w R':=by
 unfold CallOk at h ⊢
 split at h
 ·exact h.mono fun e w' he=>by cases e <;> first | exact hr _ _ he | exact he
 ·exact hr _ _ h
 ·exact h
theorem ACalls.mono {P:Program} {f:FuncId} {args:List AV} {s:St} {R R':AV→St→Prop} (h:ACalls P f args s R) (hr:∀ v s',s.c≤s'.c→R v s'→R' v s'):ACalls P f args s R':=
 fun G w vs hS hv=>(h G w vs hS hv).mono fun v w' ⟨av,G',s',h1,h2,h3,h4⟩=>⟨av,G',s',h1,h2,h3,hr av s' h1.c h4⟩
def cD (md:Md) (sl:Slots) (xs:List X):List AV:=if md=.asis then xs.map (·.ev sl) else xs.map fun x=>norm (x.ev sl)
def opW (P:Program) (o:AO) (sl:Slots) (s:St) (K:AV→St→Prop):Prop:=match o.i with
 | .call f args=>ACalls P f (cD o.md sl args) s K
 | .callv x args=>match x.ev sl with
  | .fn (.func f) a b=>ACalls P f (a++cD o.md sl args++b) s K
  | _=>False
 | .bin .slNil op x _=>jC op (x.ev sl) s K
 | .nx x=>nxW (x.ev sl) s K
 | .inv tab x args=>match x.ev sl with
  | .ifc t v=>match tab.find? fun q=>q.1==t with
   | some (_,f,none)=>ACalls P f (v::cD o.md sl args) s K
   | some (_,f,some ag)=>match ldI ag v s with
    | some u=>ACalls P f (u::cD o.md sl args) s K
    | none=>False
   | none=>False
  | _=>False
 | i=>match aH i o.md sl s with
  | some (v,s')=>K v s'
  | none=>False
def ed (q:Nat×Option (Nat×Bool)×I) (sl:Slots) (s:St):Prop:=gdI q.2.1 sl=some false∨(gdI q.2.1 sl=some true∧aH q.2.2 .plain sl s=some (sl q.1,s))
def aM (P:Program):List AO→(Slots→St→Prop)→Slots→St→Prop
 | [],K,sl,s=>K sl s
 | o::r,K,sl,s=>match gdI o.grd sl with
  | some false=>aM P r K (put sl o.dst (.tup [])) s
  | some true=>opW P o sl s fun v s'=>match cF o.md v s' with
   | some (v',s'')=>(∀ q∈o.re,ed q sl s'')∧aM P r K (put sl o.dst v') s''
   | none=>False
  | none=>False
def AO.cut (a:AO) (r:List AO):AO:={ a with re:=a.re.filter fun q=>r.all fun o=>o.dst != some q.1 }
def ce (P:Program) (a:AO) (post:List AO) (K:Slots→St→Prop):List (Bool×AO)→Slots→St→Prop
 | [],sl,s=>aM P (a::post) K sl s
 | (b,e)::r,sl,s=>(b=true→aM P (a.cut (e::r.map (·.2))::e::(r.map (·.2)++post)) K sl s)∧aM P [e] (ce P a post K r) sl s
inductive Ex where
 | normal
 | exit (id:Nat)
 | ret
def eE (F:(Ex→Slots→St→Prop)→Slots→St→Prop) (Q:Ex→Slots→St→Prop):Nat→Slots→St→Prop
 | 0,_,_=>False
 | n+1,sl,s=>F (fun e sl' s'=>match e with | .normal=>eE F Q n sl' s' | e=>Q e sl' s') sl s
def acW (P:Program):AC→(Ex→Slots→St→Prop)→Slots→St→Prop
 | .skip,Q,sl,s=>Q .normal sl s
 | .ops l,Q,sl,s=>aM P l (Q .normal) sl s
 | .roam a pre post,Q,sl,s=>ce P a post (Q .normal) pre sl s
 | .seq a b,Q,sl,s=>acW P a (fun e sl' s'=>match e with | .normal=>acW P b Q sl' s' | e=>Q e sl' s') sl s
 | .cond c a b,Q,sl,s=>match c.ev sl with
  | .sc (.bool t)=>if t=true then acW P a Q sl s else acW P b Q sl s
  | _=>False
 | .block id a,Q,sl,s=>acW P a (fun e sl' s'=>match e with | .exit i=>if i=id then Q .normal sl' s' else Q (.exit i) sl' s' | e=>Q e sl' s') sl s
 | .loop a,Q,sl,s=>∃ n,eE (acW P a) Q n sl s
 | .exit id,Q,sl,s=>Q (.exit id) sl s
 | .ret,Q,sl,s=>Q .ret sl s
def cX:Operand→Option X
 | .tmp t=>some (.t t)
 | .const v=>some (.c (ofValue v))
 | .func f=>some (.f f)
 | .global _=>none
def cXs (l:Array Operand):Option (List X):=l.toList.mapM cX
def cXo:Option Operand→Option (Option X)
 | none=>some none
 | some x=>(cX x).map some
def vw:Operand→Bool
 | .const (.slice none 0 0)=>true
 | _=>false
def vu:Operand→Bool
 | .const (.map none)=>true
 | _=>false
def cBk (P:Program) (op:BinOp) (t:TypeId) (y:Operand):Option BK:=match P.underlying t with
 | some (.int _) | some .string=>some .sc
 | some .bool=>some .bl
 | some (.pointer _)=>some .pn
 | some (.struct _)=>match jP P t with
  | some ks=>if P.eqGuardType P.depth t=false then some (.eqAgg ks) else none
  | none=>none
 | some (.slice _)=>if vw y=true then some .slNil else none
 | some (.map _ _)=>if vu y=true then some .mpNil else none
 | _=>none
def cCv (P:Program) (src dst:TypeId):Option CK:=match P.underlying src,P.underlying dst with
 | some (.int _),some (.int k)=>some (.int k)
 | some (.int _),some .string=>some .i2s
 | some .string,some .string=>some .same
 | some (.slice e),some .string=>match P.underlying e with
  | some (.int .u8)=>some .b2s
  | _=>none
 | _,_=>none
def tZv (P:Program) (e:TypeId):Option Value:=(P.info? e).bind (·.zero)
def lE (P:Program) (t:TypeId) (name:String):Option (FuncId×Option (Option Nat)):=match P.info? t with
 | some i=>match i.methods.find? (·.name==name) with
  | some m=>if m.path.toList=[] then match m.func with
   | some (f,true)=>match P.underlying t with
    | some (.pointer _)=>some (f,none)
    | _=>none
   | some (f,false)=>match P.underlying t with
    | some (.pointer e)=>(tAg P e).map fun ag=>(f,some ag)
    | some _=>some (f,none)
    | none=>none
   | none=>none
   else none
  | none=>none
 | none=>none
def nv (P:Program) (name:String):List (TypeId×FuncId×Option (Option Nat)):=(List.range P.types.size).filterMap fun t=>(lE P t name).map fun q=>(t,q)
def aS (P:Program) (o:Oper):Option I:=match o.op with
 | .move x | .assign x=>(cX x).map .mv
 | .pick c a b=>match cX c,cX a,cX b with
  | some c,some a,some b=>some (.pk c a b)
  | _,_,_=>none
 | .alloc e=>(eK P e).map fun z=>.al z.1
 | .box e x=>match tSz P e,cX x with
  | some n,some x=>some (.bx x n)
  | _,_=>none
 | .build t ps=>match eK P t,oJ P t with
  | some (zs,_),some pl=>if zs.all AV.cell=true then (ps.toList.mapM fun (p:Nat×Operand)=>match pl[p.1]?,cX p.2 with
    | some (o,n),some x=>some (o,n,x)
    | _,_=>none).map (.bd zs) else none
  | _,_=>none
 | .buildSlice t n ps=>match dB P t with
  | some (e,i)=>match eK P e with
   | some (zs,_)=>if n*i.size≤2 ^ 24 then (ps.toList.mapM fun (p:Nat×Operand)=>(cX p.2).map fun x=>(p.1,x)).map (.bs i.size zs n) else none
   | none=>none
  | none=>none
 | .load t x=>match tAg P t,cX x with
  | some ag,some x=>some (.ld ag x)
  | _,_=>none
 | .store t a x=>match tSz P t,cX a,cX x with
  | some n,some a,some x=>some (.st n a x)
  | _,_,_=>none
 | .nilCheck x=>(cX x).map .nc
 | .binOp op t x y _=>match cBk P op t y,cX x,cX y with
  | some k,some x,some y=>some (.bin k op x y)
  | _,_,_=>none
 | .unOp op _ x=>(cX x).map (.un op)
 | .convert src dst x=>match cCv P src dst,cX x with
  | some k,some x=>some (.cv k x)
  | _,_=>none
 | .makeFunc (.func f) a b=>match cXs a,cXs b with
  | some a,some b=>some (.mf f a b)
  | _,_=>none
 | .makeSlice t l c=>match dB P t with
  | some (e,i)=>match eK P e,cX l,cX c with
   | some (zs,_),some l,some c=>some (.ms i.size zs i.bytes l c)
   | _,_,_=>none
  | none=>none
 | .slice t x lo hi mx=>match cX x,cXo lo,cXo hi,cXo mx with
  | some x,some lo,some hi,some mx=>match P.underlying t with
   | some .string=>if mx.isNone then some (.ss x lo hi) else none
   | some (.slice e)=>match P.info? e with
    | some i=>if mx.isSome=true→hi.isSome=true then some (.sr i.size x lo hi mx) else none
    | none=>none
   | _=>none
  | _,_,_,_=>none
 | .fieldAddr t x f=>match vf P t f,cX x with
  | some off,some x=>some (.fa off x)
  | _,_=>none
 | .field t x f=>match tFd P t f,cX x with
  | some (ag,off),some x=>some (.fd ag off x)
  | _,_=>none
 | .indexAddr t x i=>match dB P t,cX x,cX i with
  | some (_,ti),some x,some i=>some (.ia ti.size x i)
  | _,_,_=>none
 | .index t x i=>match P.underlying t,cX x,cX i with
  | some .string,some x,some i=>some (.ix x i)
  | _,_,_=>none
 | .extract x i=>(cX x).map (.ex · i)
 | .makeMap _ none=>some .mm
 | .lookup t x k ok=>match P.underlying t,cX x,cX k with
  | some (.map kt et),some x,some k=>match eM P kt,tZv P et with
   | some kk,some z=>some (.lk kk (ofValue z) ok x k)
   | _,_=>none
  | _,_,_=>none
 | .panic _=>some (.ex (.c .undef) 0)
 | .mapUpdate t m k v=>match P.underlying t,cX m,cX k,cX v with
  | some (.map kt _),some m,some k,some v=>(eM P kt).map (.mu · m k v)
  | _,_,_,_=>none
 | .range t x=>match P.underlying t,cX x with
  | some (.map _ _),some x=>some (.rg x)
  | _,_=>none
 | .next it false=>(cX it).map .nx
 | .entry it=>(cX it).map .nt
 | .makeInterface t x=>match P.underlying t,cX x with
  | some (.interface _),_=>none
  | some _,some x=>some (.mi t x)
  | _,_=>none
 | .typeAssert x _ t false=>match P.underlying t,cX x with
  | some (.interface _),_=>none
  | some _,some x=>some (.ta t x)
  | _,_=>none
 | .call c=>match c.callee,cXs c.args with
  | .value (.func f),some args=>some (.call f args)
  | .value x,some args=>(cX x).map (.callv · args)
  | .invoke r name,some args=>(cX r).map (.inv (nv P name) · args)
  | .builtin .len,some [x]=>match c.argTypes[0]? with
   | some t=>(vg P t).map (.len · x)
   | none=>none
  | .builtin .append,some [d,x]=>match c.argTypes.toList with
   | [t,t']=>if t=t' then (nT P t).map fun e=>.ap e.2.size e.2.bytes d x else none
   | _=>none
  | .builtin .copy,some [d,x]=>match c.argTypes[0]? with
   | some t=>(dB P t).map fun e=>.cp e.2.size d x
   | none=>none
  | .builtin .delete,some [m,k]=>match c.argTypes[0]? with
   | some t=>match P.underlying t with
    | some (.map kt _)=>(eM P kt).map (.dl · m k)
    | _=>none
   | none=>none
  | .builtin .clear,some [x]=>match c.argTypes[0]? with
   | some t=>match dB P t with
    | some (e,i)=>match eK P e with
     | some (zs,_)=>some (.cl i.size zs x)
     | none=>none
    | none=>none
   | none=>none
  | .builtin .max,some l=>some (.mx l)
  | .builtin .min,some l=>some (.mn l)
  | _,_=>none
 | _=>none
def cOp (P:Program) (o:Oper):Option I:=some ((aS P o).getD (.ex (.c .undef) 0))
def eV (P:Program) (n:Nat) (md:Tmp→Md) (ops:Array Oper) (o:Oper):Option AO:=
 match cOp P o,o.dst with
 | some i,none=>match o.guard with
  | none=>some { dst:=none,grd:=none,md:=.plain,i,re:=[] }
  | some _=>none
 | some i,some d=>if d<n then match o.guard with
  | none=>some { dst:=some d,grd:=none,md:=md d,i,re:=[] }
  | some (j,b)=>match (ops[j]?).bind (·.dst) with
   | some t=>some { dst:=some d,grd:=some (t,b),md:=md d,i,re:=[] }
   | none=>none
  else none
 | none,_=>none
def RepSl (G:Gh) (sl:Slots) (a:Act):Prop:=∀ t,Rep G (sl t) (a.tmps.getD t undef)
theorem RepSl.mono {G G':Gh} (hle:G.Le G') {sl:Slots} {a:Act} (h:RepSl G sl a):RepSl G' sl a:=fun t=>(h t).mono hle
theorem ba {G:Gh} {sl:Slots} {a:Act} (h:RepSl G sl a) {x:Operand} {y:X} (hx:cX x=some y):Rep G (y.ev sl) (a.eval x):=by
 cases x with
 | tmp t=>simp only [cX] at hx; injection hx with hx; subst hx; exact h t
 | const v=>simp only [cX] at hx; injection hx with hx; subst hx; exact eT G v
 | global g=>simp [cX] at hx
 | func f=>simp only [cX] at hx; injection hx with hx; subst hx; exact .fn _ [] [] #[] #[] rfl rfl (fun j c v h=>by simp at h) (fun j c v h=>by simp at h)
theorem eF {α β:Type} {f:α→Option β}:∀ {l:List α} {r:List β},l.mapM f=some r→l.length=r.length∧∀ (j:Nat) x y,l[j]?=some x→r[j]?=some y→f x=some y
 | [],r,h=>by simp at h; subst h; exact ⟨rfl,fun j x y h=>by simp at h⟩
 | a::l,r,h=>by
  rw [List.mapM_cons] at h
  cases ha:f a with
  | none=>simp [ha] at h
  | some b=>
   cases hl:l.mapM f with
   | none=>simp [ha,hl] at h
   | some bs=>
    simp [ha,hl] at h
    subst h
    obtain ⟨h1,h2⟩:=eF hl
    refine ⟨by simp [h1],fun j x y hx hy=>?_⟩
    cases j with
    | zero=>simp at hx hy; subst hx; subst hy; exact ha
    | succ j=>exact h2 j x y (by simpa using hx) (by simpa using hy)
theorem ky {G:Gh} {sl:Slots} {a:Act} (h:RepSl G sl a) {xs:Array Operand} {ys:List X} (hx:cXs xs=some ys):RepL G (ys.map (·.ev sl)) (xs.map a.eval).toList:=by
 obtain ⟨h1,h2⟩:=eF hx
 refine ⟨by simp [←h1],fun j c v hc hv=>?_⟩
 rw [List.getElem?_map] at hc
 cases hy:ys[j]? with
 | none=>simp [hy] at hc
 | some y=>
  simp [hy] at hc; subst hc
  have hj:j<xs.toList.length:=by rw [h1]; exact (List.getElem?_eq_some_iff.1 hy).1
  have hxj:=List.getElem?_eq_getElem hj
  have:=h2 j _ y hxj hy
  simp at hv
  obtain ⟨z,hz1,hz2⟩:=hv
  have:xs.toList[j]=z:=by simp at hxj hz1 ⊢; have:=hz1; rw [Array.getElem?_eq_getElem (by simpa using hj)] at this; exact Option.some.inj this
  subst hz2
  rw [←this]
  exact ba h (h2 j _ y hxj hy)
theorem iz {G:Gh} {sl:Slots} {a:Act} (h:RepSl G sl a) {x:Option Operand} {y:Option X} (hx:cXo x=some y):e9 G (y.map (·.ev sl)) (x.map a.eval):=by
 cases x with
 | none=>simp only [cXo] at hx; injection hx with hx; subst hx; exact ⟨rfl,fun a u h=>by simp at h⟩
 | some x=>
  simp only [cXo] at hx
  cases hy:cX x with
  | none=>simp [hy] at hx
  | some z=>
   simp [hy] at hx; subst hx
   exact ⟨rfl,fun a' u h1 h2=>by simp at h1 h2; subst h1; subst h2; exact ba h hy⟩
end Go.AM
