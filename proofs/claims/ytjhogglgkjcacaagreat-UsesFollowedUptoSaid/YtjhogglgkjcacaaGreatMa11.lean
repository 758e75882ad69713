/- Part of the claim: see its last text. -/
import Derived.Test.YtjhogglgkjcacaaGreatMa9
import Derived.Test.YtjhogglgkjcacaaGreatMa10
import Derived.LoopN
set_option linter.all false
namespace Go.AM
def CallOk (P:Program) (f:FuncId) (c:Array Value) (w:World) (R:Value->World->Prop):Prop:=
 match (callFunc f c).run P w with
 | .ok (.enter e bs) b=>Calls P e bs b (fun d g=>match d with | .returned a=>R a g | _=>False)
 | .ok (.value a) b=>R a b
 | _=>False
def ACalls (P:Program) (f:FuncId) (args:List AV) (s:St) (R:AV->St->Prop):Prop:=
 ∀ (a:Gh) (d:World) (e:List Value),Sim a s d->RepL a args e ->
  CallOk P f e.toArray d fun h g=>∃ av b c,Stp a s d b c g/\Sim b c g/\Rep b av h/\R av c
theorem CallOk.mono {P:Program} {f:FuncId} {b:Array Value} {w:World} {R a:Value->World->Prop} (h:CallOk P f b w R) (d:∀ v w',R v w'->a v w'):CallOk P f b w a:=by
 unfold CallOk at h ⊢;split at h
 ·exact h.mono fun e w' c=>by cases e <;> first | exact d _ _ c | exact c
 ·exact d _ _ h
 ·exact h
theorem ACalls.mono {P:Program} {f:FuncId} {args:List AV} {s:St} {R a:AV->St->Prop} (h:ACalls P f args s R) (m:∀ v s',s.c<=s'.c->R v s'->a v s'):ACalls P f args s a:=
 fun c q p l o=>(h c q p l o).mono fun v t ⟨av,d,s',b,e,g,k⟩=>⟨av,d,s',b,e,g,m av s' b.c k⟩
def dh (md:Md) (sl:Slots) (xs:List X):List AV:=if md=.asis then xs.map (·.ev sl) else xs.map fun a=>norm (a.ev sl)
def opW (P:Program) (o:AO) (sl:Slots) (s:St) (K:AV->St->Prop):Prop:=match o.i with
 | .call a c=>ACalls P a (dh o.md sl c) s K
 | .callv b c=>match b.ev sl with
  | .fn (.func a) e g=>ACalls P a (e++dh o.md sl c++g) s K
  | _=>False
 | .bin .slNil h b _=>lK h (b.ev sl) s K
 | .nx b=>nxW (b.ev sl) s K
 | .inv p b c=>match b.ev sl with
  | .ifc m d=>match p.find? fun k=>k.1==m with
   | some (_,a,none)=>ACalls P a (d::dh o.md sl c) s K
   | some (_,a,some f)=>match ldI f d s with
    | some q=>ACalls P a (q::dh o.md sl c) s K
    | none=>False
   | none=>False
  | _=>False
 | i=>match aO i o.md sl s with
  | some (d,l)=>K d l
  | none=>False
def fG (a:Nat×Option (Nat×Bool)×I) (sl:Slots) (s:St):Prop:=gdI a.2.1 sl=some false\/(gdI a.2.1 sl=some true/\aO a.2.2 .plain sl s=some (sl a.1,s))
def aQ (P:Program):List AO->(Slots->St->Prop)->Slots->St->Prop
 | [],c,a,s=>c a s
 | b::r,c,a,s=>match gdI b.grd a with
  | some false=>aQ P r c (put a b.dst (.tup [])) s
  | some true=>opW P b a s fun g f=>match dt b.md g f with
   | some (h,d)=>(∀ e∈b.re,fG e a d)/\aQ P r c (put a b.dst h) d
   | none=>False
  | none=>False
def AO.cut (a:AO) (r:List AO):AO:={ a with re:=a.re.filter fun c=>r.all fun b=>b.dst != some c.1 }
def cE (P:Program) (a:AO) (post:List AO) (K:Slots->St->Prop):List (Bool×AO)->Slots->St->Prop
 | [],b,s=>aQ P (a::post) K b s
 | (d,c)::r,b,s=>(d=true->aQ P (a.cut (c::r.map (·.2))::c::(r.map (·.2)++post)) K b s)/\aQ P [c] (cE P a post K r) b s
inductive Ex where
 | normal
 | exit (id:Nat)
 | ret
def fV (F:(Ex->Slots->St->Prop)->Slots->St->Prop) (Q:Ex->Slots->St->Prop):Nat->Slots->St->Prop
 | 0,_,_=>False
 | n+1,d,s=>F (fun a c b=>match a with | .normal=>fV F Q n c b | a=>Q a c b) d s
def acW (P:Program):AC->(Ex->Slots->St->Prop)->Slots->St->Prop
 | .skip,a,b,s=>a .normal b s
 | .ops k,a,b,s=>aQ P k (a .normal) b s
 | .roam c pre l,a,b,s=>cE P c l (a .normal) pre b s
 | .seq c g,a,b,s=>acW P c (fun d f e=>match d with | .normal=>acW P g a f e | d=>a d f e) b s
 | .cond h c g,a,b,s=>match h.ev b with
  | .sc (.bool m)=>if m=true then acW P c a b s else acW P g a b s
  | _=>False
 | .block id c,a,b,s=>acW P c (fun d f e=>match d with | .exit i=>if i=id then a .normal f e else a (.exit i) f e | d=>a d f e) b s
 | .loop c,a,b,s=>∃ n,fV (acW P c) a n b s
 | .exit id,a,b,s=>a (.exit id) b s
 | .ret,a,b,s=>a .ret b s
def cX:Operand->Option X
 | .tmp b=>some (.t b)
 | .const c=>some (.c (ofValue c))
 | .func a=>some (.f a)
 | .global _=>none
def cXs (l:Array Operand):Option (List X):=l.toList.mapM cX
def cXo:Option Operand->Option (Option X)
 | none=>some none
 | some a=>(cX a).map some
def zD:Operand->Bool
 | .const (.slice none 0 0)=>true
 | _=>false
def zC:Operand->Bool
 | .const (.map none)=>true
 | _=>false
def cBk (P:Program) (op:BinOp) (t:TypeId) (y:Operand):Option BK:=match P.underlying t with
 | some (.int _) | some .string=>some .sc
 | some .bool=>some .bl
 | some (.pointer _)=>some .pn
 | some (.struct _)=>match iu P t with
  | some a=>if P.eqGuardType P.depth t=false then some (.eqAgg a) else none
  | none=>none
 | some (.slice _)=>if zD y=true then some .slNil else none
 | some (.map _ _)=>if zC y=true then some .mpNil else none
 | _=>none
def cCv (P:Program) (c dst:TypeId):Option CK:=match P.underlying c,P.underlying dst with
 | some (.int _),some (.int b)=>some (.int b)
 | some (.int _),some .string=>some .i2s
 | some .string,some .string=>some .same
 | some (.slice a),some .string=>match P.underlying a with
  | some (.int .u8)=>some .b2s
  | _=>none
 | _,_=>none
def tZv (P:Program) (e:TypeId):Option Value:=(P.info? e).bind (·.zero)
def oa (P:Program) (t:TypeId) (name:String):Option (FuncId×Option (Option Nat)):=match P.info? t with
 | some i=>match i.methods.find? (·.name==name) with
  | some b=>if b.path.toList=[] then match b.func with
   | some (a,true)=>match P.underlying t with
    | some (.pointer _)=>some (a,none)
    | _=>none
   | some (a,false)=>match P.underlying t with
    | some (.pointer d)=>(tAg P d).map fun c=>(a,some c)
    | some _=>some (a,none)
    | none=>none
   | none=>none
   else none
  | none=>none
 | none=>none
def pW (P:Program) (name:String):List (TypeId×FuncId×Option (Option Nat)):=(List.range P.types.size).filterMap fun a=>(oa P a name).map fun b=>(a,b)
def aS (P:Program) (o:Oper):Option I:=match o.op with
 | .move a | .assign a=>(cX a).map .mv
 | .pick e f k=>match cX e,cX f,cX k with
  | some e,some f,some k=>some (.pk e f k)
  | _,_,_=>none
 | .alloc d=>(gh P d).map fun H=>.al H.1
 | .box d a=>match tSz P d,cX a with
  | some n,some a=>some (.bx a n)
  | _,_=>none
 | .build b G=>match gh P b,qL P b with
  | some (h,_),some pl=>if h.all AV.cell=true then (G.toList.mapM fun (v:Nat×Operand)=>match pl[v.1]?,cX v.2 with
    | some (o,n),some a=>some (o,n,a)
    | _,_=>none).map (.bd h) else none
  | _,_=>none
 | .buildSlice b n G=>match eI P b with
  | some (d,i)=>match gh P d with
   | some (h,_)=>if n*i.size<=2 ^ 24 then (G.toList.mapM fun (v:Nat×Operand)=>(cX v.2).map fun a=>(v.1,a)).map (.bs i.size h n) else none
   | none=>none
  | none=>none
 | .load b a=>match tAg P b,cX a with
  | some z,some a=>some (.ld z a)
  | _,_=>none
 | .store b f a=>match tSz P b,cX f,cX a with
  | some n,some f,some a=>some (.st n f a)
  | _,_,_=>none
 | .nilCheck a=>(cX a).map .nc
 | .binOp x b a y _=>match cBk P x b y,cX a,cX y with
  | some c,some a,some y=>some (.bin c x a y)
  | _,_,_=>none
 | .unOp x _ a=>(cX a).map (.un x)
 | .convert N J a=>match cCv P N J,cX a with
  | some c,some a=>some (.cv c a)
  | _,_=>none
 | .makeFunc (.func l) f k=>match cXs f,cXs k with
  | some f,some k=>some (.mf l f k)
  | _,_=>none
 | .makeSlice b p e=>match eI P b with
  | some (d,i)=>match gh P d,cX p,cX e with
   | some (h,_),some p,some e=>some (.ms i.size h i.bytes p e)
   | _,_,_=>none
  | none=>none
 | .slice b a w u mx=>match cX a,cXo w,cXo u,cXo mx with
  | some a,some w,some u,some mx=>match P.underlying b with
   | some .string=>if mx.isNone then some (.ss a w u) else none
   | some (.slice d)=>match P.info? d with
    | some i=>if mx.isSome=true->u.isSome=true then some (.sr i.size a w u mx) else none
    | none=>none
   | _=>none
  | _,_,_,_=>none
 | .fieldAddr b a l=>match zr P b l,cX a with
  | some off,some a=>some (.fa off a)
  | _,_=>none
 | .field b a l=>match tFd P b l,cX a with
  | some (z,off),some a=>some (.fd z off a)
  | _,_=>none
 | .indexAddr b a i=>match eI P b,cX a,cX i with
  | some (_,Q),some a,some i=>some (.ia Q.size a i)
  | _,_,_=>none
 | .index b a i=>match P.underlying b,cX a,cX i with
  | some .string,some a,some i=>some (.ix a i)
  | _,_,_=>none
 | .extract a i=>(cX a).map (.ex · i)
 | .makeMap _ none=>some .mm
 | .lookup b a c ok=>match P.underlying b,cX a,cX c with
  | some (.map m K),some a,some c=>match fN P m,tZv P K with
   | some M,some H=>some (.lk M (ofValue H) ok a c)
   | _,_=>none
  | _,_,_=>none
 | .panic _=>some (.ex (.c .undef) 0)
 | .mapUpdate b g c q=>match P.underlying b,cX g,cX c,cX q with
  | some (.map m _),some g,some c,some q=>(fN P m).map (.mu · g c q)
  | _,_,_,_=>none
 | .insert b g c q=>match P.underlying b,cX g,cX c,cX q with
  | some (.map m _),some g,some c,some q=>(fN P m).map (.mu · g c q)
  | _,_,_,_=>none
 | .range b a=>match P.underlying b,cX a with
  | some (.map _ _),some a=>some (.rg a)
  | _,_=>none
 | .next D false=>(cX D).map .nx
 | .entry D=>(cX D).map .nt
 | .makeInterface b a=>match P.underlying b,cX a with
  | some (.interface _),_=>none
  | some _,some a=>some (.mi b a)
  | _,_=>none
 | .typeAssert a _ b false=>match P.underlying b,cX a with
  | some (.interface _),_=>none
  | some _,some a=>some (.ta b a)
  | _,_=>none
 | .call e=>match e.callee,cXs e.args with
  | .value (.func l),some t=>some (.call l t)
  | .value a,some t=>(cX a).map (.callv · t)
  | .invoke r name,some t=>(cX r).map (.inv (pW P name) · t)
  | .builtin .len,some [a]=>match e.argTypes[0]? with
   | some b=>(zt P b).map (.len · a)
   | none=>none
  | .builtin .append,some [C,a]=>match e.argTypes.toList with
   | [b,O]=>if b=O then (ql P b).map fun d=>.ap d.2.size d.2.bytes C a else none
   | _=>none
  | .builtin .copy,some [C,a]=>match e.argTypes[0]? with
   | some b=>(eI P b).map fun d=>.cp d.2.size C a
   | none=>none
  | .builtin .delete,some [g,c]=>match e.argTypes[0]? with
   | some b=>match P.underlying b with
    | some (.map m _)=>(fN P m).map (.dl · g c)
    | _=>none
   | none=>none
  | .builtin .clear,some [a]=>match e.argTypes[0]? with
   | some b=>match eI P b with
    | some (d,i)=>match gh P d with
     | some (h,_)=>some (.cl i.size h a)
     | none=>none
    | none=>none
   | none=>none
  | .builtin .max,some p=>some (.mx p)
  | .builtin .min,some p=>some (.mn p)
  | _,_=>none
 | _=>none
def cOp (P:Program) (o:Oper):Option I:=some ((aS P o).getD (.ex (.c .undef) 0))
def cD (P:Program) (n:Nat) (md:Tmp->Md) (c:Array Oper) (o:Oper):Option AO:=
 match cOp P o,o.dst with
 | some i,none=>match o.guard with
  | none=>some { dst:=none,grd:=none,md:=.plain,i,re:=[] }
  | some _=>none
 | some i,some a=>if a<n then match o.guard with
  | none=>some { dst:=some a,grd:=none,md:=md a,i,re:=[] }
  | some (j,b)=>match (c[j]?).bind (·.dst) with
   | some d=>some { dst:=some a,grd:=some (d,b),md:=md a,i,re:=[] }
   | none=>none
  else none
 | none,_=>none
def RepSl (G:Gh) (sl:Slots) (a:Act):Prop:=∀ b,Rep G (sl b) (a.tmps.getD b undef)
theorem RepSl.mono {G b:Gh} (c:G.Le b) {sl:Slots} {a:Act} (h:RepSl G sl a):RepSl b sl a:=fun d=>(h d).mono c
theorem bh {G:Gh} {sl:Slots} {a:Act} (h:RepSl G sl a) {x:Operand} {y:X} (b:cX x=some y):Rep G (y.ev sl) (a.eval x):=by
 cases x with
 | tmp e=>simp only [cX] at b; injection b with b; subst b; exact h e
 | const c=>simp only [cX] at b; injection b with b; subst b; exact gD G c
 | global g=>simp [cX] at b
 | func f=>simp only [cX] at b; injection b with b; subst b; exact .fn _ [] [] #[] #[] rfl rfl (fun j d c h=>by simp at h) (fun j d c h=>by simp at h)
theorem fW {g h:Type} {f:g->Option h}:∀ {l:List g} {r:List h},l.mapM f=some r->l.length=r.length/\∀ (j:Nat) x y,l[j]?=some x->r[j]?=some y->f x=some y
 | [],r,a=>by simp at a; subst a; exact ⟨rfl,fun j x y a=>by simp at a⟩
 | k::l,r,a=>by
  rw [v1] at a;cases b:f k with
  | none=>simp [b] at a
  | some p=>
   cases c:l.mapM f with
   | none=>simp [b,c] at a
   | some bs=>
    simp [b,c] at a;subst a;obtain ⟨m,o⟩:=fW c;refine ⟨by simp [m],fun j x y d e=>?_⟩
    cases j with
    | zero=>simp at d e; subst d; subst e; exact b
    | succ j=>exact o j x y (by simpa using d) (by simpa using e)
theorem mX {G:Gh} {sl:Slots} {a:Act} (h:RepSl G sl a) {xs:Array Operand} {ys:List X} (o:cXs xs=some ys):RepL G (ys.map (·.ev sl)) (xs.map a.eval).toList:=by
 obtain ⟨e,f⟩:=fW o;refine ⟨by simp [<-e],fun j t u c k=>?_⟩
 rw [rb] at c;cases b:ys[j]? with
 | none=>simp [b] at c
 | some m=>
  simp [b] at c; subst c;have g:j<xs.toList.length:=by rw [e]; exact (q4.1 b).1
  have d:=q3 g;have:=f j _ m d b;simp at k;obtain ⟨q,l,p⟩:=k;have:xs.toList[j]=q:=by simp at d l ⊢; have:=l; rw [rm (by simpa using g)] at this; exact ty this
  subst p;rw [<-this];exact bh h (f j _ m d b)
theorem jX {G:Gh} {sl:Slots} {a:Act} (h:RepSl G sl a) {x:Option Operand} {y:Option X} (b:cXo x=some y):gM G (y.map (·.ev sl)) (x.map a.eval):=by
 cases x with
 | none=>simp only [cXo] at b; injection b with b; subst b; exact ⟨rfl,fun a f h=>by simp at h⟩
 | some x=>
  simp only [cXo] at b;cases c:cX x with
  | none=>simp [c] at b
  | some k=>
   simp [c] at b; subst b;exact ⟨rfl,fun g f d e=>by simp at d e; subst d; subst e; exact bh h c⟩
end Go.AM
