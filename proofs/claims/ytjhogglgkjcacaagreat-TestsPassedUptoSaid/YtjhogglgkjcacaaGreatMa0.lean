/- Part of the claim: see its last text. -/
import Derived.Calls
import Derived.Tactics
import Derived.Laws.Sem
import Derived.Laws.World
import Derived.Laws.Cells
import Derived.Laws.Append
import Derived.Laws.Tables
import Derived.Laws.Rows
set_option linter.all false
namespace Go.AM
inductive AV where
 | undef
 | sc (v:Value)
 | agg (cs:List AV)
 | tup (vs:List AV)
 | ptr (g e o:Nat)
 | zp (cs:List AV) (o:Nat)
 | row (g sz off len:Nat)
 | sl (es:List (List AV)) (full:Bool)
 | map (g:Nat)
 | fn (f:Fn) (first captured:List AV)
 | ifc (t:TypeId) (v:AV)
 deriving Inhabited
abbrev AV.int (n:Int):AV:=.sc (.int .i64 n)
abbrev AV.u8 (n:Int):AV:=.sc (.int .u8 n)
abbrev AV.bool (b:Bool):AV:=.sc (.bool b)
abbrev AV.str (s:ByteArray):AV:=.sc (.string s)
abbrev AV.nilp:AV:=.sc (.pointer none)
abbrev AV.nil:AV:=.sl [] true
def iH:Value→Bool
 | .bool _ | .int .. | .float .. | .complex .. | .string _ | .pointer none | .map none | .chan none | .nilFunc | .nilIface | .slice none 0 0=>true
 | _=>false
def iE:Value→AV
 | .slice none 0 0=>.sl [] true
 | .func (.func f) fs cs=>if fs.size=0∧cs.size=0 then .fn (.func f) [] [] else .undef
 | v=>if iH v then .sc v else .undef
def ofValue:Value→AV
 | .agg cs=>.agg (cs.toList.map iE)
 | v=>iE v
mutual
def norm:AV→AV
 | .agg cs=>.agg (aQ cs)
 | .tup vs=>.tup (aQ vs)
 | .sl es _=>.sl (aP es) false
 | v=>v
def aQ:List AV→List AV
 | []=>[]
 | v::vs=>norm v::aQ vs
def aP:List (List AV)→List (List AV)
 | []=>[]
 | e::es=>aQ e::aP es
end
def AV.cell:AV→Bool
 | .undef | .agg _ | .tup _=>false
 | _=>true
def AV.cells:AV→List AV
 | .agg cs=>cs
 | v=>[v]
def AV.val:AV→Bool
 | .undef | .tup _=>false
 | .agg cs=>cs.all AV.cell
 | _=>true
inductive RSt where
 | live
 | lent (k:Nat)
 | frz
 deriving Inhabited,DecidableEq
inductive Body where
 | row (sz:Nat) (es:List (List AV)) (st:RSt) (par:Option Nat)
 | map (kv:List (AV×AV)) (ver:Nat)
 | iter (m ver:Nat) (done:List Nat)
 deriving Inhabited
abbrev Heap:=Nat→Option Body
structure St where
 h:Heap
 c:Nat
def upd (h:Heap) (g:Nat) (b:Option Body):Heap:=fun k=>if k=g then b else h k
def retH (c0:Nat) (h0 h:Heap):Heap:=fun k=>if k<c0 then h k else h0 k
inductive X where
 | t (n:Nat)
 | c (v:AV)
 | f (n:Nat)
 deriving Inhabited
inductive Md where
 | plain | fz | mut | asis | fork | nl
 | ph (sz:Nat)
 deriving Inhabited,DecidableEq
inductive CK where
 | int (k:IntKind)
 | same
 | i2s
 | b2s
 | s2b
 deriving Inhabited,DecidableEq
inductive FK where
 | int | str | bool
 deriving Inhabited,DecidableEq
inductive KK where
 | one (k:FK)
 | agg (ks:List FK)
 deriving Inhabited,DecidableEq
inductive BK where
 | sc
 | bl
 | pn
 | eqAgg (ks:List FK)
 | slNil
 | mpNil
 deriving Inhabited,DecidableEq
inductive I where
 | mv (x:X)
 | pk (c a b:X)
 | bx (x:X) (sz:Nat)
 | al (zs:List AV)
 | bd (zs:List AV) (ps:List (Nat×Nat×X))
 | bs (sz:Nat) (zs:List AV) (n:Nat) (ps:List (Nat×X))
 | ld (ag:Option Nat) (x:X)
 | st (n:Nat) (a x:X)
 | nc (x:X)
 | bin (k:BK) (op:BinOp) (x y:X)
 | un (op:UnOp) (x:X)
 | cv (k:CK) (x:X)
 | mf (f:Nat) (first cap:List X)
 | mm
 | ms (sz:Nat) (zs:List AV) (bytes:Nat) (l c:X)
 | ss (x:X) (lo hi:Option X)
 | sr (sz:Nat) (x:X) (lo hi mx:Option X)
 | fa (off:Nat) (x:X)
 | fd (ag:Option Nat) (off:Nat) (x:X)
 | ia (sz:Nat) (x i:X)
 | ix (x i:X)
 | lk (kk:KK) (z:AV) (ok:Bool) (m k:X)
 | mu (kk:KK) (m k v:X)
 | rg (m:X)
 | nx (it:X)
 | nt (it:X)
 | ex (x:X) (i:Nat)
 | len (k:Nat) (x:X)
 | ap (sz bytes:Nat) (s x:X)
 | cp (sz:Nat) (d s:X)
 | mx (l:List X)
 | mn (l:List X)
 | dl (kk:KK) (m k:X)
 | cl (sz:Nat) (zs:List AV) (x:X)
 | mi (t:TypeId) (x:X)
 | call (f:Nat) (args:List X)
 | callv (x:X) (args:List X)
 | inv (tab:List (TypeId×FuncId×Option (Option Nat))) (x:X) (args:List X)
 | ta (t:TypeId) (x:X)
 deriving Inhabited
structure AO where
 dst:Option Nat
 grd:Option (Nat×Bool)
 md:Md
 i:I
 re:List (Nat×Option (Nat×Bool)×I)
 deriving Inhabited
inductive AC where
 | skip
 | ops (l:List AO)
 | roam (a:AO) (pre:List (Bool×AO)) (post:List AO)
 | seq (a b:AC)
 | cond (c:X) (a b:AC)
 | block (id:Nat) (a:AC)
 | loop (a:AC)
 | exit (id:Nat)
 | ret
 deriving Inhabited
abbrev Slots:=Nat→AV
def put (sl:Slots) (d:Option Nat) (v:AV):Slots:=match d with
 | some d=>fun k=>if k=d then v else sl k
 | none=>sl
def X.ev (sl:Slots):X→AV
 | .t n=>sl n
 | .c v=>v
 | .f n=>.fn (.func n) [] []
def cG (ag:Option Nat) (cs:List AV) (o:Nat):Option AV:=match ag with
 | some n=>if o+n≤cs.length then some (.agg ((cs.drop o).take n)) else none
 | none=>cs[o]?
def St.elem (s:St) (g e:Nat):Option (List AV):=match s.h g with
 | some (.row _ es _ _)=>es[e]?
 | _=>none
def ldI (ag:Option Nat) (a:AV) (s:St):Option AV:=match a with
 | .ptr g e o=>(s.elem g e).bind (cG ag · o)
 | .zp cs o=>cG ag cs o
 | _=>none
def cZ (cs:List AV) (o:Nat) (vs:List AV):List AV:=cs.take o++vs++cs.drop (o+vs.length)
def stI (n:Nat) (a v:AV) (s:St):Option St:=match a with
 | .ptr g e o=>match s.h g with
  | some (.row sz es .live none)=>match es[e]? with
   | some cs=>if v.cells.length=n∧v.cells.all AV.cell=true∧o+n≤cs.length then
     some { s with h:=upd s.h g (some (.row sz (es.set e (cZ cs o v.cells)) .live none)) } else none
   | none=>none
  | _=>none
 | _=>none
def newRow (sz:Nat) (es:List (List AV)) (s:St):St:={ h:=upd s.h s.c (some (.row sz es .live none)),c:=s.c+1 }
def aA (sz:Nat) (cs:List AV):Bool:=cs.length==sz&&cs.all AV.cell
def jL (v:AV) (sz:Nat) (s:St):Option (AV×St):=
 if 0<sz∧aA sz v.cells=true then some (.ptr s.c 0 0,newRow sz [v.cells] s) else none
def aI:List AV→List (Nat×Nat×AV)→Option (List AV)
 | cs,[]=>some cs
 | cs,(off,n,v)::ps=>if v.cells.length=n∧v.cells.all AV.cell=true∧off+n≤cs.length then aI (cZ cs off v.cells) ps else none
def an (sz:Nat):List (List AV)→List (Nat×AV)→Option (List (List AV))
 | es,[]=>some es
 | es,(i,v)::ps=>if aA sz v.cells=true∧i<es.length then an sz (es.set i v.cells) ps else none
def bsI (sz:Nat) (zs:List AV) (n:Nat) (ps:List (Nat×AV)) (md:Md) (s:St):Option (AV×St):=
 if 0<sz∧aA sz zs=true∧n≤68719476736 then
  match an sz (List.replicate n zs) ps with
  | some es=>if md=.mut then some (.row s.c sz 0 n,newRow sz es s) else some (.sl es true,s)
  | none=>none
 else none
def dS (op:BinOp) (k:IntKind) (a b:Int):Option Value:=match op with
 | .add=>some (.int k (k.wrap (a+b)))
 | .sub=>some (.int k (k.wrap (a-b)))
 | .mul=>some (.int k (k.wrap (a*b)))
 | .quo=>if b=0 then none else some (.int k (k.wrap (a.tdiv b)))
 | .rem=>if b=0 then none else some (.int k (a.tmod b))
 | .eql=>some (.bool (a==b))
 | .neq=>some (.bool (a != b))
 | .lss=>some (.bool (a<b))
 | .leq=>some (.bool (a≤b))
 | .gtr=>some (.bool (a>b))
 | .geq=>some (.bool (a≥b))
 | .and=>some (.int k (k.wrap (BitVec.ofInt k.bits a &&& BitVec.ofInt k.bits b).toNat))
 | .or=>some (.int k (k.wrap (BitVec.ofInt k.bits a ||| BitVec.ofInt k.bits b).toNat))
 | .xor=>some (.int k (k.wrap (BitVec.ofInt k.bits a ^^^ BitVec.ofInt k.bits b).toNat))
 | .andNot=>some (.int k (k.wrap (BitVec.ofInt k.bits a &&& ~~~BitVec.ofInt k.bits b).toNat))
 | .shl | .shr=>none
def u5 (op:BinOp) (k:IntKind) (a b:Int):Option Value:=
 if b<0 then none else match op with
 | .shl=>some (.int k (k.wrap (a*2 ^ (min b.toNat k.bits))))
 | .shr=>some (.int k (a.fdiv (2 ^ (min b.toNat k.bits))))
 | _=>none
def dA (op:BinOp) (x y:ByteArray):Option Value:=match op with
 | .add=>if ((x.size+y.size:Nat):Int)>IntKind.i64.max then none else some (.string (x++y))
 | .eql=>some (.bool (x.toList==y.toList))
 | .neq=>some (.bool !(x.toList==y.toList))
 | .lss=>some (.bool (Op.bytesLess x.toList y.toList))
 | .leq=>some (.bool (Op.bytesLess x.toList y.toList||x.toList==y.toList))
 | .gtr=>some (.bool !(Op.bytesLess x.toList y.toList||x.toList==y.toList))
 | .geq=>some (.bool !(Op.bytesLess x.toList y.toList))
 | _=>none
def eC (op:BinOp):Value→Value→Option Value
 | .int k a,.int k' b=>match op with
  | .shl | .shr=>u5 op k a b
  | _=>if k=k' then dS op k a b else none
 | .string a,.string b=>dA op a b
 | _,_=>none
def iO (op:BinOp):Value→Value→Option Value
 | .bool a,.bool b=>match op with
  | .eql=>some (.bool (a==b))
  | .neq=>some (.bool !(a==b))
  | _=>none
 | _,_=>none
def np:AV→Option Bool
 | .sc (.pointer none)=>some true
 | .ptr .. | .zp ..=>some false
 | _=>none
def iB (op:BinOp) (b:Bool):Option AV:=match op with
 | .eql=>some (.bool b)
 | .neq=>some (.bool !b)
 | _=>none
def gF:FK→AV→AV→Option Bool
 | .int,.sc (.int k a),.sc (.int k' b)=>if k=k' then some (a==b) else none
 | .str,.sc (.string a),.sc (.string b)=>some (decide (a=b))
 | .bool,.sc (.bool a),.sc (.bool b)=>some (a==b)
 | _,_,_=>none
def cq:List FK→List AV→List AV→Option Bool
 | [],[],[]=>some true
 | k::ks,a::as,b::bs=>match gF k a b,cq ks as bs with
  | some x,some y=>some (x&&y)
  | _,_=>none
 | _,_,_=>none
def tl:AV→Option Bool
 | .sc (.map none)=>some true
 | .map _=>some false
 | _=>none
def eL (k:BK) (op:BinOp) (x y:AV):Option AV:=match k with
 | .sc=>match x,y with
  | .sc a,.sc b=>(eC op a b).map .sc
  | _,_=>none
 | .bl=>match x,y with
  | .sc a,.sc b=>(iO op a b).map .sc
  | _,_=>none
 | .pn=>match np x,np y with
  | some true,some b=>iB op b
  | some false,some true=>iB op false
  | _,_=>none
 | .eqAgg ks=>match x,y with
  | .agg as,.agg bs=>(cq ks as bs).bind (iB op)
  | _,_=>none
 | .slNil=>none
 | .mpNil=>(tl x).bind (iB op)
def unI (op:UnOp):AV→Option AV
 | .sc (.int k n)=>match op with
  | .neg=>some (.sc (.int k (k.wrap (0-n))))
  | .xor=>some (.sc (.int k (k.wrap (BitVec.ofInt k.bits (if k.signed then -1 else k.max) ^^^ BitVec.ofInt k.bits n).toNat)))
  | _=>none
 | .sc (.bool b)=>match op with
  | .not=>some (.bool !b)
  | _=>none
 | _=>none
def St.show_ (s:St):AV→Option (List (List AV))
 | .row g _ off len=>match s.h g with
  | some (.row _ es _ _)=>if off+len≤es.length then some ((es.drop off).take len) else none
  | _=>none
 | .sl es _=>some es
 | _=>none
def pZ:List AV→Option UInt8
 | [.sc (.int .u8 n)]=>some (UInt8.ofNat n.toNat)
 | _=>none
def fQ:List (List AV)→Option (List UInt8)
 | []=>some []
 | c::cs=>match pZ c,fQ cs with
  | some b,some bs=>some (b::bs)
  | _,_=>none
def dW (x:AV) (sz:Nat):Bool:=match x with
 | .row _ z _ _=>z==sz
 | _=>true
def cvI (k:CK) (x:AV) (s:St):Option AV:=match k,x with
 | .int k,.sc (.int _ n)=>some (.sc (.int k (k.wrap n)))
 | .same,.sc (.string a)=>some (.sc (.string a))
 | .i2s,.sc (.int _ n)=>some (.sc (.string (Utf8.encode n)))
 | .b2s,x=>if dW x 1=true then (s.show_ x).bind fun es=>(fQ es).map fun l=>.sc (.string ⟨l.toArray⟩) else none
 | _,_=>none
def asI:AV→Option Int
 | .sc (.int _ n)=>some n
 | _=>none
def bnd (x:Option AV) (d:Nat) (most:Nat):Option Nat:=match x with
 | none=>some d
 | some v=>match asI v with
  | some n=>if 0≤n∧n≤most then some n.toNat else none
  | none=>none
def ssI (x:AV) (lo hi:Option AV):Option AV:=match x with
 | .sc (.string s)=>match bnd hi s.size s.size with
  | some h=>match bnd lo 0 h with
   | some l=>some (.sc (.string (s.extract l h)))
   | none=>none
  | none=>none
 | _=>none
def srI (sz:Nat) (x:AV) (lo hi mx:Option AV):Option AV:=match x with
 | .row g sz' off len=>if sz=sz' then match mx with
  | none=>match bnd hi len len with
   | some h=>match bnd lo 0 h with
    | some l=>some (.row g sz (off+l) (h-l))
    | none=>none
   | none=>none
  | some _=>match bnd mx len len with
   | some m=>match bnd hi len m with
    | some h=>match bnd lo 0 h with
     | some l=>if l=m then some (.sl [] true) else none
     | none=>none
    | none=>none
   | none=>none
  else none
 | .sl es full=>if es.all (fun e=>e.length==sz)=true then match mx with
  | none=>match bnd hi es.length es.length with
   | some h=>match bnd lo 0 h with
    | some l=>some (.sl ((es.take h).drop l) (full&&h==es.length))
    | none=>none
   | none=>none
  | some _=>match bnd mx es.length es.length with
   | some m=>match bnd hi es.length m with
    | some h=>match bnd lo 0 h with
     | some l=>if h=m then some (.sl ((es.take h).drop l) true) else none
     | none=>none
    | none=>none
   | none=>none
  else none
 | _=>none
def srX (sz:Nat) (x:AV) (lo hi mx:Option AV) (s:St):Option AV:=match x with
 | .row g sz' off len=>if sz=sz' then match mx with
  | none=>match s.h g with
   | some (.row _ es _ _)=>match bnd hi len (es.length-off) with
    | some h=>match bnd lo 0 h with
     | some l=>if h≤68719476736 then some (.row g sz (off+l) (h-l)) else none
     | none=>none
    | none=>none
   | _=>none
  | some _=>match bnd mx len len with
   | some m=>match bnd hi len m with
    | some h=>match bnd lo 0 h with
     | some _=>some .undef
     | none=>none
    | none=>none
   | none=>none
  else none
 | _=>none
def faI (off:Nat):AV→Option AV
 | .ptr g e o=>some (.ptr g e (o+off))
 | .zp cs o=>some (.zp cs (o+off))
 | _=>none
def fdI (ag:Option Nat) (off:Nat):AV→Option AV
 | .agg cs=>cG ag cs off
 | _=>none
def iaI (sz:Nat) (x:AV) (i:AV):Option AV:=match asI i with
 | some n=>match x with
  | .row g sz' off len=>if sz=sz'∧0≤n∧n<len then some (.ptr g (off+n.toNat) 0) else none
  | .sl es _=>if 0≤n then match es[n.toNat]? with
   | some cs=>if cs.length=sz then some (.zp cs 0) else none
   | none=>none
   else none
  | _=>none
 | none=>none
def ixI (x i:AV):Option AV:=match x,asI i with
 | .sc (.string s),some n=>if 0≤n then (s[n.toNat]?).map fun b=>.sc (.int .u8 b.toNat) else none
 | _,_=>none
def fD:KK→AV→AV→Option Bool
 | .one k,a,b=>gF k a b
 | .agg ks,.agg as,.agg bs=>cq ks as bs
 | _,_,_=>none
def dI (kk:KK) (k:AV):List (AV×AV)→Nat→Option (Option Nat)
 | [],_=>some none
 | e::es,i=>match fD kk k e.1 with
  | some true=>some (some i)
  | some false=>dI kk k es (i+1)
  | none=>none
def mW:FK→AV→Bool
 | .int,.sc (.int ..)=>true
 | .str,.sc (.string _)=>true
 | .bool,.sc (.bool _)=>true
 | _,_=>false
def ii:List FK→List AV→Bool
 | [],[]=>true
 | k::ks,a::as=>mW k a&&ii ks as
 | _,_=>false
def lD:KK→AV→Bool
 | .one k,a=>mW k a
 | .agg ks,.agg as=>ii ks as
 | _,_=>false
def iU (kk:KK) (k:AV) (kv:List (AV×AV)):Option (Option Nat):=if lD kk k=true then dI kk k kv 0 else none
def lkI (kk:KK) (z:AV) (ok:Bool) (m k:AV) (s:St):Option AV:=
 match m with
 | .map g=>match s.h g with
  | some (.map kv _)=>match iU kk k kv with
   | some (some i)=>(kv[i]?).map fun p=>if ok then .tup [p.2,.bool true] else p.2
   | some none=>some (if ok then .tup [z,.bool false] else z)
   | none=>none
  | _=>none
 | .sc (.map none)=>if lD kk k=true then some (if ok then .tup [z,.bool false] else z) else none
 | _=>none
def muI (kk:KK) (m k v:AV) (s:St):Option St:=match m with
 | .map g=>match s.h g with
  | some (.map kv _)=>match iU kk k kv with
   | some (some i)=>some { h:=upd s.h g (some (.map (kv.set i (k,v)) s.c)),c:=s.c+1 }
   | some none=>some { h:=upd s.h g (some (.map (kv++[(k,v)]) s.c)),c:=s.c+1 }
   | none=>none
  | _=>none
 | _=>none
def dlI (kk:KK) (m k:AV) (s:St):Option St:=match m with
 | .map g=>match s.h g with
  | some (.map kv _)=>match iU kk k kv with
   | some (some i)=>some { h:=upd s.h g (some (.map (kv.eraseIdx i) s.c)),c:=s.c+1 }
   | some none=>some s
   | none=>none
  | _=>none
 | _=>none
def rgI (m:AV) (s:St):Option (AV×St):=match m with
 | .map g=>match s.h g with
  | some (.map _ ver)=>some (.ptr s.c 0 0,{ h:=upd s.h s.c (some (.iter g ver [])),c:=s.c+1 })
  | _=>none
 | _=>none
def ntI (it:AV) (s:St):Option AV:=match it with
 | .ptr g 0 0=>match s.h g with
  | some (.iter m ver done)=>match s.h m,done.getLast? with
   | some (.map kv ver'),some i=>if ver'=ver then (kv[i]?).map fun p=>.tup [p.1,p.2] else none
   | _,_=>none
  | _=>none
 | _=>none
def Heap.gone (h:Heap) (k:Nat):Bool:=match h k with
 | some (.row _ _ .live _)=>true
 | some (.row _ _ (.lent j) _)=>match h j with
  | some (.row ..)=>false
  | _=>true
 | some (.row _ _ .frz _)=>false
 | _=>true
def pC (g sz:Nat) (es xs:List (List AV)) (st:RSt) (par:Option Nat) (s:St):Option (AV×St):=
 let mk (h:Heap):Option (AV×St):=some (.row s.c sz 0 (es.length+xs.length),
  { h:=upd (upd h g (some (.row sz es (.lent s.c) par))) s.c (some (.row sz (es++xs) .live (some g))),c:=s.c+1 })
 match st with
 | .live=>mk s.h
 | .lent k=>if s.h.gone k=true then mk (upd s.h k none) else none
 | .frz=>none
def apI (sz bytes:Nat) (md:Md) (d x:AV) (s:St):Option (AV×St):=
 match s.show_ x with
 | none=>none
 | some xs=>if 0<sz∧0<bytes∧xs.all (aA sz)=true∧dW x sz=true then match d with
  | .sl es full=>
   if full=true then
    if xs.isEmpty&&!es.isEmpty then some (.sl es true,s)
    else if es.all (aA sz)=true∧es.length+xs.length≤68719476736∧bytes≤2048 then some (.row s.c sz 0 (es.length+xs.length),newRow sz (es++xs) s) else none
   else if xs.isEmpty then some (.sl es false,s) else none
  | .row g sz' off len=>match s.h g with
   | some (.row sz'' es st par)=>if sz=sz'∧sz=sz''∧off=0∧len+xs.length≤68719476736∧bytes≤2048 then
     if len=es.length then
      if md=.fork then pC g sz es xs st par s
      else if st=.live∧par=none then some (.row s.c sz 0 (es.length+xs.length),{ h:=upd (upd s.h g none) s.c (some (.row sz (es++xs) .live none)),c:=s.c+1 })
      else none
     else if len+xs.length≤es.length∧st=.live∧par=none then
      some (.row g sz 0 (len+xs.length),{ s with h:=upd s.h g (some (.row sz (es.take len++xs++es.drop (len+xs.length)) .live none)) })
     else none
    else none
   | _=>none
  | _=>none
  else none
def cpI (sz:Nat) (d x:AV) (s:St):Option (AV×St):=
 match s.show_ x,d with
 | some xs,.row g sz' off len=>match s.h g with
  | some (.row sz'' es .live none)=>if 0<sz∧sz=sz'∧sz=sz''∧xs.all (aA sz)=true∧dW x sz=true∧off+len≤es.length then
    let ys:=xs.take len
    some (.int ys.length,{ s with h:=upd s.h g (some (.row sz (es.take off++ys++es.drop (off+ys.length)) .live none)) }) else none
  | _=>none
 | _,_=>none
def clI (sz:Nat) (zs:List AV) (x:AV) (s:St):Option St:=match x with
 | .row g sz' off len=>match s.h g with
  | some (.row sz'' es .live none)=>if 0<sz∧sz=sz'∧sz=sz''∧aA sz zs=true∧off+len≤es.length then
    some { s with h:=upd s.h g (some (.row sz (es.take off++List.replicate len zs++es.drop (off+len)) .live none)) } else none
  | _=>none
 | .sl [] _=>some s
 | _=>none
def msI (sz:Nat) (zs:List AV) (bytes:Nat) (l c:AV) (s:St):Option (AV×St):=match asI l,asI c with
 | some l,some c=>if 0<sz∧aA sz zs=true∧0≤l∧l≤c∧c≤68719476736∧bytes≤2048 then
   some (.row s.c sz 0 l.toNat,newRow sz (List.replicate l.toNat zs) s) else none
 | _,_=>none
def dT (k:Nat) (x:AV) (s:St):Option AV:=match k,x with
 | 0,.sc (.string b)=>some (.int b.size)
 | 1,.sl es _=>some (.int es.length)
 | 1,.row _ _ _ len=>some (.int len)
 | 2,.map g=>match s.h g with
  | some (.map kv _)=>some (.int kv.length)
  | _=>none
 | 2,.sc (.map none)=>some (.int 0)
 | _,_=>none
def gq (f:Int→Int→Int):List AV→Option AV
 | .sc (.int k a)::vs=>vs.foldlM (fun x v=>match x,v with
   | .sc (.int k a),.sc (.int _ b)=>some (.sc (.int k (f a b)))
   | _,_=>none) (.sc (.int k a))
 | _=>none
def exI (x:AV) (i:Nat):Option AV:=match x with
 | .tup vs=>vs[i]?
 | _=>none
def mvI (md:Md) (x:X) (sl:Slots):AV:=match md,x with
 | .nl,.c (.sl [] true)=>.sc (.slice none 0 0)
 | _,_=>x.ev sl
def aH (i:I) (md:Md) (sl:Slots) (s:St):Option (AV×St):=
 let rd (v:Option AV):Option (AV×St):=v.map (·,s)
 match i with
 | .mv x=>some (mvI md x sl,s)
 | .pk c a b=>match c.ev sl with
  | .sc (.bool t)=>some (if t then a.ev sl else b.ev sl,s)
  | _=>none
 | .bx x sz=>jL (x.ev sl) sz s
 | .al zs=>jL (.agg zs) zs.length s
 | .bd zs ps=>rd ((aI zs (ps.map fun (o,n,x)=>(o,n,x.ev sl))).map .agg)
 | .bs sz zs n ps=>bsI sz zs n (ps.map fun (i,x)=>(i,x.ev sl)) md s
 | .ld ag x=>rd (ldI ag (x.ev sl) s)
 | .st n a x=>(stI n (a.ev sl) (x.ev sl) s).map (.undef,·)
 | .nc x=>match x.ev sl with
  | .ptr g e o=>some (.ptr g e o,s)
  | .zp cs o=>some (.zp cs o,s)
  | .fn (.func f) a b=>some (.fn (.func f) a b,s)
  | _=>none
 | .bin k op x y=>rd (eL k op (x.ev sl) (y.ev sl))
 | .un op x=>rd (unI op (x.ev sl))
 | .cv k x=>rd (cvI k (x.ev sl) s)
 | .mf f a b=>some (.fn (.func f) (a.map (·.ev sl)) (b.map (·.ev sl)),s)
 | .mm=>some (.map s.c,{ h:=upd s.h s.c (some (.map [] s.c)),c:=s.c+1 })
 | .ms sz zs bytes l c=>msI sz zs bytes (l.ev sl) (c.ev sl) s
 | .ss x lo hi=>rd (ssI (x.ev sl) (lo.map (·.ev sl)) (hi.map (·.ev sl)))
 | .sr sz x lo hi mx=>if md=.mut then rd (srX sz (x.ev sl) (lo.map (·.ev sl)) (hi.map (·.ev sl)) (mx.map (·.ev sl)) s) else rd (srI sz (x.ev sl) (lo.map (·.ev sl)) (hi.map (·.ev sl)) (mx.map (·.ev sl)))
 | .fa off x=>rd (faI off (x.ev sl))
 | .fd ag off x=>rd (fdI ag off (x.ev sl))
 | .ia sz x i=>rd (iaI sz (x.ev sl) (i.ev sl))
 | .ix x i=>rd (ixI (x.ev sl) (i.ev sl))
 | .lk kk z ok m k=>rd (lkI kk z ok (m.ev sl) (k.ev sl) s)
 | .mu kk m k v=>(muI kk (m.ev sl) (k.ev sl) (v.ev sl) s).map (.undef,·)
 | .dl kk m k=>(dlI kk (m.ev sl) (k.ev sl) s).map (.tup [],·)
 | .rg m=>rgI (m.ev sl) s
 | .cl sz zs x=>(clI sz zs (x.ev sl) s).map (.tup [],·)
 | .nt x=>rd (ntI (x.ev sl) s)
 | .ex x i=>rd (exI (x.ev sl) i)
 | .len k x=>rd (dT k (x.ev sl) s)
 | .ap sz bytes d x=>apI sz bytes md (d.ev sl) (x.ev sl) s
 | .cp sz d x=>cpI sz (d.ev sl) (x.ev sl) s
 | .mx l=>rd (gq (fun a b=>if a<b then b else a) (l.map (·.ev sl)))
 | .mn l=>rd (gq (fun a b=>if b<a then b else a) (l.map (·.ev sl)))
 | .mi t x=>if (x.ev sl).val=true then some (.ifc t (x.ev sl),s) else none
 | .ta t x=>match x.ev sl with
  | .ifc t' v=>if t'=t then some (v,s) else none
  | _=>none
 | .nx _ | .call _ _ | .callv _ _ | .inv ..=>none
def jC (op:BinOp) (x:AV) (s:St) (K:AV→St→Prop):Prop:=(op=.eql∨op=.neq)∧match x with
 | .sl (_::_) _=>K (.bool (op==.neq)) s
 | .row _ _ _ (_+1)=>K (.bool (op==.neq)) s
 | .sl [] _=>K (.bool true) s∧K (.bool false) s
 | .row _ _ _ 0=>K (.bool true) s∧K (.bool false) s
 | .sc (.slice none 0 0)=>K (.bool (op==.eql)) s
 | _=>False
def nxW (it:AV) (s:St) (K:AV→St→Prop):Prop:=match it with
 | .ptr g 0 0=>match s.h g with
  | some (.iter m ver done)=>match s.h m with
   | some (.map kv ver')=>ver'=ver∧((∀ i,i<kv.length→i∈done)→K (.tup [.bool false]) s) ∧
    ∀ i p,kv[i]?=some p→i∉done→K (.tup [.bool true,p.1,p.2]) { h:=upd s.h g (some (.iter m ver (done++[i]))),c:=s.c }
   | _=>False
  | _=>False
 | _=>False
def fz1 (v:AV) (s:St):Option (AV×St):=match v with
 | .row g _ off len=>match s.h g with
  | some (.row sz es st par)=>if off+len≤es.length∧par=none∧(st=.live∨st=.frz) then
    some (.sl (aP ((es.drop off).take len)) false,{ s with h:=upd s.h g (some (.row sz es .frz none)) }) else none
  | _=>none
 | v=>some (norm v,s)
def fzL:List AV→St→Option (List AV×St)
 | [],s=>some ([],s)
 | v::vs,s=>match fz1 v s with
  | some (v',s')=>match fzL vs s' with
   | some (vs',s'')=>some (v'::vs',s'')
   | none=>none
  | none=>none
def fzI (v:AV) (s:St):Option (AV×St):=match v with
 | .agg cs=>match fzL cs s with | some (cs',s')=>some (.agg cs',s') | none=>none
 | v=>fz1 v s
def fzR (v:AV) (s:St):Option (AV×St):=match v with
 | .tup vs=>match go vs s with | some (vs',s')=>some (.tup vs',s') | none=>none
 | v=>fzI v s
where
 go:List AV→St→Option (List AV×St)
  | [],s=>some ([],s)
  | v::vs,s=>match fzI v s with
   | some (v',s')=>match go vs s' with
    | some (vs',s'')=>some (v'::vs',s'')
    | none=>none
   | none=>none
def cF (md:Md) (v:AV) (s:St):Option (AV×St):=match md with
 | .fz=>fzI v s
 | .ph sz=>match v with
  | .sl [] true=>if 0<sz then some (.row s.c sz 0 0,newRow sz [] s) else none
  | v=>some (v,s)
 | _=>some (v,s)
def gdI (g:Option (Nat×Bool)) (sl:Slots):Option Bool:=match g with
 | none=>some true
 | some (t,b)=>match sl t with
  | .sc (.bool b')=>some (b'==b)
  | .tup []=>some false
  | _=>none
end Go.AM
