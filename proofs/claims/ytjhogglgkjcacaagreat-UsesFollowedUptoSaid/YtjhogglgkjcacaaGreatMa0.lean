/- Part of the claim: see its last text. -/
import Derived.Calls
import Derived.Tactics
import Derived.Laws.Sem
import Derived.Laws.World
import Derived.Laws.Cells
import Derived.Laws.Append
import Derived.Laws.Tables
import Derived.Laws.Rows
set_option linter.all false
namespace Go.AM
abbrev q3:=@List.getElem?_eq_getElem
abbrev q4:=@List.getElem?_eq_some_iff
abbrev q5:=@Nat.le_refl
abbrev q6:=@Eq.trans
abbrev q7:=@Nat.lt_succ_self
abbrev q8:=@List.take_of_length_le
abbrev q9:=@Bool.and_eq_true
abbrev rb:=@List.getElem?_map
abbrev rd:=@List.mem_append
abbrev rf:=@List.mem_map
abbrev rm:=@Array.getElem?_eq_getElem
abbrev ro:=@Nat.lt_of_lt_of_le
abbrev rv:=@Nat.le_succ
abbrev rx:=@List.all_eq_true
abbrev r0:=@List.take_length
abbrev r1:=@List.getElem?_append_right
abbrev r2:=@Nat.mul_le_mul_right
abbrev r3:=@List.mem_cons_of_mem
abbrev r4:=@List.mem_cons_self
abbrev r5:=@Array.getD_eq_getD_getElem?
abbrev r6:=@List.length_pos_iff
abbrev r7:=@List.take_add_one
abbrev r8:=@List.mem_of_getElem?
abbrev r9:=@List.getD_eq_getElem?_getD
abbrev sa:=@List.mem_singleton
abbrev se:=@List.mem_cons
abbrev sh:=@List.map_append
abbrev sk:=@List.getElem?_append_left
abbrev so:=@List.length_map
abbrev sp:=@Array.eq_empty_of_size_eq_zero
abbrev sx:=@Classical.byContradiction
abbrev s0:=@List.getElem?_take
abbrev s3:=@List.length_append
abbrev s4:=@Ne.symm
abbrev s5:=@List.length_cons
abbrev s6:=@List.length_eq_zero_iff
abbrev s7:=@Nat.zero_add
abbrev s8:=@List.getElem?_drop
abbrev s9:=@List.map_cons
abbrev ti:=@List.filter_append
abbrev tj:=@List.pairwise_append
abbrev tm:=@List.length_take
abbrev tn:=@Nat.add_mul
abbrev to:=@UInt8.lt_iff_toNat_lt
abbrev tr:=@Nat.ne_of_lt
abbrev ts:=@Nat.le_trans
abbrev tt:=@List.getElem?_take_of_lt
abbrev tx:=@Array.length_toList
abbrev ty:=@Option.some.inj
abbrev t1:=@List.cons_append
abbrev uc:=@List.mem_range
abbrev u0:=@List.append_assoc
abbrev u1:=@Bool.false_eq_true
abbrev u2:=@List.drop_of_length_le
abbrev u3:=@List.getElem_mem
abbrev u4:=@Array.getElem?_setIfInBounds
abbrev u5:=@List.nil_append
abbrev u6:=@Nat.lt_irrefl
abbrev u7:=@Array.getElem?_eq_some_iff
abbrev u9:=@List.getElem?_range
abbrev va:=@List.nodup_append
abbrev vn:=@List.length_filter_le
abbrev vr:=@List.foldl_cons
abbrev vv:=@Bool.or_eq_true
abbrev vF:=@List.eq_nil_of_length_eq_zero
abbrev v1:=@List.mapM_cons
abbrev v2:=@Int.mul_le_mul
abbrev v6:=@List.map_congr_left
abbrev v7:=@Nat.zero_le
abbrev v8:=@List.any_eq_true
abbrev wa:=@Nat.add_zero
abbrev wx:=@List.getElem?_append
abbrev wy:=@List.any_eq_false
abbrev w0:=@Bool.false_or
abbrev w5:=@List.pairwise_cons
abbrev w6:=@Array.getElem?_toList
abbrev w7:=@List.mem_iff_getElem?
abbrev w8:=@List.sizeOf_lt_of_mem
abbrev w9:=@List.getElem?_eq_none
abbrev xa:=@List.take_append_drop
abbrev xf:=@Nat.min_eq_left
abbrev xg:=@List.append_nil
abbrev xi:=@Nat.lt_succ_of_lt
abbrev xk:=@Option.some.injEq
abbrev xm:=@List.size_toArray
abbrev xn:=@List.foldl_append
abbrev xo:=@Nat.add_assoc
abbrev xq:=@Array.getElem?_append_left
abbrev xt:=@List.nodup_iff_pairwise_ne
abbrev xv:=@List.drop_eq_getElem_cons
abbrev xx:=@List.mem_or_eq_of_mem_set
abbrev x0:=@List.mem_flatMap
abbrev x1:=@Option.isSome_iff_exists
abbrev x2:=@Array.getElem?_replicate
abbrev x3:=@Nat.sub_self
abbrev x4:=@Option.toList_some
abbrev x5:=@List.length_nil
abbrev x6:=@List.pairwise_map
abbrev x7:=@Int.le_refl
abbrev x8:=@List.getElem?_toArray
abbrev x9:=@Int.mul_le_mul_of_nonneg_left
abbrev ym:=@Option.getD_some
abbrev yn:=@List.all_cons
abbrev yt:=@Bool.true_and
abbrev yy:=@List.any_append
abbrev y0:=@List.nodup_cons
abbrev y1:=@Nat.lt_or_gt_of_ne
abbrev y2:=@Nat.zero_mul
abbrev y3:=@List.map_map
abbrev y4:=@List.take_take
abbrev y5:=@Bool.not_eq_true'
abbrev y6:=@List.getElem?_cons_succ
abbrev y7:=@List.map_take
abbrev y8:=@Bool.not_true
abbrev y9:=@List.isEmpty_iff
abbrev zb:=@Option.bind_some
abbrev zd:=@List.length_drop
abbrev zi:=@List.ext_getElem
abbrev z6:=@Array.getElem?_modify
abbrev z7:=@List.mem_append_right
abbrev z8:=@List.length_singleton
abbrev A0:=@List.mem_filter
abbrev A2:=@Int.le_trans
abbrev A5:=@List.mem_of_mem_take
abbrev B0:=@List.getElem?_set_ne
abbrev B2:=@List.drop_drop
abbrev Cl:=@List.getElem_of_mem
abbrev C1:=@List.replicate_succ
abbrev D1:=@List.filterMap_cons
abbrev D3:=@List.mergeSort_perm
abbrev D5:=@Nat.one_mul
abbrev Er:=@Int.one_mul
abbrev Es:=@List.mem_filterMap
abbrev Et:=@List.append_of_mem
abbrev Eu:=@Int.tmod_lt_of_pos
abbrev Ev:=@List.mapM_nil
abbrev Ew:=@List.any_cons
abbrev Ey:=@List.sum_cons
abbrev Ez:=@Classical.not_and_iff_not_or_not
abbrev EA:=@Nat.mod_lt
abbrev EB:=@List.Nodup.length_le_of_subset
abbrev EC:=@Nat.le_of_lt
abbrev ED:=@Nat.mul_comm
abbrev EE:=@List.map_nil
abbrev EF:=@Array.toList_inj
abbrev EG:=@List.filter_cons
abbrev EH:=@Option.map_some
abbrev EI:=@List.range_succ
abbrev EJ:=@List.perm_ext_iff_of_nodup
abbrev EK:=@Array.mapM_eq_mapM_toList
abbrev EL:=@Int.natAbs_ediv_le_natAbs
abbrev EM:=@Array.mem_push
abbrev EN:=@List.Pairwise.imp_of_mem
abbrev EO:=@Nat.add_sub_cancel_left
abbrev EP:=@List.pairwise_mergeSort
abbrev EQ:=@Bool.and_true
inductive AV where
 | undef
 | sc (v:Value)
 | agg (cs:List AV)
 | tup (vs:List AV)
 | ptr (g e o:Nat)
 | zp (cs:List AV) (o:Nat)
 | row (g sz off len:Nat)
 | sl (es:List (List AV)) (full:Bool)
 | map (g:Nat)
 | fn (f:Fn) (first captured:List AV)
 | ifc (t:TypeId) (v:AV)
 deriving Inhabited
abbrev AV.int (n:Int):AV:=.sc (.int .i64 n)
abbrev AV.u8 (n:Int):AV:=.sc (.int .u8 n)
abbrev AV.bool (b:Bool):AV:=.sc (.bool b)
abbrev AV.str (s:ByteArray):AV:=.sc (.string s)
abbrev AV.nilp:AV:=.sc (.pointer none)
abbrev AV.nil:AV:=.sl [] true
def km:Value->Bool
 | .bool _ | .int .. | .float .. | .complex .. | .string _ | .pointer none | .map none | .chan none | .nilFunc | .nilIface | .slice none 0 0=>true
 | _=>false
def kh:Value->AV
 | .slice none 0 0=>.sl [] true
 | .func (.func c) d b=>if d.size=0/\b.size=0 then .fn (.func c) [] [] else .undef
 | a=>if km a then .sc a else .undef
def ofValue:Value->AV
 | .agg a=>.agg (a.toList.map kh)
 | b=>kh b
mutual
def norm:AV->AV
 | .agg cs=>.agg (br cs)
 | .tup vs=>.tup (br vs)
 | .sl es _=>.sl (aP es) false
 | v=>v
def br:List AV->List AV
 | []=>[]
 | v::vs=>norm v::br vs
def aP:List (List AV)->List (List AV)
 | []=>[]
 | e::es=>br e::aP es
end
def AV.cell:AV->Bool
 | .undef | .agg _ | .tup _=>false
 | _=>true
def AV.cells:AV->List AV
 | .agg a=>a
 | b=>[b]
def AV.val:AV->Bool
 | .undef | .tup _=>false
 | .agg a=>a.all AV.cell
 | _=>true
inductive RSt where
 | live
 | lent (k:Nat)
 | frz
 deriving Inhabited,DecidableEq
inductive Body where
 | row (sz:Nat) (es:List (List AV)) (st:RSt) (par:Option Nat)
 | map (kv:List (AV×AV)) (ver:Nat)
 | iter (m ver:Nat) (done:List Nat)
 deriving Inhabited
abbrev Heap:=Nat->Option Body
structure St where
 h:Heap
 c:Nat
def upd (h:Heap) (g:Nat) (b:Option Body):Heap:=fun a=>if a=g then b else h a
def retH (b:Nat) (c h:Heap):Heap:=fun a=>if a<b then h a else c a
inductive X where
 | t (n:Nat)
 | c (v:AV)
 | f (n:Nat)
 deriving Inhabited
inductive Md where
 | plain | fz | mut | asis | fork | nl
 | ph (sz:Nat)
 deriving Inhabited,DecidableEq
inductive CK where
 | int (k:IntKind)
 | same
 | i2s
 | b2s
 | s2b
 deriving Inhabited,DecidableEq
inductive FK where
 | int | str | bool
 deriving Inhabited,DecidableEq
inductive KK where
 | one (k:FK)
 | agg (ks:List FK)
 deriving Inhabited,DecidableEq
inductive BK where
 | sc
 | bl
 | pn
 | eqAgg (ks:List FK)
 | slNil
 | mpNil
 deriving Inhabited,DecidableEq
inductive I where
 | mv (x:X)
 | pk (c a b:X)
 | bx (x:X) (sz:Nat)
 | al (zs:List AV)
 | bd (zs:List AV) (ps:List (Nat×Nat×X))
 | bs (sz:Nat) (zs:List AV) (n:Nat) (ps:List (Nat×X))
 | ld (ag:Option Nat) (x:X)
 | st (n:Nat) (a x:X)
 | nc (x:X)
 | bin (k:BK) (op:BinOp) (x y:X)
 | un (op:UnOp) (x:X)
 | cv (k:CK) (x:X)
 | mf (f:Nat) (first cap:List X)
 | mm
 | ms (sz:Nat) (zs:List AV) (bytes:Nat) (l c:X)
 | ss (x:X) (lo hi:Option X)
 | sr (sz:Nat) (x:X) (lo hi mx:Option X)
 | fa (off:Nat) (x:X)
 | fd (ag:Option Nat) (off:Nat) (x:X)
 | ia (sz:Nat) (x i:X)
 | ix (x i:X)
 | lk (kk:KK) (z:AV) (ok:Bool) (m k:X)
 | mu (kk:KK) (m k v:X)
 | rg (m:X)
 | nx (it:X)
 | nt (it:X)
 | ex (x:X) (i:Nat)
 | len (k:Nat) (x:X)
 | ap (sz bytes:Nat) (s x:X)
 | cp (sz:Nat) (d s:X)
 | mx (l:List X)
 | mn (l:List X)
 | dl (kk:KK) (m k:X)
 | cl (sz:Nat) (zs:List AV) (x:X)
 | mi (t:TypeId) (x:X)
 | call (f:Nat) (args:List X)
 | callv (x:X) (args:List X)
 | inv (tab:List (TypeId×FuncId×Option (Option Nat))) (x:X) (args:List X)
 | ta (t:TypeId) (x:X)
 deriving Inhabited
structure AO where
 dst:Option Nat
 grd:Option (Nat×Bool)
 md:Md
 i:I
 re:List (Nat×Option (Nat×Bool)×I)
 deriving Inhabited
inductive AC where
 | skip
 | ops (l:List AO)
 | roam (a:AO) (pre:List (Bool×AO)) (post:List AO)
 | seq (a b:AC)
 | cond (c:X) (a b:AC)
 | block (id:Nat) (a:AC)
 | loop (a:AC)
 | exit (id:Nat)
 | ret
 deriving Inhabited
abbrev Slots:=Nat->AV
def put (sl:Slots) (a:Option Nat) (v:AV):Slots:=match a with
 | some a=>fun b=>if b=a then v else sl b
 | none=>sl
def X.ev (sl:Slots):X->AV
 | .t n=>sl n
 | .c a=>a
 | .f n=>.fn (.func n) [] []
def du (a:Option Nat) (cs:List AV) (o:Nat):Option AV:=match a with
 | some n=>if o+n<=cs.length then some (.agg ((cs.drop o).take n)) else none
 | none=>cs[o]?
def St.elem (s:St) (g e:Nat):Option (List AV):=match s.h g with
 | some (.row _ a _ _)=>a[e]?
 | _=>none
def ldI (c:Option Nat) (a:AV) (s:St):Option AV:=match a with
 | .ptr f e b=>(s.elem f e).bind (du c · b)
 | .zp d b=>du c d b
 | _=>none
def dO (cs:List AV) (o:Nat) (vs:List AV):List AV:=cs.take o++vs++cs.drop (o+vs.length)
def stI (n:Nat) (a v:AV) (s:St):Option St:=match a with
 | .ptr e c f=>match s.h e with
  | some (.row g d .live none)=>match d[c]? with
   | some b=>if v.cells.length=n/\v.cells.all AV.cell=true/\f+n<=b.length then
     some { s with h:=upd s.h e (some (.row g (d.set c (dO b f v.cells)) .live none)) } else none
   | none=>none
  | _=>none
 | _=>none
def newRow (sz:Nat) (es:List (List AV)) (s:St):St:={ h:=upd s.h s.c (some (.row sz es .live none)),c:=s.c+1 }
def aF (sz:Nat) (cs:List AV):Bool:=cs.length==sz&&cs.all AV.cell
def lZ (v:AV) (sz:Nat) (s:St):Option (AV×St):=
 if 0<sz/\aF sz v.cells=true then some (.ptr s.c 0 0,newRow sz [v.cells] s) else none
def aH:List AV->List (Nat×Nat×AV)->Option (List AV)
 | a,[]=>some a
 | a,(off,n,b)::c=>if b.cells.length=n/\b.cells.all AV.cell=true/\off+n<=a.length then aH (dO a off b.cells) c else none
def az (sz:Nat):List (List AV)->List (Nat×AV)->Option (List (List AV))
 | a,[]=>some a
 | a,(i,b)::c=>if aF sz b.cells=true/\i<a.length then az sz (a.set i b.cells) c else none
def bsI (sz:Nat) (zs:List AV) (n:Nat) (b:List (Nat×AV)) (md:Md) (s:St):Option (AV×St):=
 if 0<sz/\aF sz zs=true/\n<=68719476736 then
  match az sz (List.replicate n zs) b with
  | some a=>if md=.mut then some (.row s.c sz 0 n,newRow sz a s) else some (.sl a true,s)
  | none=>none
 else none
def fh (op:BinOp) (k:IntKind) (a b:Int):Option Value:=match op with
 | .add=>some (.int k (k.wrap (a+b)))
 | .sub=>some (.int k (k.wrap (a-b)))
 | .mul=>some (.int k (k.wrap (a*b)))
 | .quo=>if b=0 then none else some (.int k (k.wrap (a.tdiv b)))
 | .rem=>if b=0 then none else some (.int k (a.tmod b))
 | .eql=>some (.bool (a==b))
 | .neq=>some (.bool (a != b))
 | .lss=>some (.bool (a<b))
 | .leq=>some (.bool (a<=b))
 | .gtr=>some (.bool (a>b))
 | .geq=>some (.bool (a>=b))
 | .and=>some (.int k (k.wrap (BitVec.ofInt k.bits a &&& BitVec.ofInt k.bits b).toNat))
 | .or=>some (.int k (k.wrap (BitVec.ofInt k.bits a ||| BitVec.ofInt k.bits b).toNat))
 | .xor=>some (.int k (k.wrap (BitVec.ofInt k.bits a ^^^ BitVec.ofInt k.bits b).toNat))
 | .andNot=>some (.int k (k.wrap (BitVec.ofInt k.bits a &&& ~~~BitVec.ofInt k.bits b).toNat))
 | .shl | .shr=>none
def zk (op:BinOp) (k:IntKind) (a b:Int):Option Value:=
 if b<0 then none else match op with
 | .shl=>some (.int k (k.wrap (a*2 ^ (min b.toNat k.bits))))
 | .shr=>some (.int k (a.fdiv (2 ^ (min b.toNat k.bits))))
 | _=>none
def gd (op:BinOp) (x y:ByteArray):Option Value:=match op with
 | .add=>if ((x.size+y.size:Nat):Int)>IntKind.i64.max then none else some (.string (x++y))
 | .eql=>some (.bool (x.toList==y.toList))
 | .neq=>some (.bool !(x.toList==y.toList))
 | .lss=>some (.bool (Op.bytesLess x.toList y.toList))
 | .leq=>some (.bool (Op.bytesLess x.toList y.toList||x.toList==y.toList))
 | .gtr=>some (.bool !(Op.bytesLess x.toList y.toList||x.toList==y.toList))
 | .geq=>some (.bool !(Op.bytesLess x.toList y.toList))
 | _=>none
def fT (op:BinOp):Value->Value->Option Value
 | .int c a,.int d b=>match op with
  | .shl | .shr=>zk op c a b
  | _=>if c=d then fh op c a b else none
 | .string a,.string b=>gd op a b
 | _,_=>none
def kz (op:BinOp):Value->Value->Option Value
 | .bool a,.bool b=>match op with
  | .eql=>some (.bool (a==b))
  | .neq=>some (.bool !(a==b))
  | _=>none
 | _,_=>none
def pU:AV->Option Bool
 | .sc (.pointer none)=>some true
 | .ptr .. | .zp ..=>some false
 | _=>none
def j7 (op:BinOp) (b:Bool):Option AV:=match op with
 | .eql=>some (.bool b)
 | .neq=>some (.bool !b)
 | _=>none
def eU:FK->AV->AV->Option Bool
 | .int,.sc (.int c a),.sc (.int d b)=>if c=d then some (a==b) else none
 | .str,.sc (.string a),.sc (.string b)=>some (decide (a=b))
 | .bool,.sc (.bool a),.sc (.bool b)=>some (a==b)
 | _,_,_=>none
def cd:List FK->List AV->List AV->Option Bool
 | [],[],[]=>some true
 | d::e,a::b,c::bs=>match eU d a c,cd e b bs with
  | some f,some g=>some (f&&g)
  | _,_=>none
 | _,_,_=>none
def wq:AV->Option Bool
 | .sc (.map none)=>some true
 | .map _=>some false
 | _=>none
def gq (k:BK) (op:BinOp) (x y:AV):Option AV:=match k with
 | .sc=>match x,y with
  | .sc b,.sc a=>(fT op b a).map .sc
  | _,_=>none
 | .bl=>match x,y with
  | .sc b,.sc a=>(kz op b a).map .sc
  | _,_=>none
 | .pn=>match pU x,pU y with
  | some true,some a=>j7 op a
  | some false,some true=>j7 op false
  | _,_=>none
 | .eqAgg d=>match x,y with
  | .agg c,.agg bs=>(cd d c bs).bind (j7 op)
  | _,_=>none
 | .slNil=>none
 | .mpNil=>(wq x).bind (j7 op)
def unI (op:UnOp):AV->Option AV
 | .sc (.int a n)=>match op with
  | .neg=>some (.sc (.int a (a.wrap (0-n))))
  | .xor=>some (.sc (.int a (a.wrap (BitVec.ofInt a.bits (if a.signed then -1 else a.max) ^^^ BitVec.ofInt a.bits n).toNat)))
  | _=>none
 | .sc (.bool b)=>match op with
  | .not=>some (.bool !b)
  | _=>none
 | _=>none
def St.show_ (s:St):AV->Option (List (List AV))
 | .row b _ off len=>match s.h b with
  | some (.row _ a _ _)=>if off+len<=a.length then some ((a.drop off).take len) else none
  | _=>none
 | .sl a _=>some a
 | _=>none
def sS:List AV->Option UInt8
 | [.sc (.int .u8 n)]=>some (UInt8.ofNat n.toNat)
 | _=>none
def iN:List (List AV)->Option (List UInt8)
 | []=>some []
 | b::c=>match sS b,iN c with
  | some a,some bs=>some (a::bs)
  | _,_=>none
def fp (x:AV) (sz:Nat):Bool:=match x with
 | .row _ a _ _=>a==sz
 | _=>true
def cvI (k:CK) (x:AV) (s:St):Option AV:=match k,x with
 | .int k,.sc (.int _ n)=>some (.sc (.int k (k.wrap n)))
 | .same,.sc (.string a)=>some (.sc (.string a))
 | .i2s,.sc (.int _ n)=>some (.sc (.string (Utf8.encode n)))
 | .b2s,x=>if fp x 1=true then (s.show_ x).bind fun b=>(iN b).map fun c=>.sc (.string ⟨c.toArray⟩) else none
 | _,_=>none
def asI:AV->Option Int
 | .sc (.int _ n)=>some n
 | _=>none
def bnd (x:Option AV) (a:Nat) (b:Nat):Option Nat:=match x with
 | none=>some a
 | some c=>match asI c with
  | some n=>if 0<=n/\n<=b then some n.toNat else none
  | none=>none
def ssI (x:AV) (d b:Option AV):Option AV:=match x with
 | .sc (.string s)=>match bnd b s.size s.size with
  | some a=>match bnd d 0 a with
   | some c=>some (.sc (.string (s.extract c a)))
   | none=>none
  | none=>none
 | _=>none
def srI (sz:Nat) (x:AV) (f e mx:Option AV):Option AV:=match x with
 | .row k l off len=>if sz=l then match mx with
  | none=>match bnd e len len with
   | some a=>match bnd f 0 a with
    | some c=>some (.row k sz (off+c) (a-c))
    | none=>none
   | none=>none
  | some _=>match bnd mx len len with
   | some d=>match bnd e len d with
    | some a=>match bnd f 0 a with
     | some c=>if c=d then some (.sl [] true) else none
     | none=>none
    | none=>none
   | none=>none
  else none
 | .sl b h=>if b.all (fun g=>g.length==sz)=true then match mx with
  | none=>match bnd e b.length b.length with
   | some a=>match bnd f 0 a with
    | some c=>some (.sl ((b.take a).drop c) (h&&a==b.length))
    | none=>none
   | none=>none
  | some _=>match bnd mx b.length b.length with
   | some d=>match bnd e b.length d with
    | some a=>match bnd f 0 a with
     | some c=>if a=d then some (.sl ((b.take a).drop c) true) else none
     | none=>none
    | none=>none
   | none=>none
  else none
 | _=>none
def srX (sz:Nat) (x:AV) (e c mx:Option AV) (s:St):Option AV:=match x with
 | .row b h off len=>if sz=h then match mx with
  | none=>match s.h b with
   | some (.row _ f _ _)=>match bnd c len (f.length-off) with
    | some a=>match bnd e 0 a with
     | some d=>if a<=68719476736 then some (.row b sz (off+d) (a-d)) else none
     | none=>none
    | none=>none
   | _=>none
  | some _=>match bnd mx len len with
   | some g=>match bnd c len g with
    | some a=>match bnd e 0 a with
     | some _=>some .undef
     | none=>none
    | none=>none
   | none=>none
  else none
 | _=>none
def faI (off:Nat):AV->Option AV
 | .ptr d c a=>some (.ptr d c (a+off))
 | .zp b a=>some (.zp b (a+off))
 | _=>none
def fdI (a:Option Nat) (off:Nat):AV->Option AV
 | .agg b=>du a b off
 | _=>none
def iaI (sz:Nat) (x:AV) (i:AV):Option AV:=match asI i with
 | some n=>match x with
  | .row c d off len=>if sz=d/\0<=n/\n<len then some (.ptr c (off+n.toNat) 0) else none
  | .sl b _=>if 0<=n then match b[n.toNat]? with
   | some a=>if a.length=sz then some (.zp a 0) else none
   | none=>none
   else none
  | _=>none
 | none=>none
def ixI (x i:AV):Option AV:=match x,asI i with
 | .sc (.string s),some n=>if 0<=n then (s[n.toNat]?).map fun a=>.sc (.int .u8 a.toNat) else none
 | _,_=>none
def gI:KK->AV->AV->Option Bool
 | .one d,a,c=>eU d a c
 | .agg e,.agg b,.agg bs=>cd e b bs
 | _,_,_=>none
def bZ (a:KK) (k:AV):List (AV×AV)->Nat->Option (Option Nat)
 | [],_=>some none
 | b::c,i=>match gI a k b.1 with
  | some true=>some (some i)
  | some false=>bZ a k c (i+1)
  | none=>none
def pH:FK->AV->Bool
 | .int,.sc (.int ..)=>true
 | .str,.sc (.string _)=>true
 | .bool,.sc (.bool _)=>true
 | _,_=>false
def jI:List FK->List AV->Bool
 | [],[]=>true
 | c::d,a::b=>pH c a&&jI d b
 | _,_=>false
def n9:KK->AV->Bool
 | .one c,a=>pH c a
 | .agg d,.agg b=>jI d b
 | _,_=>false
def kE (a:KK) (k:AV) (kv:List (AV×AV)):Option (Option Nat):=if n9 a k=true then bZ a k kv 0 else none
def lkI (a:KK) (z:AV) (ok:Bool) (m k:AV) (s:St):Option AV:=
 match m with
 | .map d=>match s.h d with
  | some (.map b _)=>match kE a k b with
   | some (some i)=>(b[i]?).map fun c=>if ok then .tup [c.2,.bool true] else c.2
   | some none=>some (if ok then .tup [z,.bool false] else z)
   | none=>none
  | _=>none
 | .sc (.map none)=>if n9 a k=true then some (if ok then .tup [z,.bool false] else z) else none
 | _=>none
def muI (c:KK) (m k v:AV) (s:St):Option St:=match m with
 | .map a=>match s.h a with
  | some (.map b _)=>match kE c k b with
   | some (some i)=>some { h:=upd s.h a (some (.map (b.set i (k,v)) s.c)),c:=s.c+1 }
   | some none=>some { h:=upd s.h a (some (.map (b++[(k,v)]) s.c)),c:=s.c+1 }
   | none=>none
  | _=>none
 | _=>none
def dlI (c:KK) (m k:AV) (s:St):Option St:=match m with
 | .map a=>match s.h a with
  | some (.map b _)=>match kE c k b with
   | some (some i)=>some { h:=upd s.h a (some (.map (b.eraseIdx i) s.c)),c:=s.c+1 }
   | some none=>some s
   | none=>none
  | _=>none
 | _=>none
def rgI (m:AV) (s:St):Option (AV×St):=match m with
 | .map a=>match s.h a with
  | some (.map _ ver)=>some (.ptr s.c 0 0,{ h:=upd s.h s.c (some (.iter a ver [])),c:=s.c+1 })
  | _=>none
 | _=>none
def ntI (c:AV) (s:St):Option AV:=match c with
 | .ptr b 0 0=>match s.h b with
  | some (.iter e ver done)=>match s.h e,done.getLast? with
   | some (.map d f),some i=>if f=ver then (d[i]?).map fun a=>.tup [a.1,a.2] else none
   | _,_=>none
  | _=>none
 | _=>none
def Heap.gone (h:Heap) (k:Nat):Bool:=match h k with
 | some (.row _ _ .live _)=>true
 | some (.row _ _ (.lent j) _)=>match h j with
  | some (.row ..)=>false
  | _=>true
 | some (.row _ _ .frz _)=>false
 | _=>true
def rR (g sz:Nat) (es xs:List (List AV)) (c:RSt) (b:Option Nat) (s:St):Option (AV×St):=
 let mk (h:Heap):Option (AV×St):=some (.row s.c sz 0 (es.length+xs.length),
  { h:=upd (upd h g (some (.row sz es (.lent s.c) b))) s.c (some (.row sz (es++xs) .live (some g))),c:=s.c+1 })
 match c with
 | .live=>mk s.h
 | .lent a=>if s.h.gone a=true then mk (upd s.h a none) else none
 | .frz=>none
def apI (sz bytes:Nat) (md:Md) (e x:AV) (s:St):Option (AV×St):=
 match s.show_ x with
 | none=>none
 | some xs=>if 0<sz/\0<bytes/\xs.all (aF sz)=true/\fp x sz=true then match e with
  | .sl a f=>
   if f=true then
    if xs.isEmpty&&!a.isEmpty then some (.sl a true,s)
    else if a.all (aF sz)=true/\a.length+xs.length<=68719476736/\bytes<=2048 then some (.row s.c sz 0 (a.length+xs.length),newRow sz (a++xs) s) else none
   else if xs.isEmpty then some (.sl a false,s) else none
  | .row b g off len=>match s.h b with
   | some (.row sz'' a d c)=>if sz=g/\sz=sz''/\off=0/\len+xs.length<=68719476736/\bytes<=2048 then
     if len=a.length then
      if md=.fork then rR b sz a xs d c s
      else if d=.live/\c=none then some (.row s.c sz 0 (a.length+xs.length),{ h:=upd (upd s.h b none) s.c (some (.row sz (a++xs) .live none)),c:=s.c+1 })
      else none
     else if len+xs.length<=a.length/\d=.live/\c=none then
      some (.row b sz 0 (len+xs.length),{ s with h:=upd s.h b (some (.row sz (a.take len++xs++a.drop (len+xs.length)) .live none)) })
     else none
    else none
   | _=>none
  | _=>none
  else none
def cpI (sz:Nat) (c x:AV) (s:St):Option (AV×St):=
 match s.show_ x,c with
 | some xs,.row b d off len=>match s.h b with
  | some (.row sz'' a .live none)=>if 0<sz/\sz=d/\sz=sz''/\xs.all (aF sz)=true/\fp x sz=true/\off+len<=a.length then
    let ys:=xs.take len
    some (.int ys.length,{ s with h:=upd s.h b (some (.row sz (a.take off++ys++a.drop (off+ys.length)) .live none)) }) else none
  | _=>none
 | _,_=>none
def clI (sz:Nat) (zs:List AV) (x:AV) (s:St):Option St:=match x with
 | .row b c off len=>match s.h b with
  | some (.row sz'' a .live none)=>if 0<sz/\sz=c/\sz=sz''/\aF sz zs=true/\off+len<=a.length then
    some { s with h:=upd s.h b (some (.row sz (a.take off++List.replicate len zs++a.drop (off+len)) .live none)) } else none
  | _=>none
 | .sl [] _=>some s
 | _=>none
def msI (sz:Nat) (zs:List AV) (bytes:Nat) (l c:AV) (s:St):Option (AV×St):=match asI l,asI c with
 | some l,some c=>if 0<sz/\aF sz zs=true/\0<=l/\l<=c/\c<=68719476736/\bytes<=2048 then
   some (.row s.c sz 0 l.toNat,newRow sz (List.replicate l.toNat zs) s) else none
 | _,_=>none
def eL (k:Nat) (x:AV) (s:St):Option AV:=match k,x with
 | 0,.sc (.string a)=>some (.int a.size)
 | 1,.sl b _=>some (.int b.length)
 | 1,.row _ _ _ len=>some (.int len)
 | 2,.map c=>match s.h c with
  | some (.map d _)=>some (.int d.length)
  | _=>none
 | 2,.sc (.map none)=>some (.int 0)
 | _,_=>none
def jd (f:Int->Int->Int):List AV->Option AV
 | .sc (.int b a)::e=>e.foldlM (fun g d=>match g,d with
   | .sc (.int b a),.sc (.int _ c)=>some (.sc (.int b (f a c)))
   | _,_=>none) (.sc (.int b a))
 | _=>none
def exI (x:AV) (i:Nat):Option AV:=match x with
 | .tup a=>a[i]?
 | _=>none
def mvI (md:Md) (x:X) (sl:Slots):AV:=match md,x with
 | .nl,.c (.sl [] true)=>.sc (.slice none 0 0)
 | _,_=>x.ev sl
def aO (i:I) (md:Md) (sl:Slots) (s:St):Option (AV×St):=
 let b (q:Option AV):Option (AV×St):=q.map (·,s)
 match i with
 | .mv a=>some (mvI md a sl,s)
 | .pk c e f=>match c.ev sl with
  | .sc (.bool p)=>some (if p then e.ev sl else f.ev sl,s)
  | _=>none
 | .bx a d=>lZ (a.ev sl) d s
 | .al h=>lZ (.agg h) h.length s
 | .bd h C=>b ((aH h (C.map fun (o,n,a)=>(o,n,a.ev sl))).map .agg)
 | .bs d h n C=>bsI d h n (C.map fun (i,a)=>(i,a.ev sl)) md s
 | .ld v a=>b (ldI v (a.ev sl) s)
 | .st n e a=>(stI n (e.ev sl) (a.ev sl) s).map (.undef,·)
 | .nc a=>match a.ev sl with
  | .ptr H G o=>some (.ptr H G o,s)
  | .zp D o=>some (.zp D o,s)
  | .fn (.func y) e f=>some (.fn (.func y) e f,s)
  | _=>none
 | .bin g z a K=>b (gq g z (a.ev sl) (K.ev sl))
 | .un z a=>b (unI z (a.ev sl))
 | .cv g a=>b (cvI g (a.ev sl) s)
 | .mf y e f=>some (.fn (.func y) (e.map (·.ev sl)) (f.map (·.ev sl)),s)
 | .mm=>some (.map s.c,{ h:=upd s.h s.c (some (.map [] s.c)),c:=s.c+1 })
 | .ms d h w m c=>msI d h w (m.ev sl) (c.ev sl) s
 | .ss a u t=>b (ssI (a.ev sl) (u.map (·.ev sl)) (t.map (·.ev sl)))
 | .sr d a u t mx=>if md=.mut then b (srX d (a.ev sl) (u.map (·.ev sl)) (t.map (·.ev sl)) (mx.map (·.ev sl)) s) else b (srI d (a.ev sl) (u.map (·.ev sl)) (t.map (·.ev sl)) (mx.map (·.ev sl)))
 | .fa off a=>b (faI off (a.ev sl))
 | .fd v off a=>b (fdI v off (a.ev sl))
 | .ia d a i=>b (iaI d (a.ev sl) (i.ev sl))
 | .ix a i=>b (ixI (a.ev sl) (i.ev sl))
 | .lk l M ok k g=>b (lkI l M ok (k.ev sl) (g.ev sl) s)
 | .mu l k g q=>(muI l (k.ev sl) (g.ev sl) (q.ev sl) s).map (.undef,·)
 | .dl l k g=>(dlI l (k.ev sl) (g.ev sl) s).map (.tup [],·)
 | .rg k=>rgI (k.ev sl) s
 | .cl d h a=>(clI d h (a.ev sl) s).map (.tup [],·)
 | .nt a=>b (ntI (a.ev sl) s)
 | .ex a i=>b (exI (a.ev sl) i)
 | .len g a=>b (eL g (a.ev sl) s)
 | .ap d w x a=>apI d w md (x.ev sl) (a.ev sl) s
 | .cp d x a=>cpI d (x.ev sl) (a.ev sl) s
 | .mx m=>b (jd (fun e f=>if e<f then f else e) (m.map (·.ev sl)))
 | .mn m=>b (jd (fun e f=>if f<e then f else e) (m.map (·.ev sl)))
 | .mi p a=>if (a.ev sl).val=true then some (.ifc p (a.ev sl),s) else none
 | .ta p a=>match a.ev sl with
  | .ifc J q=>if J=p then some (q,s) else none
  | _=>none
 | .nx _ | .call _ _ | .callv _ _ | .inv ..=>none
def lK (op:BinOp) (x:AV) (s:St) (K:AV->St->Prop):Prop:=(op=.eql\/op=.neq)/\match x with
 | .sl (_::_) _=>K (.bool (op==.neq)) s
 | .row _ _ _ (_+1)=>K (.bool (op==.neq)) s
 | .sl [] _=>K (.bool true) s/\K (.bool false) s
 | .row _ _ _ 0=>K (.bool true) s/\K (.bool false) s
 | .sc (.slice none 0 0)=>K (.bool (op==.eql)) s
 | _=>False
def nxW (e:AV) (s:St) (K:AV->St->Prop):Prop:=match e with
 | .ptr b 0 0=>match s.h b with
  | some (.iter d ver done)=>match s.h d with
   | some (.map c f)=>f=ver/\((∀ i,i<c.length->i∈done)->K (.tup [.bool false]) s) /\
    ∀ i a,c[i]?=some a->i∉done->K (.tup [.bool true,a.1,a.2]) { h:=upd s.h b (some (.iter d ver (done++[i]))),c:=s.c }
   | _=>False
  | _=>False
 | _=>False
def fz1 (v:AV) (s:St):Option (AV×St):=match v with
 | .row b _ off len=>match s.h b with
  | some (.row e a c d)=>if off+len<=a.length/\d=none/\(c=.live\/c=.frz) then
    some (.sl (aP ((a.drop off).take len)) false,{ s with h:=upd s.h b (some (.row e a .frz none)) }) else none
  | _=>none
 | v=>some (norm v,s)
def fzL:List AV->St->Option (List AV×St)
 | [],s=>some ([],s)
 | c::e,s=>match fz1 c s with
  | some (d,a)=>match fzL e a with
   | some (vs',b)=>some (d::vs',b)
   | none=>none
  | none=>none
def fzI (v:AV) (s:St):Option (AV×St):=match v with
 | .agg a=>match fzL a s with | some (cs',b)=>some (.agg cs',b) | none=>none
 | v=>fz1 v s
def fzR (v:AV) (s:St):Option (AV×St):=match v with
 | .tup vs=>match go vs s with | some (vs',s')=>some (.tup vs',s') | none=>none
 | v=>fzI v s
where
 go:List AV->St->Option (List AV×St)
  | [],s=>some ([],s)
  | v::vs,s=>match fzI v s with
   | some (v',s')=>match go vs s' with
    | some (vs',s'')=>some (v'::vs',s'')
    | none=>none
   | none=>none
def dt (md:Md) (v:AV) (s:St):Option (AV×St):=match md with
 | .fz=>fzI v s
 | .ph a=>match v with
  | .sl [] true=>if 0<a then some (.row s.c a 0 0,newRow a [] s) else none
  | v=>some (v,s)
 | _=>some (v,s)
def gdI (g:Option (Nat×Bool)) (sl:Slots):Option Bool:=match g with
 | none=>some true
 | some (c,a)=>match sl c with
  | .sc (.bool b)=>some (b==a)
  | .tup []=>some false
  | _=>none
end Go.AM
