/- Part of the claim: see its last text. -/
import Derived.Test.YtjhogglgkjcacaaGreatMa19
import Derived.Test.YtjhogglgkjcacaaGreatMb
import Derived.Lib.Bytealg
import Derived.Test.YtjhogglgkjcacaaGreatMa21
import Derived.Shelf.Spec.SlicesGrow
import Derived.Test.YtjhogglgkjcacaaGreatMa20
set_option linter.all false
set_option maxRecDepth 20000
set_option maxHeartbeats 4000000
namespace Go.Proofs.YtjhogglgkjcacaaGreat
open Go.AM Go.Wb
noncomputable abbrev Pg:Program:=Tryz.prog
def bs (s:ByteArray):List UInt8:=s.data.toList
theorem jh (s:ByteArray):(bs s).length=s.size:=tx
theorem jV (s:ByteArray) (i:Nat):s[i]?=(bs s)[i]?:=by
 by_cases h:i<s.size
 ·rw [getElem?_pos s i h,q3 (by rw [jh]; exact h)]; rfl
 ·rw [getElem?_neg s i h,w9 (by rw [jh]; omega)]
theorem pF {a b:ByteArray} (h:bs a=bs b):a=b:=by
 cases a; cases b; simp only [bs] at h; congr; exact EF.1 h
theorem ou {P : Program} {f : FuncId} {fn : Func} {e : Array Value → Sem Value} (l : P.funcs[f]? = some fn) (o : (fn.name == "runtime.NumGoroutine") = false)
  (d:fn.body.isNone=true) (m:Extern.findNext fn=none) (k:Extern.find fn=some e) {args:List AV} {av:AV}
  (h:∀ (G:Gh) (w:World) (vs:List Value),RepL G args vs->∃ v,(e vs.toArray).run P w=.ok v w/\Rep G av v):aG P f args av:=by
 intro s G w vs b p;obtain ⟨v,h1,a⟩:=h G w vs p;unfold CallOk;rw [run_callFunc_extern l o d m k,h1];exact ⟨av,G,s,Stp.refl G s w,b,a,rfl,rfl⟩
theorem bH {G:Gh} {v w:Value} (h:Rep G (.sc v) w):w=v:=by cases h; rfl
theorem qo {G:Gh} {a b:Value} {vs:List Value} (h:RepL G [.sc a,.sc b] vs):vs=[a,b]:=by
 obtain ⟨h1,d⟩:=h
 match vs,h1,d with
 | [e,f],_,d=>
  rw [bH (d 0 _ e rfl rfl),bH (d 1 _ f rfl rfl)]
theorem mT (s:ByteArray) (c:Int):aG Pg 250 [.str s,.u8 c] (.int (Lib.indexByte (bs s) (UInt8.ofNat c.toNat))):=by
 refine ou Fn250.func (by kernel_rfl) (by kernel_rfl) (by kernel_rfl) (e:=Extern.BytealgIndexByte.indexByte) (by kernel_rfl) ?_
 intro d b e a;rw [qo a];exact ⟨_,Lib.run_indexByteString s c b,.sc _ rfl⟩
theorem sX (a b:ByteArray):aG Pg 227 [.str a,.str b] (.int (Lib.compareBytes (bs a) (bs b))):=by
 refine ou Fn227.func (by kernel_rfl) (by kernel_rfl) (by kernel_rfl) (e:=Extern.BytealgCompare.compare) (by kernel_rfl) ?_
 intro f e k d;rw [qo d];exact ⟨_,Lib.run_compareString a b e,.sc _ rfl⟩
end Go.Proofs.YtjhogglgkjcacaaGreat
set_option maxRecDepth 20000
namespace Go.Proofs.YtjhogglgkjcacaaGreat
open Go.AM
theorem ow {P : Program} {f : FuncId} {fn : Func} {e : Array Value → Sem Value} (l : P.funcs[f]? = some fn) (o : (fn.name == "runtime.NumGoroutine") = false)
  (d:fn.body.isNone=true) (m:Extern.findNext fn=none) (k:Extern.find fn=some e) {args:List AV} {av:AV}
  (h:∀ (G:Gh) (w:World) (vs:List Value),RepL G args vs->∃ v,(e vs.toArray).run P w=.ok v w/\Rep G av v):zw P f args av:=by
 intro s G w vs b p;obtain ⟨v,h1,a⟩:=h G w vs p;unfold CallOk;rw [run_callFunc_extern l o d m k,h1];exact ⟨av,G,s,Stp.refl G s w,b,a,rfl,rfl⟩
def sZ:List AV->Option AV
 | [.sc (.string s),.sc (.int .u8 c)]=>some (.int (Lib.indexByte (bs s) (UInt8.ofNat c.toNat)))
 | _=>none
def sY:List AV->Option AV
 | [.sc (.string a),.sc (.string b)]=>some (.int (Lib.compareBytes (bs a) (bs b)))
 | _=>none
theorem vT:rO Pg 250 (.ext sZ):=fun e f h=>by
 unfold sZ at h;split at h
 ·injection h with h; subst h;refine ow Fn250.func (by kernel_rfl) (by kernel_rfl) (by kernel_rfl) (e:=Extern.BytealgIndexByte.indexByte) (by kernel_rfl) ?_
  intro d b k a;rw [qo a];exact ⟨_,Lib.run_indexByteString _ _ b,.sc _ rfl⟩
 ·cases h
theorem vS:rO Pg 227 (.ext sY):=fun e f h=>by
 unfold sY at h;split at h
 ·injection h with h; subst h;refine ow Fn227.func (by kernel_rfl) (by kernel_rfl) (by kernel_rfl) (e:=Extern.BytealgCompare.compare) (by kernel_rfl) ?_
  intro d b k a;rw [qo a];exact ⟨_,Lib.run_compareString _ _ b,.sc _ rfl⟩
 ·cases h
def tab_ran:List (Nat×Ent):=[(33,.code Fn33.ac [.t 4]),
 (44,.code Fn44.ac [.t 0]),
 (60,.code Fn60.ac [.t 6]),
 (66,.code Fn66.ac [.t 4]),
 (75,.code Fn75.ac [.l 0 (some 2)]),
 (79,.code Fn79.ac [.t 2]),
 (96,.code Fn96.ac [.t 2]),
 (97,.code Fn97.ac [.t 2]),
 (103,.code Fn103.ac [.t 4]),
 (104,.code Fn104.ac [.t 4]),
 (116,.code Fn116.ac [.t 2,.t 3]),
 (117,.code Fn117.ac [.t 4]),
 (118,.code Fn118.ac [.t 2]),
 (120,.code Fn120.ac [.t 4]),
 (124,.code Fn124.ac [.t 4,.t 5]),
 (140,.code Fn140.ac [.t 2]),
 (147,.code Fn147.ac [.t 2,.t 3]),
 (151,.code Fn151.ac [.t 2]),
 (152,.code Fn152.ac [.t 4]),
 (153,.code Fn153.ac [.t 4]),
 (164,.code Fn164.ac [.t 6]),
 (165,.code Fn165.ac [.t 8]),
 (166,.code Fn166.ac [.t 4]),
 (167,.code Fn167.ac [.t 2]),
 (168,.code Fn168.ac []),
 (170,.code Fn170.ac [.t 2]),
 (172,.code Fn172.ac [.t 2]),
 (175,.code Fn175.ac [.t 4]),
 (187,.code Fn187.ac [.t 3]),
 (189,.code Fn189.ac [.t 4]),
 (190,.code Fn190.ac [.t 4]),
 (191,.code Fn191.ac []),
 (192,.code Fn192.ac [.t 2]),
 (213,.code Fn213.ac [.t 2,.t 3]),
 (214,.code Fn214.ac [.t 11]),
 (215,.code Fn215.ac [.t 8,.t 9]),
 (226,.code Fn226.ac [.t 2]),
 (227,.ext sY),
 (232,.code Fn232.ac [.t 4]),
 (233,.code Fn233.ac [.t 3]),
 (234,.code Fn234.ac [.t 2]),
 (235,.code Fn235.ac [.t 6]),
 (236,.code Fn236.ac [.t 6]),
 (237,.code Fn237.ac [.t 6]),
 (238,.code Fn238.ac [.t 2]),
 (239,.code Fn239.ac [.t 2]),
 (240,.code Fn240.ac [.t 4]),
 (241,.code Fn241.ac [.t 2]),
 (242,.code Fn242.ac [.t 2]),
 (243,.code Fn243.ac [.t 4]),
 (244,.code Fn244.ac [.t 4]),
 (250,.ext sZ),
 (267,.code Fn267.ac [.t 4]),
 (268,.code Fn268.ac [.t 2]),
 (269,.code Fn269.ac [.t 10]),
 (270,.code Fn270.ac []),
 (271,.code Fn271.ac [.t 4]),
 (284,.code Fn284.ac []),
 (285,.code Fn285.ac [.t 6]),
 (286,.code Fn286.ac [.t 6]),
 (302,.code Fn302.ac [.t 2]),
 (303,.code Fn303.ac [.t 2]),
 (304,.code Fn304.ac [.t 6]),
 (305,.code Fn305.ac [.t 8]),
 (306,.code Fn306.ac [.t 8]),
 (307,.code Fn307.ac [.t 4]),
 (320,.code Fn320.ac [.t 4]),
 (321,.code Fn321.ac [.t 2]),
 (322,.code Fn322.ac []),
 (326,.code Fn326.ac [.t 2]),
 (327,.code Fn327.ac [.t 6]),
 (328,.code Fn328.ac [.t 4]),
 (329,.code Fn329.ac [.t 4]),
 (330,.code Fn330.ac [.t 4]),
 (331,.code Fn331.ac [.t 5]),
 (336,.code Fn336.ac [.t 2]),
 (337,.code Fn337.ac [.t 4]),
 (338,.code Fn338.ac [.t 2]),
 (349,.code Fn349.ac []),
 (357,.code Fn357.ac []),
 (358,.code Fn358.ac [.t 4,.t 5]),
 (359,.code Fn359.ac [.t 4]),
 (367,.code Fn367.ac [.t 4])]
theorem vq:pD Pg tab_ran:=⟨Fn33.calls,Fn44.calls,Fn60.calls,Fn66.calls,Fn75.calls,Fn79.calls,Fn96.calls,Fn97.calls,Fn103.calls,Fn104.calls,Fn116.calls,Fn117.calls,Fn118.calls,Fn120.calls,Fn124.calls,Fn140.calls,Fn147.calls,Fn151.calls,Fn152.calls,Fn153.calls,Fn164.calls,Fn165.calls,Fn166.calls,Fn167.calls,Fn168.calls,Fn170.calls,Fn172.calls,Fn175.calls,Fn187.calls,Fn189.calls,Fn190.calls,Fn191.calls,Fn192.calls,Fn213.calls,Fn214.calls,Fn215.calls,Fn226.calls,vS,Fn232.calls,Fn233.calls,Fn234.calls,Fn235.calls,Fn236.calls,Fn237.calls,Fn238.calls,Fn239.calls,Fn240.calls,Fn241.calls,Fn242.calls,Fn243.calls,Fn244.calls,vT,Fn267.calls,Fn268.calls,Fn269.calls,Fn270.calls,Fn271.calls,Fn284.calls,Fn285.calls,Fn286.calls,Fn302.calls,Fn303.calls,Fn304.calls,Fn305.calls,Fn306.calls,Fn307.calls,Fn320.calls,Fn321.calls,Fn322.calls,Fn326.calls,Fn327.calls,Fn328.calls,Fn329.calls,Fn330.calls,Fn331.calls,Fn336.calls,Fn337.calls,Fn338.calls,Fn349.calls,Fn357.calls,Fn358.calls,Fn359.calls,Fn367.calls,trivial⟩
end Go.Proofs.YtjhogglgkjcacaaGreat
set_option maxRecDepth 20000
set_option maxHeartbeats 4000000
namespace Go.Proofs.YtjhogglgkjcacaaGreat
open Go.AM Go.Wb
theorem oP (s:ByteArray) (c:Int):aG Pg 103 [.str s,.u8 c] (.int (Lib.indexByte (bs s) (UInt8.ofNat c.toNat))):=by
 intro b;refine Fn103.calls .frz ?_;unfold Fn103.ac;simp;refine ACalls.pure (v:=.int (Lib.indexByte (bs s) (UInt8.ofNat c.toNat))) ?_ fun c1 a=>?_
 ·intro b;refine Fn175.calls .frz ?_;unfold Fn175.ac;simp;refine ACalls.pure (mT s c) fun c1 a=>?_;simp
 ·simp
theorem fS (n a b:Int):aG Pg 60 [.int n,.int a,.int b] (.bool (decide (a<=n/\n<=b))):=by
 intro s;refine Fn60.calls .frz ?_;unfold Fn60.ac;by_cases h:a<=n <;> simp [h]
def eX (b:UInt8):Bool:=decide (97<=b.toNat)&&decide (b.toNat<=122)
def m8 (b:UInt8):Bool:=decide (48<=b.toNat)&&decide (b.toNat<=57)
def eS (b:UInt8):Bool:=eX b||m8 b||b==95
theorem sA (b:UInt8):aG Pg 238 [.u8 b.toNat] (.bool (eX b)):=by
 intro s;refine Fn238.calls .frz ?_;unfold Fn238.ac;by_cases h:97<=b.toNat
 ·have a:(97:Int)<=b.toNat:=by omega
  simp [h,a,eX]; omega
 ·have a:¬(97:Int)<=b.toNat:=by omega
  simp [h,a,eX]
theorem xZ (b:UInt8):aG Pg 239 [.u8 b.toNat] (.bool (m8 b)):=by
 intro s;refine Fn239.calls .frz ?_;unfold Fn239.ac;by_cases h:48<=b.toNat
 ·have a:(48:Int)<=b.toNat:=by omega
  simp [h,a,m8]; omega
 ·have a:¬(48:Int)<=b.toNat:=by omega
  simp [h,a,m8]
def kj:List ByteArray:=[⟨#[97,114,114,97,121]⟩,⟨#[102,111,114]⟩,⟨#[105,102]⟩,⟨#[109,97,120]⟩,⟨#[109,105,110]⟩]
def inL (s:ByteArray) (l:List ByteArray):Bool:=l.any fun r=>decide (s=r)
theorem xC (s:ByteArray):aG Pg 167 [.str s] (.bool (inL s kj)):=by
 intro f;refine Fn167.calls .frz ?_;unfold Fn167.ac;simp;by_cases h1:s=⟨#[97,114,114,97,121]⟩ <;> simp [h1,inL,kj];by_cases a:s=⟨#[102,111,114]⟩ <;> simp [a];by_cases b:s=⟨#[105,102]⟩ <;> simp [b];by_cases d:s=⟨#[109,97,120]⟩ <;> simp [d];by_cases e:s=⟨#[109,105,110]⟩ <;> simp [e,h1,a,b,d]
theorem Ai (b:UInt8):Lib.indexByte [95] b=if b=95 then 0 else -1:=by
 simp only [Lib.indexByte];by_cases h:b=95
 ·subst h; rfl
 ·have:((95:UInt8)==b)=false:=by simpa using s4 h
  simp [this,h]
def d9 (s:ByteArray):Bool:=decide (1<=s.size/\s.size<=40)&&(bs s).head?.any eX&&(bs s).all eS
theorem xB (s:ByteArray):aG Pg 166 [.str s,.str ⟨#[95]⟩] (.bool (d9 s)):=by
 intro H;refine Fn166.calls .frz ?_;unfold Fn166.ac;by_cases h1:(s.size:Int)<1
 ·have:¬1<=s.size:=by omega
  simp [h1,d9,this]
 by_cases z:(40:Int)<s.size
 ·have:¬s.size<=40:=by omega
  simp [h1,z,d9,this]
 have C:1<=s.size/\s.size<=40:=by omega
 obtain ⟨d,q,p⟩:∃ d q,bs s=d::q:=by
  cases h:bs s with
  | nil=>have:=jh s; rw [h] at this; simp at this; omega
  | cons d q=>exact ⟨d,q,rfl⟩
 simp [h1,z,jV,p];refine ACalls.pure (sA d) fun c1 R=>?_;by_cases u:eX d=true
 ·simp [u];refine aZ 22 Fn166.W0 (bs s) (fun i r Y t=>t.h=H.h/\d9 s=r.all eS) (by rfl) (by rfl) ?_ ?_ ?_
  ·simp [d9,C,p,u]
  ·intro J t b v;obtain ⟨a,e⟩:=v;rw [jh] at b;simp [b,a,e]
  ·intro i x xs J t o y p b v;obtain ⟨a,e⟩:=v;have G:(i:Int)<s.size:=by rw [jh] at o; omega
   simp [b,G,jV,o,y];have w:=q0 (x:=(i:Int)+1)
   obtain ⟨Q,K⟩:=t;simp only at a;refine ACalls.pure (sA x) fun M T=>?_;by_cases l:eX x=true
   ·have f:eS x=true:=by simp [eS,l]
    simp [l,w,b,a,e,f]
   simp [l,jV,o,y];refine ACalls.pure (xZ x) fun O U=>?_;by_cases m:m8 x=true
   ·have f:eS x=true:=by simp [eS,m]
    simp [m,w,b,a,e,f]
   simp [m,jV,o,y];refine ACalls.pure (oP _ _) fun P W=>?_;have D:UInt8.ofNat ((x.toNat:Int)).toNat=x:=by simp
   rw [D,show bs ⟨#[95]⟩=[95] from rfl,Ai]
   by_cases k:x=95
   ·have f:eS x=true:=by simp [eS,k]
    simp [k,w,b,a,e];simp [eS]
   ·have f:eS x=false:=by simp [eS,k,l,m]
    simp [k,a,e,f]
 ·simp [u,d9,p]
def bO (s:ByteArray):Bool:=d9 s&&!inL s kj
theorem lf (s:ByteArray):aG Pg 97 [.str s] (.bool (bO s)):=by
 intro b;refine Fn97.calls .frz ?_;unfold Fn97.ac;simp;refine ACalls.pure (xB s) fun c1 a=>?_;by_cases h1:d9 s=true
 ·simp [h1];refine ACalls.pure (xC s) fun c1 a=>?_;simp [bO,h1]
 ·simp [h1,bO]
theorem qY {a b:Int} (d:0<b):a / b=if a.tmod b<0 then a.tdiv b-1 else a.tdiv b:=by
 have h1:=Int.mul_ediv_add_emod a b;have f:=Int.emod_nonneg a (Int.ne_of_gt d);have k:=Int.emod_lt_of_pos a d;have e:Int.sign b=1:=Int.sign_eq_one_of_pos d;rw [Int.tmod_eq_emod,Int.tdiv_eq_ediv,e];by_cases h:0<=a\/b ∣ a
 ·simp only [h,if_true];rw [if_neg (by omega)]; omega
 ·simp only [h,if_false];rw [if_pos (by omega)]; omega
theorem qn {a b:Int} (f:0<b) (d:-9223372036854775808<a) (e:a<9223372036854775808):-9223372036854775808<a.tdiv b/\a.tdiv b<9223372036854775808:=by
 have h:=Int.natAbs_tdiv_le_natAbs a b;omega
theorem sB (a b:Int) (l:-9223372036854775808<a) (m:a<9223372036854775808) (e:0<b):aG Pg 244 [.int a,.int b] (.int (a / b)):=by
 intro s;refine Fn244.calls .frz ?_;unfold Fn244.ac;have f:b≠0:=Int.ne_of_gt e;obtain ⟨h1,p⟩:=qn e l m;have d:=qY (a:=a) e;have k:IntKind.i64.wrap (a.tdiv b)=a.tdiv b:=ah (by omega) (by omega)
 by_cases h:a.tmod b<0
 ·rw [if_pos h] at d;have o:IntKind.i64.wrap (a.tdiv b-1)=a.tdiv b-1:=ah (by omega) (by omega)
  simp [f,h,k,o,d]
 ·rw [if_neg h] at d;simp [f,h,k,d]
def upI (a b:Int):Int:=-(-a / b)
theorem yb (a b:Int) (k:-9223372036854775808<a) (l:a<9223372036854775808) (d:0<b):aG Pg 243 [.int a,.int b] (.int (upI a b)):=by
 intro s;refine Fn243.calls .frz ?_;unfold Fn243.ac;have e:IntKind.i64.wrap (-a) = -a:=ah (by omega) (by omega)
 have o:-9223372036854775808 < -a / b /\ -a / b<9223372036854775808:=by
  have h1:=EL (-a) b;omega
 have f:IntKind.i64.wrap (-(-a / b)) = -(-a / b):=ah (by omega) (by omega)
 simp [e];refine ACalls.pure (sB (-a) b (by omega) (by omega) d) fun c1 m=>?_
 simp [f,upI]
theorem ct (n a b:Int):aG Pg 68 [.int n,.int a,.int b] (.bool (decide (a<=n/\n<=b))):=by
 intro s;refine Fn68.calls .frz ?_;unfold Fn68.ac;by_cases h:a<=n <;> simp [h]
theorem sw (a b:Int) (l:-9223372036854775808<a) (m:a<9223372036854775808) (e:0<b):aG Pg 177 [.int a,.int b] (.int (a / b)):=by
 intro s;refine Fn177.calls .frz ?_;unfold Fn177.ac;have f:b≠0:=Int.ne_of_gt e;obtain ⟨h1,p⟩:=qn e l m;have d:=qY (a:=a) e;have k:IntKind.i64.wrap (a.tdiv b)=a.tdiv b:=ah (by omega) (by omega)
 by_cases h:a.tmod b<0
 ·rw [if_pos h] at d;have o:IntKind.i64.wrap (a.tdiv b-1)=a.tdiv b-1:=ah (by omega) (by omega)
  simp [f,h,k,o,d]
 ·rw [if_neg h] at d;simp [f,h,k,d]
theorem zV (a b:ByteArray):aG Pg 66 [.str a,.str b] (.int (Lib.compareBytes (bs a) (bs b))):=by
 intro s;refine Fn66.calls .frz ?_;unfold Fn66.ac;simp;refine ACalls.pure (v:=.int (Lib.compareBytes (bs a) (bs b))) ?_ fun c1 d=>by simp
 intro s;refine Fn152.calls .frz ?_;unfold Fn152.ac;simp;refine ACalls.pure (sX a b) fun c1 d=>by simp
def bq {a:Type} (p:a->Bool):List a->Int->Int
 | [],_=>-1
 | b::xs,i=>if p b=true then i else bq p xs (i+1)
theorem jc {a:Type} (p:a->Bool):∀ (l:List a) (i:Int),0<=i->(0<=bq p l i↔l.any p=true)
 | [],i,h=>by simp [bq]
 | d::xs,i,h=>by
  have:=jc p xs (i+1) (by omega)
  by_cases b:p d=true <;> simp [bq,b,this,h]
theorem tb {d:Type} (p:d->Bool):∀ (l:List d) (i:Int),0<=i->0<=bq p l i->∃ x,i<=bq p l i/\l[(bq p l i-i).toNat]?=some x/\p x=true
 | [],i,h,a=>by simp [bq] at a
 | x::xs,i,h,a=>by
  by_cases b:p x=true
  ·simp [bq,b]
  ·simp only [bq,b] at a ⊢;obtain ⟨k,h1,e,f⟩:=tb p xs (i+1) (by omega) a
   refine ⟨k,by simpa using by omega,?_,f⟩
   have:(bq p xs (i+1)-i).toNat=(bq p xs (i+1)-(i+1)).toNat+1:=by omega
   simp only [u1,if_false];rw [this]; simpa using e
theorem wU (l:List ByteArray) (x:ByteArray):aG Pg 104 [row (ak l),.str x] (.int (bq (fun y=>decide (x=y)) l 0)):=by
 intro s;refine ACalls.small fun k=>?_;have f:l.length<=68719476736:=by simpa [ak] using k.1.1
 refine Fn104.calls .frz ?_;unfold Fn104.ac;simp [ak];refine bM 8 Fn104.W0 l (fun i r q=>bq (fun y=>decide (x=y)) l 0=bq (fun y=>decide (x=y)) r i) (by rfl) (by rfl) ?_ ?_ ?_
 ·simp
 ·intro p c b d a;simp [b,a,bq]
 ·intro i y ys p c e o f b d a;have m:=q0 (x:=(i:Int)+1)
  simp [b,e,o];by_cases h:x=y
  ·subst h;simp [a,bq]
  ·simp [h,b,m,a,bq,d]
theorem dz (l:List ByteArray) (x:ByteArray):aG Pg 33 [row (ak l),.str x] (.bool (inL x l)):=by
 intro s;refine Fn33.calls .frz ?_;unfold Fn33.ac;simp;refine ACalls.pure (wU l x) fun c1 e=>?_;have:=jc (fun b=>decide (x=b)) l 0 (x7 0);by_cases h:inL x l=true
 ·have a:=this.2 h;simp [h,a]
 ·have a:¬0<=bq (fun b=>decide (x=b)) l 0:=fun d=>h (this.1 d);simp [h,a]
def jO:List UInt8:=[97,98,99,100,101,102,103,104,105,106,107,108,109,110,111,112,113,114,115,116,117,118,119,120,121,122]
def pX:List UInt8:=jO++[48,49,50,51,52,53,54,55,56,57,95]
theorem pT (b:UInt8):Lib.indexByte jO b<0↔eX b=false:=by
 have h:∀ n:Nat,n<256->(decide (Lib.indexByte jO (UInt8.ofNat n)<0)=!eX (UInt8.ofNat n)):=by decide +kernel
 have:=h b.toNat b.toNat_lt;rw [UInt8.ofNat_toNat] at this;cases a:eX b <;> simp [a] at this ⊢ <;> exact this
theorem ra (b:UInt8):Lib.indexByte pX b<0↔eS b=false:=by
 have h:∀ n:Nat,n<256->(decide (Lib.indexByte pX (UInt8.ofNat n)<0)=!eS (UInt8.ofNat n)):=by decide +kernel
 have:=h b.toNat b.toNat_lt;rw [UInt8.ofNat_toNat] at this;cases a:eS b <;> simp [a] at this ⊢ <;> exact this
theorem iK (s:ByteArray):aG Pg 32 [.str s] (.bool (bO s)):=by
 intro Q;refine Fn32.calls .frz ?_;unfold Fn32.ac;simp;refine ACalls.pure (ct _ _ _) fun c1 J=>?_;by_cases h1:1<=s.size/\s.size<=40
 case neg=>
  have m:¬((1:Int)<=s.size/\(s.size:Int)<=40):=by omega
  simp [m,bO,d9,h1]
 have m:((1:Int)<=s.size/\(s.size:Int)<=40):=by omega
 obtain ⟨a,l,k⟩:∃ a l,bs s=a::l:=by
  cases h:bs s with
  | nil=>have:=jh s; rw [h] at this; simp at this; omega
  | cons a l=>exact ⟨a,l,rfl⟩
 simp [m,jV,k];refine ACalls.pure (oP _ _) fun D K=>?_;have t:UInt8.ofNat ((a.toNat:Int)).toNat=a:=by simp
 rw [t];show aT _ _ _ _ _ _ _ (.int (Lib.indexByte jO a)) _;by_cases b:eX a=true
 case neg=>
  have o:Lib.indexByte jO a<0:=(pT a).2 (by simpa using b)
  simp [o,bO,d9,h1,k,b]
 have o:¬Lib.indexByte jO a<0:=fun h=>by rw [(pT a).1 h] at b; cases b
 simp [o,bsI,az];refine ACalls.pure (dz kj s) fun G M=>?_;by_cases p:inL s kj=true
 ·simp [p,bO]
 simp [p];refine bM 21 Fn32.W0 (bs s) (fun i r P=>d9 s=r.all eS) (by rfl) (by rfl) ?_ ?_ ?_
 ·simp [d9,h1,k,b]
 ·intro C c e v f;rw [jh] at e;simp [e,bO,f,p]
 ·intro i x xs C c u z k e v f;have w:(i:Int)<s.size:=by rw [jh] at u; omega
  have y:=q0 (x:=(i:Int)+1)
  simp [e,w,jV,u,z];refine ACalls.pure (oP _ _) fun H O=>?_;have t:UInt8.ofNat ((x.toNat:Int)).toNat=x:=by simp
  rw [t];show aT _ _ _ _ _ _ _ (.int (Lib.indexByte pX x)) _;by_cases d:eS x=true
  ·have q:¬Lib.indexByte pX x<0:=fun h=>by rw [(ra x).1 h] at d; cases d
   simp [q,e,y,f,d];omega
  ·have q:Lib.indexByte pX x<0:=(ra x).2 (by simpa using d)
   simp [q,bO,f,d]
def bB (last:ByteArray):List Wb.Term->Int
 | []=>0
 | a::b=>if bO a.name=false then 5 else if a.coef=0\/¬(-1000<=a.coef/\a.coef<=1000) then 1 else if sle a.name last=true then 7 else bB a.name b
def bC (f:Wb.Form):Int:=if ¬(-1000000<=f.const/\f.const<=1000000) then 1 else if (12:Int)<f.terms.length then 2 else bB ⟨#[]⟩ f.terms
theorem wJ {s:ByteArray} (h:bO s=true):sle s ⟨#[]⟩=false:=by
 have h1:1<=s.size:=by
  simp only [bO,d9,q9,decide_eq_true_eq] at h;exact h.1.1.1.1
 unfold sle;have b:s≠⟨#[]⟩:=by rintro rfl; exact absurd h1 (by decide)
 have d:∀ a:List UInt8,Op.bytesLess a []=false:=by intro a; cases a <;> rfl
 simp only [b,decide_false,Bool.or_false];rw [ByteArray.toList_eq ⟨#[]⟩];exact d _
theorem zW (f:Wb.Form):aG Pg 79 [f.av] (.int (bC f)):=by
 intro s;refine Fn79.calls .frz ?_;unfold Fn79.ac;simp [Form.av,Form.cells];refine ACalls.pure (fS _ _ _) fun c1 aa=>?_;by_cases h1:-1000000<=f.const/\f.const<=1000000
 case neg=>simp [h1,bC]
 simp [h1];by_cases d:(12:Int)<f.terms.length
 ·simp [d,bC,h1]
 simp [d];refine bu 16 Fn79.W0 f.terms (fun i r am al=>∃ last,bB ⟨#[]⟩ f.terms=bB last r/\(i=0->last=⟨#[]⟩)/\∀ b,0<i->f.terms[i-1]?=some b->b.name=last) (by rfl) (by rfl) ?_ ?_ ?_
 ·simp
 ·intro W h c o k a;obtain ⟨last,a,_⟩:=a;simp [o,bC,h1,d,a,bB];exact aA fun t J=>by rw [k.h t (by omega),qv]
 ·intro i b ao W h c H U ai o k a;obtain ⟨last,a,C,D⟩:=a;have Q:=q0 (x:=(i:Int)+1)
  have G:h s.c=some (.row 2 [[.int f.const,row (List.map Term.cells f.terms)]] .live none):=by rw [k.h s.c (by omega)]; simp
  have Z:s.c+1<=c:=by have:=k.c; omega
  have p:∀ {u},retH s.c s.h (upd h c u)=s.h:=fun {u}=>aA fun t J=>by rw [qv,k.h t (by omega),qv]
  simp [o,H,U,Term.cells];refine ACalls.pure (lf b.name) fun Y ab=>?_;cases e:bO b.name
  ·simp [e,bC,h1,d,a,bB,p]
  simp;by_cases l:b.coef=0
  ·simp [l,bC,h1,d,a,bB,e,p]
  simp [l];refine ACalls.pure (fS _ _ _) fun z ag=>?_;by_cases m:-1000<=b.coef/\b.coef<=1000
  case neg=>simp [m,bC,h1,d,a,bB,e,p]
  simp [m];have y:Fr c1 (upd s.h s.c (some (Body.row 2 [[.int f.const,row (List.map Term.cells f.terms)]] RSt.live none))) (upd h c (some (.row 2 [[.str b.name,.int b.coef]] .live none))) z:=k.upd (by have:=k.c; omega) (by omega)
  by_cases v:i=0
  ·subst v;have K:=C rfl;subst K;have P:=wJ e;have R:IntKind.i64.wrap 1=1:=by decide
   simp [R,o,y];rw [a]; simp [bB,e,l,m,P]
  ·have w:0<i:=by omega
   have x:i-1<f.terms.length:=by omega
   have M:=D f.terms[i-1] w (q3 x);have T:IntKind.i64.wrap ((i:Int)-1)=((i-1:Nat):Int):=by rw [ah (by omega) (by omega)]; omega
   have O:s.c≠c:=by omega
   simp [v,w,G,O,T,x,M,Term.cells];by_cases q:sle b.name last=true
   ·simp [q,bC,h1,d,a,bB,e,l,m,p]
   ·simp [q,Q,o,y];rw [a]; simp [bB,e,l,m,q]
theorem zF (f:Wb.Form):aG Pg 25 [f.av] (.int (bC f)):=by
 intro s;refine ACalls.small fun C=>?_;have T:f.terms.length<=68719476736:=by simpa [Form.av,Form.cells] using C.1.2.1.1
 refine Fn25.calls .frz ?_;unfold Fn25.ac;simp [Form.av,Form.cells];refine ACalls.pure (ct _ _ _) fun c1 O=>?_;by_cases h1:-1000000<=f.const/\f.const<=1000000
 case neg=>simp [h1,bC]
 simp [h1];by_cases d:(12:Int)<f.terms.length
 ·simp [d,bC,h1]
 simp [d];refine bu 17 Fn25.W0 f.terms (fun i r H U=>∃ last,H 3=.str last/\bB ⟨#[]⟩ f.terms=bB last r) (by rfl) (by rfl) ?_ ?_ ?_
 ·simp
 ·intro J h c p k a;obtain ⟨last,e,a⟩:=a;simp [p,bC,h1,d,a,bB];exact aA fun t y=>by rw [k.h t (by omega),qv]
 ·intro i b W J h c x G R p k a;obtain ⟨last,v,a⟩:=a;simp at v;have D:=q0 (x:=(i:Int)+1)
  have M:s.c+1<=c:=by have:=k.c; omega
  have o:∀ {u},retH s.c s.h (upd h c u)=s.h:=fun {u}=>aA fun t y=>by rw [qv,k.h t (by omega),qv]
  simp [p,x,G,Term.cells];refine ACalls.pure (iK b.name) fun K P=>?_;cases e:bO b.name
  ·simp [e,bC,h1,d,a,bB,o]
  simp;by_cases l:b.coef=0
  ·simp [l,bC,h1,d,a,bB,e,o]
  simp [l];refine ACalls.pure (ct _ _ _) fun w Q=>?_;by_cases m:-1000<=b.coef/\b.coef<=1000
  case neg=>simp [m,bC,h1,d,a,bB,e,o]
  have z:Fr c1 (upd s.h s.c (some (Body.row 2 [[.int f.const,row (List.map Term.cells f.terms)]] RSt.live none))) (upd h c (some (.row 2 [[.str b.name,.int b.coef]] .live none))) w:=k.upd (by have:=k.c; omega) (by omega)
  simp [m,v];by_cases q:sle b.name last=true
  ·simp [q,bC,h1,d,a,bB,e,l,m,o]
  ·simp [q,D,p,z];rw [a]; simp [bB,e,l,m,q]
def BQ (t:Nat):Nat:=match t with
 | 22=>151
 | 25=>235
 | t=>t
def lz:Go.Shelf.Ren:=⟨fun _=>337,BQ,fun g=>g⟩
theorem yO:Lays8.n4 Tryz.prog lz where
 mixed:=by kernel_rfl
 f4 := ⟨ "slices.Grow[[]warpbeam/api.Bound,warpbeam/api.Bound]", by decide, Tryz.func337.trans (congrArg some (by kernel_rfl))⟩
 t0:=Tryz.underlying0
 a0:=Tryz.isAgg0
 z0:=Tryz.sizeOf0
 v0:=Tryz.zeroValue0
 t3:=Tryz.underlying3
 a3:=Tryz.isAgg3
 z3:=Tryz.sizeOf3
 v3:=Tryz.zeroValue3
 t4:=Tryz.underlying4
 a4:=Tryz.isAgg4
 z4:=Tryz.sizeOf4
 v4:=Tryz.zeroValue4
 t9:=Tryz.underlying9
 a9:=Tryz.isAgg9
 z9:=Tryz.sizeOf9
 v9:=Tryz.zeroValue9
 t20:=Tryz.underlying20
 a20:=Tryz.isAgg20
 z20:=Tryz.sizeOf20
 v20:=Tryz.zeroValue20
 t22:=Tryz.underlying151
 a22:=Tryz.isAgg151
 z22:=Tryz.sizeOf151
 v22:=Tryz.zeroValue151
theorem nL (n:Nat) (ai:0<n) (al:n<=68719476736) (s:St) :
  ACalls Pg 337 [.sl [] true,.int n] s fun av s'=>av=.row s.c 3 0 0/\s'=AM.newRow 3 [] s:=by
 intro d a vs v J;obtain ⟨K,b⟩:=J
 match vs,K,b with
 | [t,R],_,b=>
  have m:=b 0 _ t rfl rfl;have M:=bH (b 1 _ R rfl rfl);subst M;cases m with
  | sl _ _ f cap U ar sz W aa D Y ap ag am Z=>
   have z:cap=0:=D rfl;subst z;have H:(Tryz.prog.info? 235).map (fun i=>(i.size,i.bytes,i.zero.map (·.cells.size)))=some (3,40,some 3):=by kernel_rfl
   obtain ⟨P,G,k⟩:=Option.map_eq_some_iff.1 H;injection k with ao k;injection k with x o;obtain ⟨p,O,o⟩:=Option.map_eq_some_iff.1 o;unfold CallOk;rw [show [Value.slice f ([]:List (List AV)).length 0,Value.int IntKind.i64 (n:Int)].toArray=#[.slice f 0 0,.int .i64 (n:Int)] from rfl,Tryz.call337]
   have y:=Any8.slices_Grow_grow yO P p G O (by omega) f 0 0 n [] a (q5 _) (by omega) (by rw [x]; omega) (by omega) (by simp) (fun _=>rfl) (fun T _ j Q l=>by simp at l)
   refine y.mono fun e ax C=>?_;obtain ⟨rfl,rfl⟩:=C;have q:=v.drew;have ab:=grownCap_ge a (0+n) 0 (lz.t 25);have w:Stp d s a d s a.drew:=⟨.refl d,q5 _,rfl,rfl,rfl,q5 _,fun _ _ _=>rfl,fun _ _ h=>h⟩;obtain ⟨h1,u⟩:=gZ (sz:=3) (cap:=grownCap a (0+n) 0 (lz.t 25)) (es:=[]) (C:=([]:List Value).toArray++Builtin.zeroCells p.cells (0+n-0)++Builtin.zeroCells p.cells (grownCap a (0+n) 0 (lz.t 25)-(0+n))) (e:=lz.t 25) (vs:=[]) q (by decide)
    (by simp [Builtin.zeroCells,o]; omega) (v7 _) ⟨by simp,fun i t m=>by simp at m⟩ (fun j Q l=>by simp at l)
   exact ⟨_,_,_,w.trans u,h1,fZ q (v7 _) (v7 _),rfl,rfl⟩
def fl {a:Type} (b:List (List a)):List a:=b.flatten
def tot {b:Type} (a:List (List b)):Nat:=(fl a).length
theorem tY {e:Type} {a:List (List e)} {l:List e} {xs i} (h:a=a.take i++l::xs) (d:i<a.length):tot (a.take (i+1))=tot (a.take i)+l.length/\tot (a.take i)+l.length<=tot a/\fl (a.take (i+1))=fl (a.take i)++l:=by
 have h1:a[i]=l:=by
  have:(a.take i++l::xs)[i]?=some l:=by
   rw [r1 (by simp; omega)]
   simp [xf (EC d)]
  rw [<-h] at this;exact (q4.1 this).2
 have f:a.take (i+1)=a.take i++[l]:=by rw [<-List.take_append_getElem d,h1]
 have b:fl (a.take (i+1))=fl (a.take i)++l:=by rw [f]; simp [fl]
 refine ⟨by unfold tot; rw [b,s3],?_,b⟩
 have k:fl a=fl (a.take i)++(l++fl xs):=by unfold fl; conv=>lhs; rw [h]; simp
 unfold tot; rw [k]; simp
theorem py (a:List (List Wb.Bound)) (h0:0<tot a) (P:tot a<=68719476736) :
  aG Pg 303 [row (a.map fun l=>[row (l.map Bound.cells)])] (row ((fl a).map Bound.cells)):=by
 intro s;refine ACalls.small fun D=>?_;have Y:a.length<=68719476736:=by simp at D; exact D.1
 refine Fn303.calls .frz ?_;unfold Fn303.ac;simp;refine bM 11 Fn303.W0 a (fun i r x=>x 3=.int (tot (a.take i))) (by rfl) (by rfl) ?_ ?_ ?_
 ·simp [tot,fl]
 ·intro y c e J d;simp at d;simp [e,d];refine (nL (tot a) h0 P _).mono ?_;rintro av w U ⟨rfl,rfl⟩;simp;refine sN 27 Fn303.W1 a c s.h (fun i r x w=>∃ g,c<=g/\g<w.c/\x 6=.row g 3 0 (tot (a.take i))/\w.h g=some (.row 3 ((fl (a.take i)).map Bound.cells) .live none)) (by rfl) (by rfl) ?_ ?_ ?_
  ·simp [tot,fl];exact ⟨(Fr.refl s.h c).upd (q5 _) (rv _),c,q5 _,q7 _,rfl,by simp⟩
  ·intro y h o e k d;obtain ⟨g,C,M,f,q⟩:=d;simp at f;have p:((fl a).map Bound.cells).length=tot a:=by rw [so]; rfl
   have O:h g=some (.row 3 ((fl a).map Bound.cells) .live none):=by simpa using q
   simp [e,f,dj (s:=⟨h,o⟩) O p,-er];refine aA fun R W=>?_;rw [qv,k.h R (by omega)]
  ·intro i l xs y h o m v t e k d;obtain ⟨g,C,M,f,q⟩:=d;simp at f;obtain ⟨h1,G,z⟩:=tY t m;have u:=q0 (x:=(i:Int)+1)
   have p:((fl (a.take i)).map Bound.cells).length=tot (a.take i):=by rw [so]; rfl
   have H:=iM (bytes:=40) (md:=.plain) (xs:=l.map Bound.cells) (b:=false) (s:=⟨h,o⟩) (by simp) q p (by decide) (by decide) (by decide) (fun T K=>by
    obtain ⟨b,_,rfl⟩:=rf.1 K; rfl) (by simp; omega)
   simp [e,m,v,f,H,u,h1,z];exact ⟨(k.upd C (q5 _)).upd k.c (rv _),o,k.c,q7 _,rfl,by simp⟩
 ·intro i l xs y c m v t e J d;simp at d;obtain ⟨h1,G,z⟩:=tY t m;have u:=q0 (x:=(i:Int)+1)
  have Q:=ah (x:=(tot (a.take i):Int)+l.length) (by omega) (by omega)
  have h0:¬((tot (a.take i):Int)+l.length<0):=by omega
  simp [e,m,v,d,Q,h0,u,h1];omega
theorem _root_.Go.AM.ACalls.at {P:Program} {f:FuncId} {args:List AV} {v:AV} {h:Heap} {c:Nat} {K:AV->St->Prop} (e:ACalls P f args ⟨h,c⟩ fun av s'=>av=v/\s'.h=h) (d:∀ c',c<=c'->K v ⟨h,c'⟩):ACalls P f args ⟨h,c⟩ K:=
 ACalls.quiet (R:=fun av=>av=v) e fun _ c' a b=>by subst a; exact d c' b
def qw {d:Type} (f:Nat) (a b:List AV) (av:d->AV) (h:Heap) (c:Nat) (p:d->Bool) (l:List d):Prop:=
 ∀ k∈l,∀ e,c<=e->ACalls Pg f (a++av k::b) ⟨h,e⟩ fun r m=>r=.bool (p k)/\m.h=h
theorem uC {a:Type} (p:a->Bool) (l:List a):decide (0<=bq p l 0)=l.any p:=by
 have:=jc p l 0 (x7 0);cases h:l.any p
 ·simp only [h,u1,iff_false] at this; simp; omega
 ·simp only [h,iff_true] at this; simpa using this
theorem aU {a:Type} {l xs:List a} {x:a} {i:Nat} (h:l=l.take i++x::xs):x∈l:=by rw [h]; simp
theorem oS (l:List Wb.Array) (f:Nat) (a b:List AV) (p:Wb.Array->Bool) (h:Heap) (c:Nat) (t:qw f a b Wb.Array.av h c p l) :
  ACalls Pg 153 [row (l.map Array.cells),.fn (.func f) a b] ⟨h,c⟩ fun av s'=>av=.int (bq p l 0)/\s'.h=h:=by
 refine ACalls.small fun u=>?_;have D:l.length<=68719476736:=by simpa using u.1.1
 refine Fn153.calls .frz ?_;unfold Fn153.ac;simp;refine bM 8 Fn153.W0 l (fun i r G=>bq p l 0=bq p r i) (by rfl) (by rfl) ?_ ?_ ?_
 ·simp
 ·intro y c1 e k d;simp [e,d,bq]
 ·intro i x xs y c1 o w q e k d;have v:=q0 (x:=(i:Int)+1)
  simp [e,o,w,Array.cells];refine ACalls.at (t x (aU q) c1 k) fun z C=>?_;by_cases m:p x=true
  ·simp [m,d,bq]
  ·simp [m,e,v,d,bq]; omega
theorem xT (l:List Wb.Array) (f:Nat) (a b:List AV) (p:Wb.Array->Bool) (h:Heap) (c:Nat) (d:qw f a b Wb.Array.av h c p l) :
  ACalls Pg 232 [row (l.map Array.cells),.fn (.func f) a b] ⟨h,c⟩ fun av s'=>av=.bool (l.any p)/\s'.h=h:=by
 refine Fn232.calls .frz ?_;unfold Fn232.ac;simp;refine ACalls.at (oS l f a b p h c d) fun e k=>?_;simp [uC]
def bp (A:List Wb.Array) (key:ByteArray):Int:=bq (fun a=>decide (a.key=key)) A 0
theorem xK (x:Wb.Array) (key:ByteArray) (h:Heap) (c g:Nat) (a:h g=some (.row 1 [[.str key]] .live none)) (d:g<c) :
  ACalls Pg 187 [x.av,.ptr g 0 0] ⟨h,c⟩ fun av s'=>av=.bool (decide (x.key=key))/\s'.h=h:=by
 refine Fn187.calls .frz ?_;unfold Fn187.ac;have b:g≠c:=by omega
 simp [Array.av,Array.cells,a,b]
theorem lO (p:Wb.Prog) (key:ByteArray):aG Pg 117 [p.av,.str key] (.int (bp p.arrays key)):=by
 intro s;refine Fn117.calls .frz ?_;unfold Fn117.ac;simp [Prog.av];refine ACalls.at (oS p.arrays _ _ _ (fun a=>decide (a.key=key)) _ _ ?_) fun e k=>?_
 ·intro d l b f;exact xK d key _ b _ (by simp) (by omega)
 ·simp [bp]
theorem xu (x:Wb.Array) (key:ByteArray) (h:Heap) (c g:Nat) (a:h g=some (.row 1 [[.str key]] .live none)) (d:g<c) :
  ACalls Pg 154 [x.av,.ptr g 0 0] ⟨h,c⟩ fun av s'=>av=.bool (decide (x.key=key))/\s'.h=h:=by
 refine Fn154.calls .frz ?_;unfold Fn154.ac;have b:g≠c:=by omega
 simp [Array.av,Array.cells,a,b]
theorem iL (p:Wb.Prog) (key:ByteArray):aG Pg 67 [p.av,.str key] (.int (bp p.arrays key)):=by
 intro s;refine Fn67.calls .frz ?_;unfold Fn67.ac;simp [Prog.av];refine ACalls.at (oS p.arrays _ _ _ (fun a=>decide (a.key=key)) _ _ ?_) fun e k=>?_
 ·intro d l b f;exact xu d key _ b _ (by simp) (by omega)
 ·simp [bp]
def dK (f:Wb.Form):Bool:=decide (f.const=0)&&decide ((f.terms.length:Int)=0)
theorem sI (f:Wb.Form):aG Pg 336 [f.av] (.bool (dK f)):=by
 intro s;refine Fn336.calls .frz ?_;unfold Fn336.ac;by_cases h:f.const=0 <;> simp [Form.av,Form.cells,dK,h]
theorem lT (f:Wb.Form):aG Pg 308 [f.av] (.bool (dK f)):=by
 intro s;refine Fn308.calls .frz ?_;unfold Fn308.ac;by_cases h:f.const=0 <;> simp [Form.av,Form.cells,dK,h]
theorem Expr.cells_mk (op n:Int) (a:Wb.Form) (array:ByteArray) (subs:List Wb.Form) (args:List Wb.Expr) :
  (Wb.Expr.mk op n a array subs args).cells=[.int op,.int n,.int a.const,row (a.terms.map Term.cells),.str array,row (subs.map Form.cells),row (args.map Expr.cells)]:=by
 rw [Expr.cells,Expr.list_map]
theorem Step.cells_mk (kind:Int) (name:ByteArray) (low d:List Wb.Bound) (b:List Wb.Form) (body:List Wb.Step) (array:ByteArray) (subs:List Wb.Form) (op n:Int) (a:Wb.Form) (ea:ByteArray) (es:List Wb.Form) (args:List Wb.Expr) :
  (Wb.Step.mk kind name low d b body array subs (.mk op n a ea es args)).cells=[.int kind,.str name,row (low.map Bound.cells),row (d.map Bound.cells),row (b.map Form.cells),row (body.map Step.cells),.str array,row (subs.map Form.cells),
   .int op,.int n,.int a.const,row (a.terms.map Term.cells),.str ea,row (es.map Form.cells),row (args.map Expr.cells)]:=by
 rw [Step.cells,Expr.cells_mk,Step.list_map]; rfl
def ck:ByteArray:=⟨#[]⟩
def dw:Wb.Expr->Bool
 | .mk d n b array subs a=>decide (d=0)&&decide (n=0)&&dK b&&decide (array=ck)&&decide ((subs.length:Int)=0)&&decide ((a.length:Int)=0)
theorem yi (e:Wb.Expr):aG Pg 302 [e.av] (.bool (dw e)):=by
 intro s;obtain ⟨m,n,f,array,subs,o⟩:=e;refine Fn302.calls .frz ?_;unfold Fn302.ac;by_cases h1:m=0
 case neg=>simp [Expr.av,Expr.cells_mk,dw,h1]
 by_cases a:n=0
 case neg=>simp [Expr.av,Expr.cells_mk,dw,h1,a]
 simp [Expr.av,Expr.cells_mk,h1,a];refine ACalls.pure (sI f) fun c1 p=>?_;cases b:dK f
 ·simp [dw,h1,a,b]
 by_cases d:array=ck
 case neg=>have k:=d; unfold ck at k; simp [dw,h1,a,b,d,k]
 by_cases l:subs=[]
 ·simp [dw,h1,a,b,d,l,ck]
 ·simp [dw,h1,a,b,d,l,ck]
theorem yc (e:Wb.Expr):aG Pg 245 [e.av] (.bool (dw e)):=by
 intro s;refine ACalls.small fun p=>?_;obtain ⟨t,n,k,array,subs,b⟩:=e;have v:subs.length<=68719476736/\b.length<=68719476736:=by
  simp [Expr.av,Expr.cells_mk] at p;omega
 refine Fn245.calls .frz ?_;unfold Fn245.ac;by_cases h1:t=0
 case neg=>simp [Expr.av,Expr.cells_mk,dw,h1]
 by_cases a:n=0
 case neg=>simp [Expr.av,Expr.cells_mk,dw,h1,a]
 simp [Expr.av,Expr.cells_mk,h1,a];refine ACalls.pure (lT k) fun c1 u=>?_;cases d:dK k
 ·simp [dw,h1,a,d]
 by_cases f:array=ck
 case neg=>have l:=f; unfold ck at l; simp [dw,h1,a,d,f,l]
 have q:=q0 (x:=(subs.length:Int)+(b.length:Int))
 simp [dw,h1,a,d,f,ck,q];by_cases m:subs=[] <;> by_cases o:b=[] <;> simp [m,o]
 ·have:=r6.2 m; omega
def aY (op n:Int) (a:Wb.Form) (array:ByteArray) (subs:List Wb.Form) (args:List Wb.Expr):Bool:=
 if op=1 then decide (args=[])&&dK a&&(decide (array=ck)&&decide (subs=[]))
 else if op=2 then decide (args=[])&&decide (n=0)&&(decide (array=ck)&&decide (subs=[]))
 else if op=3 then decide (args=[])&&decide (n=0)&&dK a
 else decide ((args.length:Int)=2)&&decide (n=0)&&dK a&&(decide (array=ck)&&decide (subs=[]))
theorem yu (op n:Int) (a:Wb.Form) (array:ByteArray) (subs:List Wb.Form) (args:List Wb.Expr):aG Pg 338 [(Wb.Expr.mk op n a array subs args).av] (.bool (aY op n a array subs args)):=by
 intro s;refine Fn338.calls .frz ?_;unfold Fn338.ac;simp [Expr.av,Expr.cells_mk];have q:∀ {h:Heap},retH s.c s.h (upd h s.c none)=retH s.c s.h h:=fun {h}=>mw (q5 _);by_cases h1:array=⟨#[]⟩
 all_goals by_cases k:subs=[]
 all_goals by_cases b:op=1
 all_goals by_cases d:op=2
 all_goals by_cases e:op=3
 all_goals by_cases l:args=[]
 all_goals by_cases m:n=0
 all_goals by_cases f:(args.length:Int)=2
 all_goals first | (exfalso; subst b; exact absurd d (by decide)) | (exfalso; subst b; exact absurd e (by decide)) | (exfalso; subst d; exact absurd e (by decide)) | (exfalso; rw [l] at f; exact absurd f (by decide)) | skip
 all_goals simp [h1,k,b,d,e,l,m,f,aY,ck]
 all_goals (refine ACalls.pure (sI a) fun c1 p=>?_; cases o:dK a <;> simp [o,h1,k])
def bP (kind:Int) (name:ByteArray) (low b:List Wb.Bound) (a:List Wb.Form) (body:List Wb.Step) (array:ByteArray) (subs:List Wb.Form) (expr:Wb.Expr):Bool:=
 if kind=1 then decide (a=[])&&(decide (array=ck)&&decide (subs=[])&&dw expr)
 else if kind=2 then decide (name=ck)&&(decide (low=[])&&decide (b=[]))&&(decide (array=ck)&&decide (subs=[])&&dw expr)
 else (decide (low=[])&&decide (b=[]))&&decide (a=[])&&decide (body=[])
theorem xV (kind:Int) (name:ByteArray) (low m:List Wb.Bound) (k:List Wb.Form) (body:List Wb.Step) (array:ByteArray) (subs:List Wb.Form) (expr:Wb.Expr) :
  aG Pg 234 [(Wb.Step.mk kind name low m k body array subs expr).av] (.bool (bP kind name low m k body array subs expr)):=by
 intro s;obtain ⟨x,n,t,p,q,o⟩:=expr;have w:=yi (.mk x n t p q o);rw [Expr.av,Expr.cells_mk] at w;refine Fn234.calls .frz ?_;unfold Fn234.ac;simp [Step.av,Step.cells_mk];by_cases y:low=[]/\m=[]
 case neg=>
  by_cases a:low=[]
  all_goals first | (have l:¬m=[]:=fun h=>y ⟨a,h⟩; simp [a,l]) | simp [a]
  all_goals by_cases b:array=⟨#[]⟩
  all_goals by_cases d:subs=[]
  all_goals first | (simp [b,d]; refine ACalls.pure w fun c1 C=>?_; cases D:dw (.mk x n t p q o)) | skip
  all_goals by_cases e:kind=1
  all_goals by_cases f:kind=2
  all_goals first | (exfalso; subst e; exact absurd f (by decide)) | skip
  all_goals by_cases u:k=[]
  all_goals by_cases v:name=⟨#[]⟩
  all_goals simp [bP,ck,a,b,d,e,f,u,v, *]
 case pos=>
  obtain ⟨a,l⟩:=y;simp [a,l];by_cases b:array=⟨#[]⟩
  all_goals by_cases d:subs=[]
  all_goals first | (simp [b,d]; refine ACalls.pure w fun c1 C=>?_; cases D:dw (.mk x n t p q o)) | skip
  all_goals by_cases e:kind=1
  all_goals by_cases f:kind=2
  all_goals first | (exfalso; subst e; exact absurd f (by decide)) | skip
  all_goals by_cases u:k=[]
  all_goals by_cases v:name=⟨#[]⟩
  all_goals by_cases z:body=[]
  all_goals simp [bP,ck,a,l,b,d,e,f,u,v,z, *]
def ec (L:List ByteArray):List Wb.Term->Int
 | []=>0
 | a::b=>if inL a.name L=true then ec L b else 16
def cf (f:Wb.Form) (L:List ByteArray):Int:=if bC f=0 then ec L f.terms else bC f
def bU (L:List ByteArray):List Wb.Form->Int
 | []=>0
 | a::b=>if cf a L=0 then bU L b else cf a L
theorem lS (c:AV) (f:Wb.Form) (L:List ByteArray) (z:norm c=c):aG Pg 304 [c,f.av,row (ak L)] (.int (cf f L)):=by
 intro s;refine ACalls.small fun m=>?_;have H:f.terms.length<=68719476736:=by simp [Form.av,Form.cells] at m; exact m.2.1.1
 refine Fn304.calls .frz ?_;unfold Fn304.ac;simp [Form.av,Form.cells];refine ACalls.pure (zW f) fun c1 C=>?_;by_cases h1:bC f=0
 case neg=>simp [h1,cf]
 simp [h1];refine bu 18 Fn304.W0 f.terms (fun i r K J=>ec L f.terms=ec L r) (by rfl) (by rfl) ?_ ?_ ?_
 ·simp
 ·intro x h c d a b;simp [d,cf,h1,b,ec];exact aA fun e t=>by rw [a.h e (by omega),qv]
 ·intro i o M x h c q w G d a b;have v:=q0 (x:=(i:Int)+1)
  have p:=a.c;simp [d,q,w,Term.cells];refine ACalls.pure (dz L o.name) fun y D=>?_;have u:∀ {k},retH s.c s.h (upd h c k)=s.h:=fun {k}=>aA fun e t=>by rw [qv,a.h e (by omega),qv]
  cases l:inL o.name L
  ·simp [cf,h1,b,ec,l,u]
  ·simp [v,d,b,ec,l];exact a.upd p (by omega)
theorem lR (f:Wb.Form) (L:List ByteArray):aG Pg 247 [f.av,row (ak L)] (.int (cf f L)):=by
 intro s;refine ACalls.small fun m=>?_;have G:f.terms.length<=68719476736:=by simp [Form.av,Form.cells] at m; exact m.1.1
 refine Fn247.calls .frz ?_;unfold Fn247.ac;simp [Form.av,Form.cells];refine ACalls.pure (zF f) fun c1 z=>?_;by_cases h1:bC f=0
 case neg=>simp [h1,cf]
 simp [h1];refine bu 16 Fn247.W0 f.terms (fun i r J H=>ec L f.terms=ec L r) (by rfl) (by rfl) ?_ ?_ ?_
 ·simp
 ·intro x h c d a b;simp [d,cf,h1,b,ec];exact aA fun e t=>by rw [a.h e (by omega),qv]
 ·intro i o K x h c q w D d a b;have v:=q0 (x:=(i:Int)+1)
  have p:=a.c;simp [d,q,w,Term.cells];refine ACalls.pure (dz L o.name) fun y C=>?_;have u:∀ {k},retH s.c s.h (upd h c k)=s.h:=fun {k}=>aA fun e t=>by rw [qv,a.h e (by omega),qv]
  cases l:inL o.name L
  ·simp [cf,h1,b,ec,l,u]
  ·simp [v,d,b,ec,l];exact a.upd p (by omega)
def ii (A:List Wb.Array) (key:ByteArray):List Int:=match A[(bp A key).toNat]? with
 | some a=>a.sizes
 | none=>[]
def bV (A:List Wb.Array) (key:ByteArray) (subs:List Wb.Form) (L:List ByteArray):Int:=
 if bp A key<0 then 8 else if (ii A key).length≠subs.length then 3 else bU L subs
theorem iq {A:List Wb.Array} {key:ByteArray} (h:¬bp A key<0):∃ (i:Nat) (a:Wb.Array) (d:i<A.length),bp A key=i/\A[i]=a/\a.key=key/\ii A key=a.sizes:=by
 obtain ⟨a,h1,b,e⟩:=tb (fun a:Wb.Array=>decide (a.key=key)) A 0 (x7 0) (by unfold bp at h; omega)
 have h0:bq (fun a:Wb.Array=>decide (a.key=key)) A 0-0=bp A key:=by unfold bp; omega
 rw [h0] at b;have d:=(q4.1 b).1;refine ⟨(bp A key).toNat,a,d,by omega,(q4.1 b).2,by simpa using e,?_⟩
 unfold ii;rw [b]
def ee (h:Heap) (g:Nat) (A:List Wb.Array) (S:List Wb.Step) (a:Nat) (n:Int):Prop:=h g=some (.row 4 [[row (A.map Array.cells),row (S.map Step.cells),.map a,.int n]] .live none)
theorem sE (A:List Wb.Array) (S:List Wb.Step) (v:Nat) (n:Int) (g:Nat) (key:ByteArray) (subs:List Wb.Form) (L:List ByteArray) (h0:Heap) (c0:Nat) (l:ee h0 g A S v n) (T:g<c0) :
  ACalls Pg 305 [.ptr g 0 0,.str key,row (subs.map Form.cells),row (ak L)] ⟨h0,c0⟩ fun av s'=>av=.int (bV A key subs L)/\s'.h=h0:=by
 unfold ee at l;refine ACalls.small fun u=>?_;have W:subs.length<=68719476736:=by simp at u; exact u.1.1
 refine Fn305.calls .frz ?_;unfold Fn305.ac;simp [l];refine ACalls.pure (lO ⟨A,S⟩ key) fun c1 Q=>?_;by_cases h1:bp A key<0
 ·simp [h1,bV]
 obtain ⟨i,f,m,w,x,P,k⟩:=iq h1;have D:¬((i:Int)<0):=by omega
 simp [w,l,m,x,Array.cells,an,D];by_cases y:(f.sizes.length:Int)=subs.length
 case neg=>
  have a:f.sizes.length≠subs.length:=by omega
  simp [y,a,bV,h1,k]
 have a:f.sizes.length=subs.length:=by omega
 simp [a];refine bu 38 Fn305.W0 subs (fun i r Y s'=>bU L subs=bU L r) (by rfl) (by rfl) ?_ ?_ ?_
 ·simp
 ·intro K h c e b d;simp [e,bV,h1,k,a,d,bU];exact aA fun o C=>b.h o (by omega)
 ·intro i q O K h c m J U e b d;have H:=q0 (x:=(i:Int)+1)
  have z:=b.c;have G:∀ {p},retH c0 h0 (upd h c p)=h0:=fun {p}=>aA fun o C=>by rw [qv,b.h o (by omega)]
  simp [e,m,J,Form.cells];refine ACalls.pure (lS (.ptr g 0 0) q L rfl) fun M R=>?_;by_cases t:cf q L=0
  ·simp [t,H,e,d,bU];exact b.upd z (by omega)
  ·simp [t,bV,h1,k,a,d,bU,G]
def fe (h:Heap) (g:Nat) (A:List Wb.Array) (S:List Wb.Step) (a:AV) (n:Int):Prop:=h g=some (.row 4 [[row (A.map Array.cells),row (S.map Step.cells),a,.int n]] .live none)
theorem sD (A:List Wb.Array) (S:List Wb.Step) (v:AV) (n:Int) (g:Nat) (key:ByteArray) (subs:List Wb.Form) (L:List ByteArray) (h0:Heap) (c0:Nat) (k:fe h0 g A S v n) (T:g<c0) :
  ACalls Pg 248 [.ptr g 0 0,.str key,row (subs.map Form.cells),row (ak L)] ⟨h0,c0⟩ fun av s'=>av=.int (bV A key subs L)/\s'.h=h0:=by
 unfold fe at k;refine ACalls.small fun u=>?_;have W:subs.length<=68719476736:=by simp at u; exact u.1.1
 refine Fn248.calls .frz ?_;unfold Fn248.ac;simp [k];refine ACalls.pure (iL ⟨A,S⟩ key) fun c1 Q=>?_;by_cases h1:bp A key<0
 ·simp [h1,bV]
 obtain ⟨i,o,l,w,x,P,f⟩:=iq h1;have D:¬((i:Int)<0):=by omega
 simp [w,k,l,x,Array.cells,an,D];by_cases b:o.sizes.length=subs.length
 case neg=>
  have y:¬(subs.length:Int)=o.sizes.length:=by omega
  simp [b,y,bV,h1,f]
 simp [b];refine bu 36 Fn248.W0 subs (fun i r Y s'=>bU L subs=bU L r) (by rfl) (by rfl) ?_ ?_ ?_
 ·simp
 ·intro K h c e a d;simp [e,bV,h1,f,b,d,bU];exact aA fun m C=>a.h m (by omega)
 ·intro i q O K h c l J U e a d;have H:=q0 (x:=(i:Int)+1)
  have z:=a.c;have G:∀ {p},retH c0 h0 (upd h c p)=h0:=fun {p}=>aA fun m C=>by rw [qv,a.h m (by omega)]
  simp [e,l,J,Form.cells];refine ACalls.pure (lR q L) fun M R=>?_;by_cases t:cf q L=0
  ·simp [t,H,e,d,bU];exact a.upd z (by omega)
  ·simp [t,bV,h1,f,b,d,bU,G]
mutual
def aK (A:List Wb.Array) (L:List ByteArray) (d:Int):Wb.Expr->Int
 | .mk op n form array subs args=>
  if 12<d then 2 else if ¬(1<=op/\op<=6) then 4 else if aY op n form array subs args=false then 3 else if ¬(0<=n/\n<=1000002) then 1
  else if op=2 then cf form L else if op=3 then bV A array subs L else bv A L (d+1) args
def bv (A:List Wb.Array) (L:List ByteArray) (d:Int):List Wb.Expr->Int
 | []=>0
 | e::es=>if aK A L d e=0 then bv A L d es else aK A L d e
end
theorem Expr.av_mk (op n:Int) (a:Wb.Form) (array:ByteArray) (subs:List Wb.Form) (args:List Wb.Expr) :
  (Wb.Expr.mk op n a array subs args).av=.agg [.int op,.int n,.int a.const,row (a.terms.map Term.cells),.str array,row (subs.map Form.cells),row (args.map Expr.cells)]:=by
 rw [Expr.av,Expr.cells_mk]
theorem qA (f:Wb.Form) (h:dK f=true):bC f=0/\f.terms=[]:=by
 simp only [dK,q9,decide_eq_true_eq] at h;obtain ⟨h1,b⟩:=h;have a:f.terms=[]:=s6.1 (by omega)
 exact ⟨by simp [bC,h1,a,bB],a⟩
theorem ui (f:Wb.Form) (L:List ByteArray) (h:dK f=true):cf f L=0:=by
 obtain ⟨h1,a⟩:=qA f h;simp [cf,h1,a,ec]
theorem dF {op n:Int} {a:Wb.Form} {array:ByteArray} {subs:List Wb.Form} {args:List Wb.Expr} (h:aY op n a array subs args=true) (b:op=1\/op=2\/op=3):args=[]:=by
 unfold aY at h;rcases b with rfl | rfl | rfl <;> simp at h
 ·exact h.1.1
 ·exact h.1.1
 ·exact h.1.1
theorem yj (A:List Wb.Array) (S:List Wb.Step) (G:Nat) (K:Int) (g:Nat) (L:List ByteArray):∀ (N:Nat) (e:Wb.Expr) (a:Int) (h0:Heap) (c0:Nat),14<=a+N -> -1000<=a->a<=13->ee h0 g A S G K->g<c0 ->
  ACalls Pg 306 [.ptr g 0 0,e.av,.int a,row (ak L)] ⟨h0,c0⟩ fun av s'=>av=.int (aK A L a e)/\s'.h=h0:=by
 intro N
 induction N with
 | zero=>intro e a h0 c0 a1 a4 a5; omega
 | succ N ax=>
  intro e a h0 c0 a1 a4 a5 a2 bi;obtain ⟨l,n,o,array,subs,k⟩:=e;have ap:=yu l n o array subs k;rw [Expr.av_mk] at ap ⊢;refine ACalls.small fun ar=>?_;have bj:k.length<=68719476736:=by simp at ar; exact ar.1.2.2.1
  refine Fn306.calls .frz ?_;unfold Fn306.ac;have bk:¬c0=g:=by omega
  have bl:¬g=c0:=by omega
  by_cases h1:12<a
  ·simp [h1,aK]
  simp [h1];refine ACalls.pure (fS _ _ _) fun c1 a'=>?_;by_cases v:1<=l/\l<=6
  case neg=>simp [h1,v,aK]
  simp [v];refine ACalls.pure ap fun a8 bb=>?_;cases m:aY l n o array subs k
  ·simp [h1,v,m,aK]
  simp;refine ACalls.pure (fS _ _ _) fun a9 bc=>?_;by_cases w:0<=n/\n<=1000002
  case neg=>simp [h1,v,m,w,aK]
  simp [w];refine ACalls.pure (lS (.ptr g 0 0) o L rfl) fun P bf=>?_;by_cases x:cf o L=0
  case neg=>
   have b:l=2:=by
    apply sx;intro b;apply x;apply ui;simp only [aY] at m
    repeat' split at m
    all_goals simp_all
   simp [x,h1,v,m,w,b,aK];subst b;simp [aK,h1,m,w]
  have H:bV A array subs L=0\/l≠3->aK A L a (.mk l n o array subs k)=bv A L (a+1) k:=by
   intro q;simp only [aK,h1,v,m,w,if_false];by_cases b:l=2
   ·have:=dF m (by omega); subst this; simp [b,x,bv]
   ·by_cases R:l=3
    ·have:=dF m (by omega); subst this
     rcases q with q | q
     ·simp [R,q,bv]
     ·exact absurd R q
    ·simp [b,R]
  have U:∀ {h:Heap} {c:Nat} {f:Option Body},Fr P (upd h0 c0 f) h c->ee h g A S G K:=by
   intro h c f d;unfold ee;rw [d.h g (by omega),qv]
   exact a2
  by_cases b:l=3
  case neg=>
   simp [x,b];refine bu 55 Fn306.W0 k (fun i r a7 s'=>bv A L (a+1) k=bv A L (a+1) r) (by rfl) (by rfl) ?_ ?_ ?_
   ·simp
   ·intro am h c t d p;simp [t,H (.inr b),p,bv];exact aA fun u J=>by rw [d.h u (by omega),qv]
   ·intro i e a0 am h c W ab a6 t d p;have Z:=q0 (x:=(i:Int)+1)
    have aa:=q0 (x:=a+1)
    have T:=d.c;have Y:∀ {f},retH c0 h0 (upd h c f)=h0:=fun {f}=>aA fun u J=>by rw [qv,d.h u (by omega),qv]
    have z:∀ {f:Option Body} {c':Nat},c<=c'->Fr P (upd h0 c0 (some (.row 7 [[.int l,.int n,.int o.const,row (o.terms.map Term.cells),.str array,row (subs.map Form.cells),row (k.map Expr.cells)]] .live none))) (upd h c f) c':=fun q=>d.upd T q;have C:=ax e (a+1) (upd h c (some (.row 7 [e.cells] .live none))) (c+1) (by omega) (by omega) (by omega) (U (z (c':=c+1) (by omega))) (by omega)
    obtain ⟨ai,ag,Q,O,al,M⟩:=e;rw [Expr.av_mk,Expr.cells_mk] at C;simp [t,W,ab,Expr.cells_mk,aa];refine ACalls.at C fun D ao=>?_;by_cases y:aK A L (a+1) (.mk ai ag Q O al M)=0
    ·simp [y,Z,t,p,bv];exact z (by omega)
    ·simp [y,H (.inr b),p,bv,Y]
  case pos=>
   subst b;simp [x];refine ACalls.at (sE A S G K g array subs L _ P (U (Fr.le (q5 _))) (by omega)) fun D ao=>?_
   by_cases b:bV A array subs L=0
   case neg=>simp [b,h1,m,w,aK]
   simp [b];have a3:∀ {h:Heap} {c:Nat} {f:Option Body},Fr D (upd h0 c0 f) h c->ee h g A S G K:=fun d=>U ⟨by have:=d.c; omega,fun u J=>d.h u (by omega)⟩
   refine bu 55 Fn306.W0 k (fun i r a7 s'=>bv A L (a+1) k=bv A L (a+1) r) (by rfl) (by rfl) ?_ ?_ ?_
   ·simp
   ·intro am h c t d p;simp [t,H (.inl b),p,bv];exact aA fun u J=>by rw [d.h u (by omega),qv]
   ·intro i e a0 am h c W ab a6 t d p;have Z:=q0 (x:=(i:Int)+1)
    have aa:=q0 (x:=a+1)
    have T:=d.c;have Y:∀ {f},retH c0 h0 (upd h c f)=h0:=fun {f}=>aA fun u J=>by rw [qv,d.h u (by omega),qv]
    have z:∀ {f:Option Body} {c':Nat},c<=c'->Fr D (upd h0 c0 (some (.row 7 [[.int 3,.int n,.int o.const,row (o.terms.map Term.cells),.str array,row (subs.map Form.cells),row (k.map Expr.cells)]] .live none))) (upd h c f) c':=fun q=>d.upd T q;have C:=ax e (a+1) (upd h c (some (.row 7 [e.cells] .live none))) (c+1) (by omega) (by omega) (by omega) (a3 (z (c':=c+1) (by omega))) (by omega)
    obtain ⟨ai,ag,Q,O,al,M⟩:=e;rw [Expr.av_mk,Expr.cells_mk] at C;simp [t,W,ab,Expr.cells_mk,aa];refine ACalls.at C fun D ao=>?_;by_cases y:aK A L (a+1) (.mk ai ag Q O al M)=0
    ·simp [y,Z,t,p,bv];exact z (by omega)
    ·simp [y,H (.inl b),p,bv,Y]
def bQ (L:List ByteArray) (a:List Wb.Form):Int:=if a=[] then 8 else if (6:Int)<a.length then 2 else bU L a
def bF (L:List ByteArray):List Wb.Bound->Int
 | []=>0
 | a::bs=>if cf a.form L=0 then (if 1<=a.div/\a.div<=1000 then bF L bs else 1) else cf a.form L
def bD (A:List Wb.Array) (L:List ByteArray) (name:ByteArray) (low a:List Wb.Bound):Int:=
 if inL name L=true\/0<=bp A name then 6 else if low=[]\/a=[] then 8 else if (6:Int)<low.length\/(6:Int)<a.length then 2 else bF L (low++a)
theorem Step.av_mk (kind:Int) (name:ByteArray) (low d:List Wb.Bound) (b:List Wb.Form) (body:List Wb.Step) (array:ByteArray) (subs:List Wb.Form) (op n:Int) (a:Wb.Form) (ea:ByteArray) (es:List Wb.Form) (args:List Wb.Expr) :
  (Wb.Step.mk kind name low d b body array subs (.mk op n a ea es args)).av=.agg [.int kind,.str name,row (low.map Bound.cells),row (d.map Bound.cells),row (b.map Form.cells),row (body.map Step.cells),.str array,row (subs.map Form.cells),
   .int op,.int n,.int a.const,row (a.terms.map Term.cells),.str ea,row (es.map Form.cells),row (args.map Expr.cells)]:=by
 rw [Step.av,Step.cells_mk]
theorem xX (c:AV) (s:Wb.Step) (a:List Wb.Form) (L:List ByteArray) (q:norm c=c) (k:∃ kind name low t body array subs expr,s=.mk kind name low t a body array subs expr) :
  aG Pg 236 [c,s.av,row (ak L)] (.int (bQ L a)):=by
 obtain ⟨kind,name,low,t,body,array,subs,⟨R,n,K,H,J,D⟩,rfl⟩:=k;rw [Step.av_mk];intro s;refine ACalls.small fun k=>?_;have Q:a.length<=68719476736:=by simp at k; omega
 refine Fn236.calls .frz ?_;unfold Fn236.ac;by_cases h1:a=[]
 ·simp [h1,bQ]
 simp [h1];by_cases d:(6:Int)<a.length
 ·simp [h1,d,bQ]
 simp [d];refine bu 23 Fn236.W0 a (fun i r U T=>bU L a=bU L r) (by rfl) (by rfl) ?_ ?_ ?_
 ·simp
 ·intro C h c f b e;simp [f,bQ,h1,d,e,bU];exact aA fun l w=>by rw [b.h l (by omega),qv]
 ·intro i o M C h c v z P f b e;have y:=q0 (x:=(i:Int)+1)
  have u:=b.c;have x:∀ {m},retH s.c s.h (upd h c m)=s.h:=fun {m}=>aA fun l w=>by rw [qv,b.h l (by omega),qv]
  simp [f,v,z,Form.cells,q];refine ACalls.pure (lS _ o L q) fun G O=>?_;by_cases p:cf o L=0
  ·simp [p,y,f,e,bU];exact b.upd u (by omega)
  ·simp [p,bQ,h1,d,e,bU,x]
theorem xW (A:List Wb.Array) (S:List Wb.Step) (Z:Nat) (ao:Int) (g:Nat) (kind:Int) (name:ByteArray) (low a:List Wb.Bound) (Y:List Wb.Form) (body:List Wb.Step) (array:ByteArray) (subs:List Wb.Form) (expr:Wb.Expr) (L:List ByteArray)
  (h0:Heap) (c0:Nat) (D:ee h0 g A S Z ao) (y:g<c0) :
  ACalls Pg 235 [.ptr g 0 0,(Wb.Step.mk kind name low a Y body array subs expr).av,row (ak L)] ⟨h0,c0⟩ fun av s'=>av=.int (bD A L name low a)/\s'.h=h0:=by
 obtain ⟨bf,n,a4,a2,a3,ap⟩:=expr;rw [Step.av_mk];unfold ee at D;have P:¬c0=g:=by omega
 have Q:¬g=c0:=by omega
 refine Fn235.calls .frz ?_;unfold Fn235.ac;simp;refine ACalls.pure (dz L name) fun c1 a6=>?_;cases h1:inL name L
 case true=>simp [bD,h1]
 simp [D,P,Q];refine ACalls.pure (lO ⟨A,S⟩ name) fun ar a7=>?_;by_cases m:0<=bp A name
 ·simp [bD,h1,m]
 simp [m,bsI,az];have M:∀ (i:Nat) (x:List Wb.Bound) (k:i<[low,a].length),[low,a][i]=x->([[row (low.map Bound.cells)],[row (a.map Bound.cells)]]:List (List AV))[i]?=some [row (x.map Bound.cells)]:=by
  intro i x k o;show ([low,a].map fun d=>[row (d.map Bound.cells)])[i]?=_;rw [rb,q3 k,o]; rfl
 refine bM 36 Fn235.W0 [low,a] (fun i r W=>(low=[]\/a=[])↔∃ d∈r,d=[]) (by rfl) (by rfl) ?_ ?_ ?_
 ·simp
 ·intro z c b a5 l;simp at b l;simp [b];refine bM 46 Fn235.W1 [low,a] (fun i r W=>((6:Int)<low.length\/(6:Int)<a.length)↔∃ d∈r,(6:Int)<d.length) (by rfl) (by rfl) ?_ ?_ ?_
  ·simp
  ·intro bi H U J w;simp at U;have C:¬((6:Int)<low.length\/(6:Int)<a.length):=by rw [w]; simp
   simp [U,bsI,az,D,P,Q];have T:tot [low,a]=low.length+a.length:=by simp [tot,fl]
   have ab:fl [low,a]=low++a:=by simp [fl]
   have bc:0<low.length:=r6.2 l.1;refine ACalls.pure (py [low,a] (by rw [T]; omega) (by rw [T]; omega)) fun ax a8=>?_
   rw [ab];simp;have al:(low.length:Int)+a.length=((low++a).length:Int):=by simp
   rw [<-List.map_append];refine bu 61 Fn235.W2 (low++a) (fun i r W s'=>bF L (low++a)=bF L r) (by rfl) (by rfl) ?_ ?_ ?_
   ·simp
   ·intro z h c b p q;rw [show (((low++a).length:Nat):Int)=(low.length:Int)+a.length by simp] at b
    simp [b,bD,h1,m,l,C,q,bF];exact aA fun G ai=>by rw [p.h G (by omega),qv]
   ·intro i f bs z h c k o O b p q;have bb:(low++a).length<=12:=by simp; omega
    have t:(i:Int)<(low.length:Int)+a.length:=by rw [al]; omega
    have u:=q0 (x:=(i:Int)+1)
    have aa:=p.c;have R:∀ {f},retH c0 h0 (upd h c f)=h0:=fun {f}=>aA fun G ai=>by rw [qv,p.h G (by omega),qv]
    have K:((low++a).map Bound.cells)[i]?=some [.int f.form.const,row (f.form.terms.map Term.cells),.int f.div]:=by
     rw [rb,q3 k,o]; rfl
    simp only [sh] at K;simp [b,t,K];refine ACalls.pure (lS (.ptr g 0 0) f.form L rfl) fun a0 a9=>?_;by_cases v:cf f.form L=0
    case neg=>simp [v,bD,h1,m,l,C,q,bF,R]
    simp [v];refine ACalls.pure (fS _ _ _) fun a1 a'=>?_;by_cases e:1<=f.div/\f.div<=1000
    ·simp [v,e,u,b,q,bF];exact p.upd aa (by omega)
    ·simp [v,e,bD,h1,m,l,C,q,bF,R]
  ·intro i d am z H k o O b J w;have y:=M i d k o;have ag:i<2:=k;have t:(i:Int)<2:=by omega
   have u:=q0 (x:=(i:Int)+1)
   simp [b,t,y];by_cases e:(6:Int)<d.length
   ·have:(6:Int)<low.length\/(6:Int)<a.length:=by rw [w]; exact ⟨d,by simp,e⟩
    simp [e,bD,h1,m,l,this]
   ·simp [e,u,b];refine ⟨by omega,?_⟩
    rw [w]; simp [e]
 ·intro i d am z H k o O b J l;have y:=M i d k o;have ag:i<2:=k;have t:(i:Int)<2:=by omega
  have u:=q0 (x:=(i:Int)+1)
  simp [b,t,y];by_cases e:d=[]
  ·have:low=[]\/a=[]:=by rw [l]; exact ⟨d,by simp,e⟩
   simp [e,bD,h1,m,this]
  ·simp [e,u,b];refine ⟨by omega,?_⟩
   rw [l]; simp [e]
def cU (A:List Wb.Array) (L N:List ByteArray) (name array:ByteArray) (subs:List Wb.Form) (expr:Wb.Expr):Int:=
 if inL name N=true then 6 else if bV A array subs L=0 then aK A L 1 expr else bV A array subs L
theorem xY (A:List Wb.Array) (S:List Wb.Step) (a ver:Nat) (o:Int) (g:Nat) (m:List (ByteArray×Bool)) (N:List ByteArray) (kind:Int) (name:ByteArray) (low T:List Wb.Bound) (J:List Wb.Form) (body:List Wb.Step) (array:ByteArray) (subs:List Wb.Form) (expr:Wb.Expr) (L:List ByteArray)
  (h0:Heap) (c0:Nat) (e:ee h0 g A S a o) (t:h0 a=some (.map (kvs AV.str AV.bool m) ver)) (p:Nm m N) (ar:g<c0) (R:a<c0) (q:g≠a) :
  ACalls Pg 237 [.ptr g 0 0,(Wb.Step.mk kind name low T J body array subs expr).av,row (ak L)] ⟨h0,c0⟩ fun av s'=>
   av=.int (cU A L N name array subs expr)/\∃ l v,s'.h a=some (.map (kvs AV.str AV.bool l) v)/\(∀ k,k≠a->s'.h k=h0 k)/\(cU A L N name array subs expr=0->Nm l (N++[name])):=by
 have z:=fun K h0 c0 h1 d M O P=>yj A S a o g L 1000 expr K h0 c0 h1 d M O P;obtain ⟨ax,n,ai,ab,ag,Y⟩:=expr;rw [Expr.av_mk] at z;rw [Step.av_mk];have ao:=e;unfold ee at e;have C:¬c0=g:=by omega
 have D:¬g=c0:=by omega
 have G:¬c0=a:=by omega
 have u:¬a=c0:=by omega
 have Q:¬a=g:=s4 q;refine Fn237.calls .frz ?_;unfold Fn237.ac;have U:∀ {b c},lkI (.one .str) (.bool false) false (.map a) (.str name) ⟨upd h0 c0 b,c⟩=some (.bool (inL name N)):=fun {b c}=>p.look (ver:=ver) (by simp [u,t]) name
 have W:∀ {b},muI (.one .str) (.map a) (.str name) (.bool true) ⟨upd h0 c0 b,c0+1⟩=some ⟨upd (upd h0 c0 b) a (some (.map (kvs AV.str AV.bool (bG m name true)) (c0+1))),c0+1+1⟩:=
  fun {b}=>iy (ver:=ver) (f:=AV.bool) jK (by simp [u,t]) name true
 simp [e,C,D,U];cases h1:inL name N
 case true=>
  simp [cU,h1];exact ⟨m,ver,t⟩
 have H:∀ {b},retH c0 h0 (upd (upd h0 c0 b) a (some (.map (kvs AV.str AV.bool (bG m name true)) (c0+1))))=upd h0 a (some (.map (kvs AV.str AV.bool (bG m name true)) (c0+1))):=fun {b}=>by
  rw [kX R,mw (q5 _),nI]
 have y:∀ {b w},ee (upd (upd h0 c0 b) a w) g A S a o:=fun {b w}=>by unfold ee; rw [ad q,qv]; exact e
 have ap:∀ (x:Int),(∃ l,(∃ v,(upd h0 a (some (.map (kvs AV.str AV.bool (bG m name true)) (c0+1)))) a=some (Body.map (kvs AV.str AV.bool l) v))/\(∀ k,k≠a->(upd h0 a (some (.map (kvs AV.str AV.bool (bG m name true)) (c0+1)))) k=h0 k)/\(x=0->Nm l (N++[name]))):=
  fun x=>⟨_,⟨_,ae⟩,fun k f=>ad f,fun _=>p.add name⟩
 simp [e,C,D,W,q,Q,G,u];refine ACalls.at (sE A S a o g array subs L _ _ y (by omega)) fun Z al=>?_
 by_cases d:bV A array subs L=0
 case neg=>
  simp [d,cU,h1,H];exact ⟨⟨_,rfl⟩,fun k f=>ad f⟩
 simp [d,G];refine ACalls.at (z 1 _ _ (by omega) (by omega) (by omega) y (by omega)) fun aa am=>?_
 simp [d,cU,h1,H];exact ⟨_,rfl,fun k f=>ad f,fun _=>p.add name⟩
mutual
def aI (A:List Wb.Array) (L:List ByteArray) (d:Int) (N:List ByteArray):Wb.Step->Int×List ByteArray
 | .mk kind name low high conds body array subs expr=>
  if 12<d then (2,N) else if ¬(1<=kind/\kind<=3) then (4,N) else if bP kind name low high conds body array subs expr=false then (3,N) else if kind≠2/\bO name=false then (5,N)
  else if kind=1 then (if bD A L name low high=0 then aJ A (L++[name]) (d+1) N body else (bD A L name low high,N))
  else if kind=2 then (if bQ L conds=0 then aJ A L (d+1) N body else (bQ L conds,N))
  else (cU A L N name array subs expr,N++[name])
def aJ (A:List Wb.Array) (L:List ByteArray) (d:Int) (N:List ByteArray):List Wb.Step->Int×List ByteArray
 | []=>(0,N)
 | s::ss=>if (aI A L d N s).1=0 then aJ A L d (aI A L d N s).2 ss else aI A L d N s
end
mutual
def count:Wb.Step->Nat
 | .mk _ _ _ _ _ body _ _ _=>1+aw body
def aw:List Wb.Step->Nat
 | []=>0
 | s::ss=>count s+aw ss
end
theorem dB:∀ (a b:List Wb.Step),aw (a++b)=aw a+aw b
 | [],b=>by simp [aw]
 | d::a,b=>by simp [aw,dB a b]; omega
theorem fg {l xs:List Wb.Step} {x:Wb.Step} {i:Nat} (h:l=l.take i++x::xs):aw l=aw (l.take i)+count x+aw xs:=by
 conv=>lhs; rw [h]
 rw [dB]; simp [aw]; omega
theorem ja {l xs:List Wb.Step} {x:Wb.Step} {i:Nat} (h:l=l.take i++x::xs) (a:i<l.length):aw (l.take (i+1))=aw (l.take i)+count x:=by
 have h1:l[i]=x:=by
  have:(l.take i++x::xs)[i]?=some x:=by
   rw [r1 (by simp; omega)]
   simp [xf (EC a)]
  rw [<-h] at this;exact (q4.1 this).2
 rw [<-List.take_append_getElem a,h1,dB]; simp [aw]
structure CkI (c0:Nat) (h0:Heap) (g gm:Nat) (A:List Wb.Array) (S:List Wb.Step) (n:Int) (m:List (ByteArray×Bool)) (h:Heap):Prop where
 at_:ee h g A S gm n
 map_:∃ ver,h gm=some (.map (kvs AV.str AV.bool m) ver)
 fr:∀ k,k<c0->k≠g->k≠gm->h k=h0 k
theorem CkI.upd {c0 g a:Nat} {h0 h:Heap} {A:List Wb.Array} {S:List Wb.Step} {n:Int} {m:List (ByteArray×Bool)} (i:CkI c0 h0 g a A S n m h) (l:g<c0) (o:a<c0) {k:Nat} {b:Option Body} (p:c0<=k):CkI c0 h0 g a A S n m (AM.upd h k b):=by
 obtain ⟨ver,f⟩:=i.map_;refine ⟨?_,⟨ver,by rw [qv]; exact f⟩,fun j e h1 d=>by rw [qv]; exact i.fr j e h1 d⟩
 unfold ee;rw [qv]
 exact i.at_
theorem CkI.ret {c0 g b:Nat} {h0 h:Heap} {A:List Wb.Array} {S:List Wb.Step} {n:Int} {m:List (ByteArray×Bool)} (i:CkI c0 h0 g b A S n m h) (k:g<c0) (l:b<c0):CkI c0 h0 g b A S n m (retH c0 h0 h):=by
 obtain ⟨ver,p⟩:=i.map_;have d:∀ a,a<c0->retH c0 h0 h a=h a:=fun a o=>if_pos o;refine ⟨?_,⟨ver,by rw [d _ l]; exact p⟩,fun j e h1 f=>by rw [d j e]; exact i.fr j e h1 f⟩
 unfold ee;rw [d _ k];exact i.at_
theorem CkI.trans {c0 c1 g a:Nat} {h0 h1 h:Heap} {A:List Wb.Array} {S:List Wb.Step} {n n1:Int} {m m1:List (ByteArray×Bool)} (i:CkI c0 h0 g a A S n1 m1 h1) (k:CkI c1 h1 g a A S n m h) (f:c0<=c1):CkI c0 h0 g a A S n m h:=
 ⟨k.at_,k.map_,fun j e b d=>by rw [k.fr j (by omega) b d]; exact i.fr j e b d⟩
theorem CkI.same {c0 g a:Nat} {h0 h:Heap} {A:List Wb.Array} {S:List Wb.Step} {n:Int} {m:List (ByteArray×Bool)} (i:CkI c0 h0 g a A S n m h) {h':Heap} (e:h'=h):CkI c0 h0 g a A S n m h':=by rw [e]; exact i
def m7 (L:List ByteArray) (c0:Nat) (h0:Heap) (av:AV) (s':St):Prop:=
 Fr c0 h0 s'.h s'.c/\((av=.sl [] true/\L=[])\/∃ g,c0<=g/\g<s'.c/\av=.row g 1 0 L.length/\s'.h g=some (.row 1 (ak L) .live none))
theorem fK (L:List ByteArray) (h0:Heap) (c0:Nat):ACalls Pg 140 [row (ak L)] ⟨h0,c0⟩ (m7 L c0 h0):=by
 refine ACalls.small fun f=>?_;have e:L.length<=68719476736:=by simpa [ak] using f.1.1
 refine Fn140.calls .keep ?_;unfold Fn140.ac;simp;refine lL (fun h=>?_) ?_
 ·have a:L=[]:=by simpa [ak] using h
  simp [m7,a];exact Fr.refl _ _
 ·simp [bsI,az];have b:=dr (sz:=1) (bytes:=16) (md:=.plain) (es:=[]) (xs:=ak L) (b:=false) (s:=⟨h0,c0⟩) (by decide) (by decide) (by decide) (by simp) (fun l d=>by
   obtain ⟨m,_,rfl⟩:=rf.1 d; rfl) (by simpa [ak] using e) (.inr rfl)
  have k:(ak L).length=L.length:=by simp [ak]
  simp [b,m7,k];exact ⟨(Fr.refl h0 c0).upd (q5 _) (rv _),c0,q5 _,q7 _,rfl,by simp⟩
theorem e7 {L:List ByteArray} {d a:Nat} {h1 b:Heap} {av:AV} (l:Fr d h1 b a) (p:(av=.sl [] true/\L=[])\/∃ g,d<=g/\g<a/\av=.row g 1 0 L.length/\b g=some (.row 1 (ak L) .live none)) (name:ByteArray) (w:(L.length:Int)<=1000) :
  ∃ f m k,apI 1 16 .fz av (.sl [[.str name]] true) ⟨b,a⟩=some (.row f 1 0 (L.length+1),⟨k,m⟩)/\k f=some (.row 1 (ak (L++[name])) .live none)/\Fr d h1 k m/\d<=f:=by
 have u:ak (L++[name])=ak L++[[.str name]]:=by simp [ak]
 have e:=l.c;rcases p with ⟨rfl,rfl⟩ | ⟨g,q,x,rfl,t⟩
 ·have:=dr (sz:=1) (bytes:=16) (md:=.fz) (es:=[]) (xs:=[[.str name]]) (b:=true) (s:=⟨b,a⟩) (by decide) (by decide) (by decide) (by simp) (fun v o=>by simp at o; subst o; rfl) (by simp) (.inr rfl)
  exact ⟨a,a+1,_,this,by simp [ak],l.upd e (rv _),e⟩
 ·have:=bE (sz:=1) (bytes:=16) (len:=L.length) (md:=.fz) (x:=[.str name]) (b:=true) (s:=⟨b,a⟩) (by simp) t (by simp [ak]) (by decide) (by decide) (by decide) rfl (by omega)
  exact ⟨a,a+1,_,this,by rw [u]; simp,(l.upd q (q5 _)).upd e (rv _),e⟩
theorem xA (A:List Wb.Array) (S:List Wb.Step) (l:Nat) (g:Nat):∀ (bW:Nat) (T:Wb.Step) (a:Int) (L N:List ByteArray) (m:List (ByteArray×Bool)) (f:Int) (ver:Nat) (h0:Heap) (c0:Nat),14<=a+bW->(L.length:Int)<a->a<=13 ->
  ee h0 g A S l f->h0 l=some (.map (kvs AV.str AV.bool m) ver)->Nm m N->g<c0->l<c0->g≠l->0<=f->f+count T<4611686018427387904 ->
  ACalls Pg 165 [.ptr g 0 0,T.av,.int a,row (ak L)] ⟨h0,c0⟩ fun av s'=>av=.int (aI A L a N T).1/\∃ e d,CkI c0 h0 g l A S e d s'.h/\((aI A L a N T).1=0->e=f+count T/\Nm d (aI A L a N T).2):=by
 intro bW
 induction bW with
 | zero=>intro T a L N m f ver h0 c0 b2 eo es; omega
 | succ bW ds=>
  intro T a L N m f ver h0 c0 fa eo es ch di b2 a8 a' a9 fs c7;obtain ⟨kind,name,low,q,o,body,array,subs,expr⟩:=T;have c':=xV kind name low q o body array subs expr;have de:=fun n1 h0 c0 h1 U=>xW A S l n1 g kind name low q o body array subs expr L h0 c0 h1 U;have c8:=xX (.ptr g 0 0) (.mk kind name low q o body array subs expr) o L rfl ⟨_,_,_,_,_,_,_,_,rfl⟩;have dp:=fun n1 h0 c0 h1 U Y d0=>xY A S l ver n1 g m N kind name low q o body array subs expr L h0 c0 h1 U b2 Y d0 a9;obtain ⟨K,n,t,y,z,w⟩:=expr;rw [Step.av_mk] at c' c8 ⊢;simp only [Step.av_mk] at de dp;refine ACalls.small fun eW=>?_;have fn:body.length<=68719476736:=by simp at eW; omega
  refine Fn165.calls .frz ?_;unfold Fn165.ac;have dl:¬c0=g:=by omega
  have eM:¬g=c0:=by omega
  have eP:¬c0=l:=by omega
  have dn:¬l=c0:=by omega
  have da:¬l=g:=s4 a9;have fm:=ch;unfold ee at ch;have e2:=q0 (x:=f+1)
  obtain ⟨B,c4⟩:∃ B,B=some (Body.row 15 [[AV.int kind,.str name,row (low.map Bound.cells),row (q.map Bound.cells),row (o.map Form.cells),row (body.map Step.cells),.str array,row (subs.map Form.cells),
   .int K,.int n,.int t.const,row (t.terms.map Term.cells),.str y,row (z.map Form.cells),row (w.map Expr.cells)]] .live none):=⟨_,rfl⟩
  obtain ⟨h1,ab⟩:∃ h1,h1=upd (upd h0 c0 B) g (some (.row 4 [[row (A.map Array.cells),row (S.map Step.cells),.map l,.int (f+1)]] .live none)):=⟨_,rfl⟩;have v:CkI c0 h0 g l A S (f+1) m h1:=by
   refine ⟨?_,⟨ver,?_⟩,fun k b4 ai ao=>?_⟩
   ·rw [ab]; unfold ee; rw [ae]
   ·rw [ab,ad da,ad dn]; exact di
   ·rw [ab,ad ai,qv]
  have ea:h1 c0=B:=by rw [ab,ad dl,ae]
  have H:∀ {b1:Int} {N':List ByteArray} {e:Int} {d:List (ByteArray×Bool)} {h:Heap} (b5:Int×List ByteArray),b5=aI A L a N (.mk kind name low q o body array subs (.mk K n t y z w))->b5.1=b1->CkI c0 h0 g l A S e d h->(b1=0->e=f+count (.mk kind name low q o body array subs (.mk K n t y z w))/\Nm d b5.2) ->
    b1=(aI A L a N (.mk kind name low q o body array subs (.mk K n t y z w))).1/\∃ e d,CkI c0 h0 g l A S e d (retH c0 h0 h)/\((aI A L a N (.mk kind name low q o body array subs (.mk K n t y z w))).1=0->e=f+count (.mk kind name low q o body array subs (.mk K n t y z w))/\Nm d (aI A L a N (.mk kind name low q o body array subs (.mk K n t y z w))).2):=by
   intro b1 N' e d h b5 bf c9 Q e3;subst bf;exact ⟨c9.symm,e,d,Q.ret a8 a',fun h0=>e3 (by rw [<-c9]; exact h0)⟩
  simp [ch,dl,eM,e2];rw [<-c4,<-ab];by_cases C:12<a
  ·simp [C];exact H (N':=N) (2,N) (by simp [aI,C]) rfl v (fun h=>by cases h)
  have G:=ea.trans c4;simp [C,G];refine ACalls.pure (fS _ _ _) fun c1 fb=>?_;by_cases a2:1<=kind/\kind<=3
  case neg=>
   simp [a2];exact H (N':=N) (4,N) (by simp [aI,C,a2]) rfl v (fun h=>by cases h)
  simp [a2,G];refine ACalls.pure c' fun e9 aa=>?_;cases P:bP kind name low q o body array subs (.mk K n t y z w)
  ·simp;exact H (N':=N) (3,N) (by simp [aI,C,a2,P]) rfl v (fun h=>by cases h)
  simp [G];by_cases b9:kind=2
  ·subst b9;simp [G];refine ACalls.pure c8 fun b0 el=>?_;by_cases p:bQ L o=0
   case neg=>
    simp [p];exact H (N':=N) (bQ L o,N) (by simp [aI,C,P,p]) rfl v (fun h=>absurd h p)
   simp [p,G];have bc:aI A L a N (.mk 2 name low q o body array subs (.mk K n t y z w))=aJ A L (a+1) N body:=by simp [aI,C,P,p]
   have cc:c0+1<=b0:=by omega
   have ca:=v;obtain ⟨M,D⟩:∃ M:Nat->List Wb.Step->Slots->St->Prop,M=fun i r dv s'=>∃ e d N',c0+1<=s'.c/\CkI c0 h0 g l A S e d s'.h/\Nm d N'/\e=f+1+aw (body.take i)/\aJ A L (a+1) N body=aJ A L (a+1) N' r:=⟨_,rfl⟩;refine aZ 72 Fn165.W0 body M (by rfl) (by rfl) ?_ ?_ ?_
   ·rw [D]; exact ⟨by simp,f+1,m,N,cc,ca,b2,by simp [aw],rfl⟩
   ·intro bN s' J b;rw [D] at b;obtain ⟨e,d,N',a6,b,W,O,R⟩:=b;simp [J];refine H (N':=N') (0,N') (by rw [bc,R]; rfl) rfl b fun _=>⟨?_,W⟩
    rw [O,r0]; simp [count]; omega
   ·intro i x xs bN s' Q cq bb J b;rw [D] at b;obtain ⟨e,d,N',a6,b,W,O,R⟩:=b;obtain ⟨h,c⟩:=s';simp only at a6 b;obtain ⟨c3,cn⟩:=b.map_;have en:=fg bb;have cl:=ja bb Q;have bf:=q0 (x:=(i:Int)+1)
    have cp:=q0 (x:=a+1)
    have eg:f+(1+aw body:Nat)<4611686018427387904:=by simpa [count] using c7
    have a7:=fun B=>ds x (a+1) L N' d e c3 (upd h c B) (c+1) (by omega) (by omega) (by omega) (b.upd a8 a' (by omega)).at_ (by rw [qv]; exact cn) W (by omega) (by omega) a9 (by rw [O]; omega) (by rw [O]; omega)
    obtain ⟨bk,bm,bl,bi,ar,ap,am,bx,⟨bo,n1,a1,a0,ax,al⟩⟩:=x;rw [Step.av_mk] at a7;simp [J,Q,cq,Step.cells_mk,cp];refine (a7 _).mono ?_;rintro av bt aa ⟨rfl,c2,ag,Z,bj⟩;have a5:=CkI.trans (b.upd a8 a' (k:=c) (by omega)) Z (by omega)
    simp only at aa;by_cases u:(aI A L (a+1) N' (.mk bk bm bl bi ar ap am bx (.mk bo n1 a1 a0 ax al))).1=0
    ·obtain ⟨cs,cx⟩:=bj u;simp [u,bf,J];rw [D];refine ⟨c2,ag,_,by show c0+1<=bt.c; omega,a5,cx,by rw [cs,O,cl]; omega,?_⟩
     rw [R]; simp only [aJ,u,if_true]
    ·simp [u];refine H (N':=N') (aI A L (a+1) N' (.mk bk bm bl bi ar ap am bx (.mk bo n1 a1 a0 ax al))) (by rw [bc,R]; simp only [aJ,u,if_false]) rfl a5 fun h=>absurd h u
  simp [b9,G];refine ACalls.pure (lf name) fun b0 el=>?_;cases a3:bO name
  ·simp;exact H (N':=N) (5,N) (by simp [aI,C,a2,P,b9,a3]) rfl v (fun h=>by cases h)
  by_cases dN:kind=1
  ·subst dN;simp [G];refine ACalls.at (de (f+1) h1 b0 v.at_ (by omega)) fun b6 fd=>?_
   simp [G,bsI,az];refine (fK L h1 b6).mono ?_;rintro av e4 em ⟨b',c6⟩;obtain ⟨U,e'⟩:=e4;simp only at em b' c6;have d4:U c0=h1 c0:=b'.h c0 (by omega)
   have cb:=d4.trans G;have d3:=e7 b' c6 name (by omega)
   obtain ⟨b8,b7,Y,d2,ex,d1,ey⟩:=d3;have e0:(ak (L++[name])).length=L.length+1:=by simp [ak]
   have et:=dj (s:=⟨Y,b7⟩) (z:=1) ex e0;have a4:Fr b6 h1 (upd Y b8 (some (.row 1 (ak (L++[name])) .frz none))) b7:=d1.upd ey (q5 _);simp [cb,bsI,az,d2,et,-er];have c5:CkI c0 h0 g l A S (f+1) m (upd Y b8 (some (.row 1 (ak (L++[name])) .frz none))):=by
    obtain ⟨e6,e1⟩:=v.map_;refine ⟨?_,⟨e6,by rw [a4.h l (by omega)]; exact e1⟩,fun k b4 ai ao=>by rw [a4.h k (by omega)]; exact v.fr k b4 ai ao⟩
    unfold ee; rw [a4.h g (by omega)]; exact v.at_
   have ef:upd Y b8 (some (.row 1 (ak (L++[name])) .frz none)) c0=_:=(a4.h c0 (by omega)).trans G
   by_cases p:bD A L name low q=0
   case neg=>
    simp [p];exact H (N':=N) (bD A L name low q,N) (by simp [aI,C,P,p,a3]) rfl c5 (fun h=>absurd h p)
   simp [p,ef];have bc:aI A L a N (.mk 1 name low q o body array subs (.mk K n t y z w))=aJ A (L++[name]) (a+1) N body:=by simp [aI,C,P,p,a3]
   have cc:c0+1<=b7:=by have:=a4.c; omega
   have ca:=c5;obtain ⟨M,D⟩:∃ M:Nat->List Wb.Step->Slots->St->Prop,M=fun i r dv s'=>∃ e d N',c0+1<=s'.c/\CkI c0 h0 g l A S e d s'.h/\Nm d N'/\e=f+1+aw (body.take i)/\aJ A (L++[name]) (a+1) N body=aJ A (L++[name]) (a+1) N' r:=⟨_,rfl⟩;refine aZ 72 Fn165.W0 body M (by rfl) (by rfl) ?_ ?_ ?_
   ·rw [D]; exact ⟨by simp,f+1,m,N,cc,ca,b2,by simp [aw],rfl⟩
   ·intro bN s' J b;rw [D] at b;obtain ⟨e,d,N',a6,b,W,O,R⟩:=b;simp [J];refine H (N':=N') (0,N') (by rw [bc,R]; rfl) rfl b fun _=>⟨?_,W⟩
    rw [O,r0]; simp [count]; omega
   ·intro i x xs bN s' Q cq bb J b;rw [D] at b;obtain ⟨e,d,N',a6,b,W,O,R⟩:=b;obtain ⟨h,c⟩:=s';simp only at a6 b;obtain ⟨c3,cn⟩:=b.map_;have en:=fg bb;have cl:=ja bb Q;have bf:=q0 (x:=(i:Int)+1)
    have cp:=q0 (x:=a+1)
    have eg:f+(1+aw body:Nat)<4611686018427387904:=by simpa [count] using c7
    have a7:=fun B=>ds x (a+1) (L++[name]) N' d e c3 (upd h c B) (c+1) (by omega) (by simp; omega) (by omega) (b.upd a8 a' (by omega)).at_ (by rw [qv]; exact cn) W (by omega) (by omega) a9 (by rw [O]; omega) (by rw [O]; omega)
    obtain ⟨bk,bm,bl,bi,ar,ap,am,bx,⟨bo,n1,a1,a0,ax,al⟩⟩:=x;rw [Step.av_mk] at a7;simp [J,Q,cq,Step.cells_mk,cp];refine (a7 _).mono ?_;rintro av bt aa ⟨rfl,c2,ag,Z,bj⟩;have a5:=CkI.trans (b.upd a8 a' (k:=c) (by omega)) Z (by omega)
    simp only at aa;by_cases u:(aI A (L++[name]) (a+1) N' (.mk bk bm bl bi ar ap am bx (.mk bo n1 a1 a0 ax al))).1=0
    ·obtain ⟨cs,cx⟩:=bj u;simp [u,bf,J];rw [D];refine ⟨c2,ag,_,by show c0+1<=bt.c; omega,a5,cx,by rw [cs,O,cl]; omega,?_⟩
     rw [R]; simp only [aJ,u,if_true]
    ·simp [u];refine H (N':=N') (aI A (L++[name]) (a+1) N' (.mk bk bm bl bi ar ap am bx (.mk bo n1 a1 a0 ax al))) (by rw [bc,R]; simp only [aJ,u,if_false]) rfl a5 fun h=>absurd h u
  have dW:kind=3:=by omega
  subst dW;have d':body=[]:=by
   simp [bP] at P;exact P.2
  subst d';simp [G];have ez:h1 l=some (.map (kvs AV.str AV.bool m) ver):=by rw [ab,ad da,ad dn]; exact di
  refine (dp (f+1) h1 b0 v.at_ ez (by omega) (by omega)).mono ?_
  rintro av bt aa ⟨rfl,ag,e5,dk,b3,bj⟩;obtain ⟨U,b6⟩:=bt;simp only at dk b3 aa;have Z:CkI c0 h0 g l A S (f+1) ag U:=by
   refine ⟨?_,⟨e5,dk⟩,fun k b4 ai ao=>by rw [b3 k ao]; exact v.fr k b4 ai ao⟩
   unfold ee; rw [b3 g a9]; exact v.at_
  have cb:=(b3 c0 eP).trans G;by_cases p:cU A L N name array subs (.mk K n t y z w)=0
  case neg=>
   simp [p];exact H (N':=N) (cU A L N name array subs (.mk K n t y z w),N++[name]) (by simp [aI,C,P,a3]) rfl Z (fun h=>absurd h p)
  simp [p,cb];obtain ⟨M,D⟩:∃ M:Nat->List Wb.Step->Slots->St->Prop,M=fun i r dv s'=>CkI c0 h0 g l A S (f+1) ag s'.h:=⟨_,rfl⟩;refine aZ 72 Fn165.W0 ([]:List Wb.Step) M (by rfl) (by rfl) ?_ ?_ ?_
  ·rw [D]; exact ⟨by simp,Z⟩
  ·intro bN s' J b;rw [D] at b;simp at J;simp [J];refine H (N':=N) (0,N++[name]) (by simp [aI,C,P,a3,p]) rfl b fun _=>⟨by simp [count,aw],bj p⟩
  ·intro i x xs bN s' Q; simp at Q
def db:List Int->Int->Option Int
 | [],n=>some n
 | s::ss,n=>if 1<=s/\s<=20000 then db ss (if 20001<n*s then 20001 else n*s) else none
def be (a:Wb.Array) (d:List Wb.Array) (cells:Int):Int×Int:=
 if bO a.key=false then (5,cells) else if (d.any fun b=>decide (b.key=a.key))=true then (6,cells) else if a.sizes=[] then (8,cells) else if (4:Int)<a.sizes.length then (2,cells)
 else match db a.sizes 1 with
  | none=>(1,cells)
  | some n=>if 20000<cells+n then (12,cells+n) else (0,cells+n)
def bR (b:List Wb.Array):List Wb.Array->Int->Int
 | [],_=>0
 | a::d,cells=>if (be a b cells).1=0 then bR (b++[a]) d (be a b cells).2 else (be a b cells).1
def aR (p:Wb.Prog):Int:=
 if (20:Int)<p.arrays.length then 2 else if bR [] p.arrays 0=0 then (if (aJ p.arrays [] 1 [] p.steps).1=0 then (if (300:Int)<aw p.steps then 2 else 0) else (aJ p.arrays [] 1 [] p.steps).1) else bR [] p.arrays 0
theorem xU (x:Wb.Array) (key:ByteArray) (sz:AV) (h:Heap) (c g:Nat) (a:h g=some (.row 2 [[.str key,sz]] .live none)) (d:g<c) :
  ACalls Pg 233 [x.av,.ptr g 0 0] ⟨h,c⟩ fun av s'=>av=.bool (decide (x.key=key))/\s'.h=h:=by
 refine Fn233.calls .frz ?_;unfold Fn233.ac;have b:g≠c:=by omega
 simp [Array.av,Array.cells,a,b]
theorem xz (a:Wb.Array) (m:List Wb.Array) (cells:Int) (O:0<=cells) (P:cells<=1000000) (d:Nat) (h0:Heap) (c0:Nat) (l:h0 d=some (.row 1 [[.int cells]] .live none)) (Q:d<c0) :
  ACalls Pg 164 [a.av,row (m.map Array.cells),.ptr d 0 0] ⟨h0,c0⟩ fun av s'=>av=.int (be a m cells).1/\s'.h d=some (.row 1 [[.int (be a m cells).2]] .live none)/\∀ k,k≠d->s'.h k=h0 k:=by
 have T:¬c0=d:=by omega
 have U:¬d=c0:=by omega
 refine Fn164.calls .frz ?_;unfold Fn164.ac;simp [Array.av,Array.cells];refine ACalls.pure (lf a.key) fun c1 O=>?_;cases h1:bO a.key
 ·simp [be,h1,l]
 simp;refine ACalls.at (xT m _ _ _ (fun w=>decide (w.key=a.key)) _ c1 ?_) fun aa P=>?_
 ·intro x J K ag;exact xU x a.key _ _ K c0 (by simp; rfl) (by omega)
 cases e:m.any fun w=>decide (w.key=a.key)
 case true=>simp [be,h1,e,l]
 simp [an];by_cases f:a.sizes=[]
 ·simp [be,h1,e,f,l]
 simp [f];by_cases o:(4:Int)<a.sizes.length
 ·simp [be,h1,e,f,o,l]
 simp [o];obtain ⟨v,t⟩:∃ v:Nat->List Int->Slots->Prop,v=fun i r Y=>∃ n,1<=n/\n<=20001/\Y 7=.int n/\db a.sizes 1=db r n:=⟨_,rfl⟩;refine bM 32 Fn164.W0 a.sizes v (by rfl) (by rfl) ?_ ?_ ?_
 ·rw [t]; exact ⟨by simp,1,by omega,by omega,by simp,rfl⟩
 ·intro Z c u M b;rw [t] at b;obtain ⟨n,D,G,q,b⟩:=b;simp at q;have z:=q0 (x:=cells+n)
  have H:∀ {x:Option Body},retH c0 h0 (upd (upd h0 c0 x) d (some (.row 1 [[.int (cells+n)]] .live none)))=upd h0 d (some (.row 1 [[.int (cells+n)]] .live none)):=fun {x}=>by
   rw [kX Q,mw (q5 _),nI]
  simp [u,q,l,T,U,z];by_cases C:20000<cells+n
  ·simp [C,be,h1,e,f,o,b,db,H];exact fun k y=>ad y
  ·simp [C,be,h1,e,f,o,b,db,H];exact fun k y=>ad y
 ·intro i x xs Z c R J al u M b;rw [t] at b;obtain ⟨n,D,G,q,b⟩:=b;simp at q;have z:=q0 (x:=(i:Int)+1)
  simp [u,R,J];refine ACalls.pure (fS _ _ _) fun ab ai=>?_;by_cases p:1<=x/\x<=20000
  case neg=>simp [p,be,h1,e,f,o,b,db,l]
  have am:1<=n*x:=by have:=v2 D p.1 (by omega) (by omega); simpa using this
  have ao:n*x<=20001*20000:=v2 G p.2 (by omega) (by omega)
  have W:=q0 (x:=n*x)
  simp [p,q,W,z,u];refine ⟨by omega,?_⟩
  rw [t];refine ⟨if 20001<n*x then 20001 else n*x,by split <;> omega,by split <;> omega,by simp,by rw [b]; simp [db,p]⟩
theorem mA:∀ {l:List Int} {n m:Int},db l n=some m->1<=n->1<=m
 | [],n,m,h,a=>by simp [db] at h; omega
 | s::ss,n,m,h,a=>by
  simp only [db] at h;split at h
  ·rename_i b;refine mA h ?_;split
   ·omega
   ·have:=v2 a b.1 (by omega) (by omega); simpa using this
  ·cases h
theorem uA (p:Wb.Prog) (c7:aw p.steps<1000000000):aG Pg 96 [p.av] (.int (aR p)):=by
 rintro ⟨h0,c0⟩;refine ACalls.small fun b5=>?_;have c9:p.arrays.length<=68719476736/\p.steps.length<=68719476736:=by simp [Prog.av] at b5; omega
 refine Fn96.calls .frz ?_;unfold Fn96.ac;simp [Prog.av];by_cases h1:(20:Int)<p.arrays.length
 ·simp [h1,aR]
 simp [h1];obtain ⟨z,J⟩:∃ z:Nat->List Wb.Array->Slots->St->Prop,z=fun i r cx l=>∃ cells,0<=cells/\cells<=20000/\c0+2<=l.c/\l.h (c0+1)=some (.row 1 [[.int cells]] .live none)/\l.h c0=some (.row 2 [[row (p.arrays.map Array.cells),row (p.steps.map Step.cells)]] .live none)/\bR [] p.arrays 0=bR (p.arrays.take i) r cells:=⟨_,rfl⟩;refine sN 18 Fn96.W0 p.arrays c0 h0 z (by rfl) (by rfl) ?_ ?_ ?_
 ·rw [J];refine ⟨by simp,⟨by omega,fun k y=>?_⟩,0,by omega,by omega,by show c0+2<=c0+1+1; omega,by simp,?_,by simp⟩
  ·rw [qv,qv]
  ·show upd _ _ _ c0=_;rw [qv,ae]
 ·intro aa h c f H a;rw [J] at a;obtain ⟨cells,ax,Q,R,M,o,a⟩:=a;simp only at R M o;have b:bR [] p.arrays 0=0:=by rw [a]; rfl
  have W:¬c0=c:=by omega
  have b3:¬c0=c+1:=by omega
  have da:¬c=c+1:=by omega
  simp [f,o,W,b3,aH];obtain ⟨e,D⟩:∃ e,e=upd (upd h c (some (.map [] c))) (c+1) (some (.row 4 [[row (p.arrays.map Array.cells),row (p.steps.map Step.cells),.map c,.int 0]] .live none)):=⟨_,rfl⟩;rw [<-D];have bW:ee e (c+1) p.arrays p.steps c 0:=by rw [D]; unfold ee; rw [ae]
  have b2:e c=some (.map (kvs AV.str AV.bool []) c):=by rw [D,qv,ae]; rfl
  have bl:CkI (c+2) e (c+1) c p.arrays p.steps 0 [] e:=⟨bW,⟨c,b2⟩,fun _ _ _ _=>rfl⟩;have b1:∀ k,k<c0->e k=h0 k:=fun k y=>by rw [D,qv,qv]; exact H.h k y
  have c6:e c0=some (.row 2 [[row (p.arrays.map Array.cells),row (p.steps.map Step.cells)]] .live none):=by rw [D,qv,qv]; exact o
  have a2:∀ {v u h},CkI (c+2) e (c+1) c p.arrays p.steps v u h->retH c0 h0 h=h0:=fun q=>aA fun k y=>by rw [q.fr k (by omega) (by omega) (by omega)]; exact b1 k y
  obtain ⟨a3,K⟩:∃ z:Nat->List Wb.Step->Slots->St->Prop,z=fun i r cx l=>∃ v u w,c+2<=l.c/\CkI (c+2) e (c+1) c p.arrays p.steps v u l.h/\Nm u w/\v=(aw (p.steps.take i):Int)/\aJ p.arrays [] 1 [] p.steps=aJ p.arrays [] 1 w r:=⟨_,rfl⟩;refine aZ 40 Fn96.W1 p.steps a3 (by rfl) (by rfl) ?_ ?_ ?_
  ·rw [K]; exact ⟨by simp,0,[],[],by show c+2<=c+1+1; omega,bl,Nm.nil,by simp [aw],rfl⟩
  ·intro aa l f a;rw [K] at a;obtain ⟨v,u,w,ar,m,ao,t,G⟩:=a;rw [r0] at t;have ap:=m.at_;unfold ee at ap;have a1:=a2 m;simp [f,ap];by_cases ai:(300:Int)<aw p.steps
   ·simp [t,ai,aR,h1,b,G,aJ,a1]
   ·simp [t,ai,aR,h1,b,G,aJ,a1]
  ·intro i x xs aa l q O U f a;rw [K] at a;obtain ⟨v,u,w,ar,m,ao,t,G⟩:=a;obtain ⟨h,P⟩:=l;simp only at ar m;obtain ⟨c3,b8⟩:=m.map_;have c8:=fg U;have b6:=ja U q;have Z:=q0 (x:=(i:Int)+1)
   have C:=fun B=>xA p.arrays p.steps c (c+1) 1000 x 1 [] w u v c3 (upd h P B) (P+1) (by omega) (by simp) (by omega) (m.upd (by omega) (by omega) (by omega)).at_ (by rw [qv]; exact b8) ao (by omega) (by omega) (by omega) (by rw [t]; omega) (by rw [t]; omega)
   obtain ⟨cc,cp,ch,b9,bc,bb,a',c2,⟨cq,n1,bj,bi,bf,a9⟩⟩:=x;rw [Step.av_mk] at C;simp [f,q,O,Step.cells_mk];refine (C _).mono ?_;rintro av cs Q ⟨rfl,cn,cl,bk,b'⟩;have am:=CkI.trans (m.upd (by omega) (by omega) (k:=P) (by omega)) bk (by omega)
   simp only at Q;by_cases d:(aI p.arrays [] 1 w (.mk cc cp ch b9 bc bb a' c2 (.mk cq n1 bj bi bf a9))).1=0
   ·obtain ⟨ca,cb⟩:=b' d;simp [d,Z,f];rw [K];refine ⟨cn,cl,_,by show c+2<=cs.c; omega,am,cb,by rw [ca,t,b6]; omega,?_⟩
    rw [G]; simp only [aJ,d,if_true]
   ·simp [d,a2 am,aR,h1,b,G,aJ]
 ·intro i x xs aa h c q O U f H a;rw [J] at a;obtain ⟨cells,ax,Q,R,M,o,a⟩:=a;simp only at R M o;have Z:=q0 (x:=(i:Int)+1)
  have W:¬c0=c:=by omega
  have b7:=tR (sz:=2) (n:=i) (es:=p.arrays.map Array.cells) (full:=false) (by simp; omega) (fun c5 b0=>by obtain ⟨c4,_,rfl⟩:=rf.1 b0; rfl)
  have b4:aP (List.take i (p.arrays.map Array.cells))=List.take i (p.arrays.map Array.cells):=by rw [<-List.map_take]; exact kf _
  have C:=fun B=>xz x (p.arrays.take i) cells ax (by omega) (c0+1) (upd h c B) (c+1) (by rw [qv]; exact M) (by omega)
  simp only [y7] at C;simp [f,q,O,Array.cells,o,W,b7,b4];refine (C _).mono ?_;rintro av ⟨ag,ab⟩ bN ⟨rfl,a0,T⟩;simp only at a0 T bN;have al:Fr c0 h0 ag ab:=⟨by have:=H.c; omega,fun k y=>by rw [T k (by omega),qv]; exact H.h k y⟩
  have bm:ag c0=h c0:=by rw [T c0 (by omega),qv]
  have bx:(be x (List.take i p.arrays) cells).1=0->0<=(be x (List.take i p.arrays) cells).2/\(be x (List.take i p.arrays) cells).2<=20000:=by
   unfold be;intro b;split at b
   ·cases b
   ·split at b
    ·cases b
    ·split at b
     ·cases b
     ·split at b
      ·cases b
      ·rename_i a4 a5 a6 a7;simp only [a4,a5,a6,a7,if_false,u1];cases Y:db x.sizes 1 with
       | none=>simp [Y] at b
       | some n=>
        have c':1<=n:=mA Y (by omega)
        simp only [Y] at b ⊢;split at b
        ·cases b
        ·rename_i a8; simp only [a8,if_false]; show 0<=cells+n/\cells+n<=20000; omega
  by_cases d:(be x (List.take i p.arrays) cells).1=0
  ·obtain ⟨bo,bt⟩:=bx d;simp [d,Z,f,al];rw [J];refine ⟨_,bo,bt,by show c0+2<=ab; omega,a0,bm.trans o,?_⟩
   rw [a];simp only [bR,d,if_true];rw [r7,q3 q,O]; rfl
  ·simp [d,al.retH,aR,h1];rw [a]; simp [bR,d]
theorem yd (A:List Wb.Array) (S:List Wb.Step) (ks:AV) (O:Int) (g:Nat) (L:List ByteArray):∀ (N:Nat) (e:Wb.Expr) (l:Int) (h0:Heap) (c0:Nat),14<=l+N -> -1000<=l->l<=13->fe h0 g A S ks O->g<c0 ->
  ACalls Pg 249 [.ptr g 0 0,e.av,row (ak L),.int l] ⟨h0,c0⟩ fun av s'=>av=.int (aK A L l e)/\s'.h=h0:=by
 intro N
 induction N with
 | zero=>intro e l h0 c0 a0 a3 a4; omega
 | succ N bb=>
  intro e l h0 c0 a0 a3 a4 a2 bt;obtain ⟨m,n,q,array,subs,o⟩:=e;rw [Expr.av_mk];refine ACalls.small fun a8=>?_;have bN:o.length<=68719476736/\subs.length<=68719476736:=by simp at a8; omega
  refine Fn249.calls .frz ?_;unfold Fn249.ac;have bW:¬c0=g:=by omega
  have b0:¬g=c0:=by omega
  by_cases h1:12<l
  ·by_cases h0:4<=m <;> simp [h0,h1,aK]
  by_cases w:1<=m/\m<=6
  case neg=>
   by_cases h0:4<=m <;> simp [h0,h1]
   all_goals (refine ACalls.pure (ct _ _ _) fun c1 G=>?_; simp [h1,w,aK])
  have Y:∀ {h:Heap} {c c':Nat} {b:Option Body},Fr c (upd h0 c0 b) h c'->c0<c->fe h g A S ks O:=by
   intro h c c' b p bm;unfold fe;rw [p.h g (by omega),qv]
   exact a2
  have a6:m=1\/m=2\/m=3\/4<=m:=by omega
  rcases a6 with rfl | rfl | rfl | ar
  ·
   simp [h1];refine ACalls.pure (ct _ _ _) fun c1 G=>?_;by_cases a:o=[]
   case neg=>have:=r6.2 a; simp [a,aK,h1,aY]
   simp [a];refine ACalls.pure (lT q) fun Q T=>?_;cases d:dK q
   ·simp [aK,h1,aY,a,d]
   simp [a];by_cases f:array=⟨#[]⟩
   case neg=>simp [f,aK,h1,aY,a,d,ck]
   simp [f];by_cases k:subs=[]
   case neg=>have J:=r6.2 k; simp [J,k,aK,h1,aY,a,d,ck]
   simp [k];refine ACalls.pure (ct _ _ _) fun z K=>?_;have ab:aY 1 n q array subs o=true:=by simp [aY,a,d,f,k,ck]
   by_cases t:0<=n/\n<=1000002
   case neg=>simp [t,aK,h1,aY,a,d,f,k,ck]
   simp [t,a];obtain ⟨H,ax⟩:∃ H:Nat->List Wb.Expr->Slots->St->Prop,H=fun i r bi s'=>True:=⟨_,rfl⟩;refine bu 92 Fn249.W0 ([]:List Wb.Expr) H (by rfl) (by rfl) ?_ ?_ ?_
   ·rw [ax]; simp
   ·intro P h c x p C;simp at x;simp [x,aK,h1,aY,a,d,f,k,ck,t,bv];exact aA fun D aa=>by rw [p.h D (by omega),qv]
   ·intro i e am P h c M; simp at M
  ·
   simp [h1];refine ACalls.pure (ct _ _ _) fun c1 G=>?_;by_cases a:o=[]
   case neg=>simp [a,aK,h1,aY]
   simp [a];by_cases d:n=0
   case neg=>simp [d,aK,h1,aY,a]
   simp [d];by_cases f:array=⟨#[]⟩
   case neg=>simp [f,aK,h1,aY,a,d,ck]
   simp [f];by_cases k:subs=[]
   case neg=>have J:=r6.2 k; simp [J,k,aK,h1,aY,a,d,ck]
   simp [k];refine ACalls.pure (ct _ _ _) fun z K=>?_;simp;refine ACalls.pure (lR q L) fun al a1=>?_;simp [aK,h1,aY,a,d,f,k,ck]
  ·
   simp [h1];refine ACalls.pure (ct _ _ _) fun c1 G=>?_;by_cases a:o=[]
   case neg=>simp [a,aK,h1,aY]
   simp [a];by_cases d:n=0
   case neg=>simp [d,aK,h1,aY,a]
   simp [d];refine ACalls.pure (lT q) fun Q T=>?_;cases f:dK q
   ·simp [aK,h1,aY,a,d,f]
   simp;refine ACalls.pure (ct _ _ _) fun z K=>?_;simp;refine ACalls.at (sD A S ks O g array subs L _ z (Y (c:=z) (c':=z) (Fr.le (q5 _)) (by omega)) (by omega)) fun al a1=>?_
   simp [aK,h1,aY,a,d,f]
  ·have y:¬m=1:=by omega
   have u:¬m=2:=by omega
   have v:¬m=3:=by omega
   simp [ar,h1];refine ACalls.pure (ct _ _ _) fun c1 G=>?_;simp [w];by_cases a:(o.length:Int)=2
   case neg=>simp [a,aK,h1,aY,y,u,v,w]
   simp [a,y];by_cases d:n=0
   case neg=>simp [d,aK,h1,aY,y,u,v,w]
   simp [d,u];refine ACalls.pure (lT q) fun Q T=>?_;cases f:dK q
   ·simp [aK,h1,aY,y,u,v,w,f]
   simp [v];by_cases k:array=⟨#[]⟩
   case neg=>simp [k,aK,h1,aY,y,u,v,w,d,f,ck]
   simp [k];by_cases t:subs=[]
   case neg=>have ap:=r6.2 t; simp [ap,t,aK,h1,aY,y,u,v,w,d,f,ck]
   simp [t];refine ACalls.pure (ct _ _ _) fun z K=>?_;simp [u,v,a];have Z:aK A L l (.mk m 0 q ⟨#[]⟩ [] o)=bv A L (l+1) o:=by simp [aK,h1,aY,y,u,v,w,f,ck,a]
   have bl:((2:Nat):Int)=2:=rfl;refine bu 92 Fn249.W0 o (fun i r bi s'=>bv A L (l+1) o=bv A L (l+1) r) (by rfl) (by rfl) ?_ ?_ ?_
   ·simp
   ·intro P h c x p C;rw [a] at x;simp [x,d,k,t,Z,C,bv];exact aA fun D aa=>by rw [p.h D (by omega),qv]
   ·intro i e am P h c M ab bx x p C;have a5:(i:Int)<2:=by omega
    have a9:=q0 (x:=(i:Int)+1)
    have a':=q0 (x:=l+1)
    have U:=p.c;have a7:∀ {b},retH c0 h0 (upd h c b)=h0:=fun {b}=>aA fun D aa=>by rw [qv,p.h D (by omega),qv]
    have W:=fun B=>bb e (l+1) (upd h c B) (c+1) (by omega) (by omega) (by omega) (Y (p.upd (b:=B) U (rv c)) (by omega)) (by omega)
    obtain ⟨bf,bc,ao,ai,bj,ag⟩:=e;rw [Expr.av_mk] at W;simp [x,M,a5,ab,Expr.cells_mk,a'];refine ACalls.at (W _) fun bk bo=>?_;by_cases R:aK A L (l+1) (.mk bf bc ao ai bj ag)=0
    ·simp [R,a9,x,C,bv];exact p.upd U (by omega)
    ·simp [R,d,k,t,Z,C,bv,a7]
theorem jw (l:List ByteArray) (x:ByteArray) (g:Nat) (h0:Heap) (c0:Nat) (k:h0 g=some (.row 1 (ak l) .live none)) (t:l.length<=68719476736) :
  ACalls Pg 104 [.row g 1 0 l.length,.str x] ⟨h0,c0⟩ fun av s'=>av=.int (bq (fun y=>decide (x=y)) l 0)/\s'.h=h0:=by
 refine Fn104.calls .frz ?_;unfold Fn104.ac;simp;refine bM 8 Fn104.W0 l (fun i r u=>bq (fun y=>decide (x=y)) l 0=bq (fun y=>decide (x=y)) r i) (by rfl) (by rfl) ?_ ?_ ?_
 ·simp
 ·intro p c b d a;simp [b,a,bq]
 ·intro i y ys p c e f q b d a;have o:=q0 (x:=(i:Int)+1)
  have m:(ak l)[i]?=some [.str y]:=by simp [ak,e,f]
  simp [b,e,f,k,m];by_cases h:x=y
  ·subst h;simp [a,bq]
  ·simp [h,b,o,a,bq,d]
def mU (h:Heap) (ks:AV) (N:List ByteArray):Prop:=(ks=.sl [] true/\N=[])\/∃ a,ks=.row a 1 0 N.length/\h a=some (.row 1 (ak N) .live none)
theorem jY (ks:AV) (N:List ByteArray) (x:ByteArray) (h0:Heap) (c0:Nat) (k:mU h0 ks N) (l:N.length<=1000000000) :
  ACalls Pg 33 [norm ks,.str x] ⟨h0,c0⟩ fun av s'=>av=.bool (inL x N)/\s'.h=h0:=by
 rcases k with ⟨rfl,rfl⟩ | ⟨e,rfl,f⟩
 ·exact dz [] x ⟨h0,c0⟩
 ·refine Fn33.calls .frz ?_;unfold Fn33.ac;simp;refine ACalls.at (jw N x e h0 c0 f (by omega)) fun c1 m=>?_
  have:=jc (fun b=>decide (x=b)) N 0 (x7 0);by_cases h:inL x N=true
  ·have a:=this.2 h;simp [h,a]
  ·have a:¬0<=bq (fun b=>decide (x=b)) N 0:=fun d=>h (this.1 d);simp [h,a]
theorem kA (L:List ByteArray):∀ (a b:List Wb.Bound),bF L (a++b)=if bF L a=0 then bF L b else bF L a
 | [],b=>by simp [bF]
 | d::a,b=>by
  have f:=kA L a b;simp only [t1,bF,f];by_cases h1:cf d.form L=0
  ·by_cases e:1<=d.div/\d.div<=1000 <;> simp [h1,e]
  ·simp [h1]
theorem sC (l:List Wb.Bound) (L:List ByteArray):aG Pg 246 [row (l.map Bound.cells),row (ak L)] (.int (bF L l)):=by
 rintro ⟨h0,c0⟩;refine ACalls.small fun p=>?_;have D:l.length<=68719476736:=by simp at p; exact p.1.1
 refine Fn246.calls .frz ?_;unfold Fn246.ac;simp;refine bu 10 Fn246.W0 l (fun i r H G=>bF L l=bF L r) (by rfl) (by rfl) ?_ ?_ ?_
 ·simp
 ·intro v h c f b d;simp [f,d,bF,b.retH]
 ·intro i a bs v h c q u C f b d;have t:=q0 (x:=(i:Int)+1)
  have m:=b.c;have o:∀ {a},retH c0 h0 (upd h c a)=h0:=fun {a}=>(b.upd m (q5 _)).retH;simp [f,q,u,Bound.cells];refine ACalls.pure (lR a.form L) fun w y=>?_;by_cases e:cf a.form L=0
  case neg=>simp [e,d,bF,o]
  simp [e];refine ACalls.pure (ct _ _ _) fun x z=>?_;by_cases k:1<=a.div/\a.div<=1000
  ·simp [e,k,t,f,d,bF];exact b.upd m (by omega)
  ·simp [e,k,d,bF,o]
theorem zX (a b:Int):aG Pg 86 [.sl [[.int a],[.int b]] false] (.int (if a=0 then b else a)):=by
 rintro ⟨h0,c0⟩;refine Fn86.calls .frz ?_;unfold Fn86.ac;simp;have q:∀ (i:Nat) (x:Int) (d:i<[a,b].length),[a,b][i]=x->([[.int a],[.int b]]:List (List AV))[i]?=some [.int x]:=by
  intro i x d k;show ([a,b].map fun n=>[AV.int n])[i]?=_;rw [rb,q3 d,k]; rfl
 refine bM 7 Fn86.W0 [a,b] (fun i r z=>(if a=0 then b else a)=(r.find? (fun n=>decide (n≠0))).getD 0) (by rfl) (by rfl) ?_ ?_ ?_
 ·simp;by_cases h1:a=0 <;> by_cases o:b=0 <;> simp [h1,o,List.find?]
 ·intro v c e m f;simp at e;simp [e,f]
 ·intro i x xs v c d k y e m f;have p:=q i x d k;have w:i<2:=d;have t:(i:Int)<2:=by omega
  have u:=q0 (x:=(i:Int)+1)
  simp [e,t,p];by_cases l:x=0
  ·simp [l,u,e,m,f]
  ·simp [l,f]
def bg (A:List Wb.Array) (L N:List ByteArray):Wb.Step->Int×List ByteArray
 | .mk kind name low b a body array subs expr=>
  if ¬(1<=kind/\kind<=3) then (4,N) else if bP kind name low b a body array subs expr=false then (3,N) else if kind≠2/\bO name=false then (5,N)
  else if kind=1 then (bD A L name low b,N) else if kind=2 then (bQ L a,N) else (cU A L N name array subs expr,N++[name])
structure RkI (c0:Nat) (h0:Heap) (g:Nat) (A:List Wb.Array) (S:List Wb.Step) (ks0:AV) (n:Int) (N:List ByteArray) (h:Heap) (c:Nat):Prop where
 at_:∃ ks,fe h g A S ks n/\mU h ks N/\∀ gk len,ks=.row gk 1 0 len->gk≠g/\gk<c/\(c0<=gk\/∃ len',ks0=.row gk 1 0 len')
 fr:∀ k,k<c0->k≠g->(∀ len,ks0≠.row k 1 0 len)->h k=h0 k
 c:c0<=c
theorem RkI.ofFr {c0 c g:Nat} {h0 h:Heap} {A:List Wb.Array} {S:List Wb.Step} {ks:AV} {n:Int} {N:List ByteArray} (b:Fr c0 h0 h c) (k:fe h0 g A S ks n) (m:mU h0 ks N) (e:∀ a len,ks=.row a 1 0 len->a≠g/\a<c0) (l:g<c0):RkI c0 h0 g A S ks n N h c:=by
 refine ⟨⟨ks,?_,?_,fun a len d=>⟨(e a len d).1,ro (e a len d).2 b.c,.inr ⟨len,d⟩⟩⟩,fun p o _ _=>b.h p o,b.c⟩
 ·unfold fe; rw [b.h g l]; exact k
 ·rcases m with h1 | ⟨a,h1,f⟩
  ·exact .inl h1
  ·exact .inr ⟨a,h1,by rw [b.h a (e a _ h1).2]; exact f⟩
theorem yS {h1:Heap} {c:Nat} {ks:AV} {N:List ByteArray} (a:mU h1 ks N) (name:ByteArray) (o:N.length<=1000000000) :
  ∃ b,apI 1 16 .plain ks (.sl [[.str name]] true) ⟨h1,c⟩=some (.row c 1 0 (N.length+1),⟨b,c+1⟩)/\b c=some (.row 1 (ak (N++[name])) .live none)/\∀ k,k≠c->(∀ len,ks≠.row k 1 0 len)->b k=h1 k:=by
 have m:ak (N++[name])=ak N++[[.str name]]:=by simp [ak]
 rcases a with ⟨rfl,rfl⟩ | ⟨g,rfl,f⟩
 ·have:=dr (sz:=1) (bytes:=16) (md:=.plain) (es:=[]) (xs:=[[.str name]]) (b:=true) (s:=⟨h1,c⟩) (by decide) (by decide) (by decide) (by simp) (fun d e=>by simp at e; subst e; rfl) (by simp) (.inr rfl)
  exact ⟨_,this,by simp [ak],fun k a _=>ad a⟩
 ·have:=bE (sz:=1) (bytes:=16) (len:=N.length) (md:=.plain) (x:=[.str name]) (b:=true) (s:=⟨h1,c⟩) (by simp) f (by simp [ak]) (by decide) (by decide) (by decide) rfl (by omega)
  refine ⟨_,this,by rw [m]; simp,fun k a l=>?_⟩
  have:k≠g:=fun d=>l _ (by rw [d])
  rw [ad a,ad this]
theorem xF (A:List Wb.Array) (S:List Wb.Step) (g:Nat) (ai:Wb.Step) (L N:List ByteArray) (ks:AV) (J:Int) (h0:Heap) (c0:Nat) (ax:fe h0 g A S ks J) (O:mU h0 ks N)
  (a0:∀ R len,ks=.row R 1 0 len->R≠g/\R<c0) (bl:g<c0) (bb:N.length<=1000000000) :
  ACalls Pg 174 [.ptr g 0 0,ai.av,row (ak L)] ⟨h0,c0⟩ fun av s'=>av=.int (bg A L N ai).1/\∃ N',RkI c0 h0 g A S ks J N' s'.h s'.c/\((bg A L N ai).1=0->N'=(bg A L N ai).2):=by
 obtain ⟨kind,name,low,l,p,body,array,subs,expr⟩:=ai;have a9:=yc expr;have bj:=fun ks b5 h0 c0 h1 T y b8 b9=>yd A S ks J g L 1000 expr b5 h0 c0 h1 T y b8 b9;obtain ⟨H,n,x,D,G,C⟩:=expr;rw [Expr.av_mk] at a9 bj;rw [Step.av_mk];refine ACalls.small fun c6=>?_;have dN:low.length<=68719476736/\l.length<=68719476736/\p.length<=68719476736:=by simp at c6; omega
 obtain ⟨F,ao⟩:∃ F,F=bg A L N (.mk kind name low l p body array subs (.mk H n x D G C)):=⟨_,rfl⟩;rw [<-ao];refine Fn174.calls .keep ?_;unfold Fn174.ac;have c4:¬c0=g:=by omega
 have c5:¬g=c0:=by omega
 obtain ⟨B,ab⟩:∃ B,B=some (Body.row 15 [[AV.int kind,.str name,row (low.map Bound.cells),row (l.map Bound.cells),row (p.map Form.cells),row (body.map Step.cells),.str array,row (subs.map Form.cells),
   .int H,.int n,.int x.const,row (x.terms.map Term.cells),.str D,row (G.map Form.cells),row (C.map Expr.cells)]] .live none):=⟨_,rfl⟩
 have d:∀ {c:Nat} {h:Heap} (al:Int×List ByteArray),al=bg A L N (.mk kind name low l p body array subs (.mk H n x D G C))->Fr c0 h0 h c->(al.1=0->al.2=N) ->
   al.1=F.1/\∃ N',RkI c0 h0 g A S ks J N' h c/\(F.1=0->N'=F.2):=by
  intro c h al a2 M c8;rw [<-ao] at a2;subst a2;exact ⟨rfl,N,RkI.ofFr M ax O a0 bl,fun w=>(c8 w).symm⟩
 obtain ⟨h1,z⟩:∃ h1,h1=upd h0 c0 B:=⟨_,rfl⟩;have e:∀ {c:Nat},c0<=c->Fr c0 h0 h1 c:=fun ar=>⟨ar,fun t O=>by rw [z]; exact ad (by omega)⟩
 have a:=(show h1 c0=B by rw [z]; exact ae).trans ab
 have a8:=(show h1 g=h0 g by rw [z]; exact ad c5).trans ax
 have bt:=q0 (x:=(low.length:Int)+l.length)
 by_cases bx:kind=1
 ·subst bx;simp [a];refine ACalls.pure (ct _ _ _) fun c1 a6=>?_;rw [<-ab,<-z];simp [a];by_cases b:p=[]
  case neg=>
   have Y:=r6.2 b;simp [Y,a];exact d (3,N) (by simp [bg,bP,b]) (e (by omega)) (fun h=>by cases h)
  simp [b,a];by_cases f:array=⟨#[]⟩
  case neg=>
   simp [f,a];exact d (3,N) (by simp [bg,bP,b,f,ck]) (e (by omega)) (fun h=>by cases h)
  simp [f,a];by_cases k:subs=[]
  case neg=>
   have aa:=r6.2 k;simp [aa,a];exact d (3,N) (by simp [bg,bP,b,f,k,ck]) (e (by omega)) (fun h=>by cases h)
  simp [k,a];refine ACalls.pure a9 fun b3 cc=>?_;cases U:dw (.mk H n x D G C)
  ·simp;exact d (3,N) (by simp [bg,bP,b,f,k,U,ck]) (e (by omega)) (fun h=>by cases h)
  simp [a];refine ACalls.pure (iK name) fun a3 bf=>?_;cases u:bO name
  ·simp;exact d (5,N) (by simp [bg,bP,b,f,k,U,u,ck]) (e (by omega)) (fun h=>by cases h)
  simp [a];have o:bg A L N (.mk 1 name low l p body array subs (.mk H n x D G C))=(bD A L name low l,N):=by simp [bg,bP,b,f,k,U,u,ck]
  refine ACalls.pure (dz L name) fun Q ch=>?_;cases m:inL name L
  case true=>
   simp [a];exact d (6,N) (by rw [o]; simp [bD,m]) (e (by omega)) (fun h=>by cases h)
  simp [a8,a];refine ACalls.pure (iL ⟨A,S⟩ name) fun a' cl=>?_;by_cases q:0<=bp A name
  ·simp [q];exact d (6,N) (by rw [o]; simp [bD,q]) (e (by omega)) (fun h=>by cases h)
  simp [q,a,a];by_cases P:low=[]
  ·simp [P];exact d (8,N) (by rw [o]; simp [bD,m,q,P]) (e (by omega)) (fun h=>by cases h)
  simp [P,a];by_cases W:l=[]
  ·simp [W];exact d (8,N) (by rw [o]; simp [bD,m,q,P,W]) (e (by omega)) (fun h=>by cases h)
  simp [W,a];by_cases Z:(6:Int)<low.length
  ·simp [Z];exact d (2,N) (by rw [o]; simp [bD,m,q,P,W,Z]) (e (by omega)) (fun h=>by cases h)
  simp [Z,a];by_cases am:(6:Int)<l.length
  ·simp [am];exact d (2,N) (by rw [o]; simp [bD,m,q,P,W,Z,am]) (e (by omega)) (fun h=>by cases h)
  simp [am,a,a];refine ACalls.pure (sC low L) fun b4 cn=>?_;simp [a];refine ACalls.pure (sC l L) fun da dp=>?_;simp [bsI,az,a];refine ACalls.pure (zX _ _) fun de ds=>?_;simp [a];exact d ((if bF L low=0 then bF L l else bF L low),N) (by rw [o]; simp [bD,m,q,P,W,Z,am,kA]) (e (by omega)) (fun h=>rfl)
 by_cases bN:kind=2
 ·subst bN;simp [a];refine ACalls.pure (ct _ _ _) fun c1 a6=>?_;rw [<-ab,<-z];simp [a];by_cases K:name=⟨#[]⟩
  case neg=>
   simp [K,a];exact d (3,N) (by simp [bg,bP,K,ck]) (e (by omega)) (fun h=>by cases h)
  simp [K,bt,a];by_cases b:low=[]/\l=[]
  case neg=>
   have Y:(0:Int)<(low.length:Int)+l.length:=by
    rcases Ez.1 b with h | h <;> have:=r6.2 h <;> omega
   simp [Y,a];exact d (3,N) (by simp [bg,bP,K,ck,b]) (e (by omega)) (fun h=>by cases h)
  obtain ⟨b,v⟩:=b;simp [b,v,a];by_cases f:array=⟨#[]⟩
  case neg=>
   simp [f,a];exact d (3,N) (by simp [bg,bP,K,b,v,f,ck]) (e (by omega)) (fun h=>by cases h)
  simp [f,a];by_cases k:subs=[]
  case neg=>
   have aa:=r6.2 k;simp [aa,a];exact d (3,N) (by simp [bg,bP,K,b,v,f,k,ck]) (e (by omega)) (fun h=>by cases h)
  simp [k,a];refine ACalls.pure a9 fun b3 cc=>?_;cases U:dw (.mk H n x D G C)
  ·simp;exact d (3,N) (by simp [bg,bP,K,b,v,f,k,U,ck]) (e (by omega)) (fun h=>by cases h)
  simp [a];have o:bg A L N (.mk 2 name low l p body array subs (.mk H n x D G C))=(bQ L p,N):=by simp [bg,bP,K,b,v,f,k,U,ck]
  by_cases u:p=[]
  ·simp [u,a];exact d (8,N) (by rw [o]; simp [bQ,u]) (e (by omega)) (fun h=>by cases h)
  simp [u,a];by_cases m:(6:Int)<p.length
  ·simp [m,a];exact d (2,N) (by rw [o]; simp [bQ,u,m]) (e (by omega)) (fun h=>by cases h)
  simp [m,a];refine bu 160 Fn174.W0 p (fun i r dW s'=>bU L p=bU L r) (by rfl) (by rfl) ?_ ?_ ?_
  ·simp
  ·intro c' h c a1 M ap;simp [a1];exact d (0,N) (by rw [o]; simp [bQ,u,m,ap,bU]) ⟨by have:=M.c; omega,fun t O=>by rw [M.h t (by omega),z,qv]⟩ (fun h=>rfl)
  ·intro i a4 dn c' h c cx c7 dv a1 M ap;have a2:=q0 (x:=(i:Int)+1)
   have cp:=M.c;simp [a1,cx,c7,Form.cells];refine ACalls.pure (lR a4 L) fun a3 bf=>?_;by_cases a5:cf a4 L=0
   ·simp [a5,a2,a1,ap,bU];exact M.upd cp (by omega)
   ·simp [a5];exact d (cf a4 L,N) (by rw [o]; simp [bQ,u,m,ap,bU,a5]) ⟨by omega,fun t O=>by rw [qv,M.h t (by omega),z,qv]⟩ (fun h=>rfl)
 by_cases bW:1<=kind/\kind<=3
 case neg=>
  simp [bx,bN];refine ACalls.pure (ct _ _ _) fun c1 a6=>?_;rw [<-ab,<-z];simp [bW];exact d (4,N) (by simp only [bg,bW,not_false_eq_true,if_true]) (e (by omega)) (fun h=>by cases h)
 have c9:kind=3:=by omega
 subst c9;simp;refine ACalls.pure (ct _ _ _) fun c1 a6=>?_;rw [<-ab,<-z];simp [a,bt];by_cases b:low=[]/\l=[]
 case neg=>
  have Y:(0:Int)<(low.length:Int)+l.length:=by
   rcases Ez.1 b with h | h <;> have:=r6.2 h <;> omega
  simp [Y,a];exact d (3,N) (by simp [bg,bP,b]) (e (by omega)) (fun h=>by cases h)
 obtain ⟨b,v⟩:=b;simp [b,v,a];by_cases f:p=[]
 case neg=>
  have b1:=r6.2 f;simp [b1,a];exact d (3,N) (by simp [bg,bP,b,v,f]) (e (by omega)) (fun h=>by cases h)
 simp [f,a];by_cases k:body=[]
 case neg=>
  have aa:=r6.2 k;simp [aa,a];exact d (3,N) (by simp [bg,bP,b,v,f,k]) (e (by omega)) (fun h=>by cases h)
 simp [k,a];refine ACalls.pure (iK name) fun a3 bf=>?_;cases u:bO name
 ·simp;exact d (5,N) (by simp [bg,bP,b,v,f,k,u]) (e (by omega)) (fun h=>by cases h)
 have o:bg A L N (.mk 3 name low l p body array subs (.mk H n x D G C))=(cU A L N name array subs (.mk H n x D G C),N++[name]):=by simp [bg,bP,b,v,f,k,u]
 have bm:mU h1 ks N:=by
  rcases O with h | ⟨R,h,b7⟩
  ·exact .inl h
  ·exact .inr ⟨R,h,by rw [z,ad (by have:=(a0 R _ h).2; omega)]; exact b7⟩
 simp [a8,a];refine ACalls.at (jY ks N name h1 a3 bm bb) fun Q ch=>?_;cases m:inL name N
 case true=>
  simp;exact d (6,N++[name]) (by rw [o]; simp [cU,m]) (e (by omega)) (fun h=>by cases h)
 obtain ⟨T,ca,c3,bk⟩:=yS (c:=Q) bm name bb;have bo:∀ t,t<c0->(∀ len,ks≠.row t 1 0 len)->T t=h0 t:=fun t O c2=>by rw [bk t (by omega) c2,z,qv]
 have cs:T g=h0 g:=bo g bl fun len w=>(a0 g len w).1 rfl;have cb:T c0=h1 c0:=bk c0 (by omega) fun len w=>by have:=(a0 c0 len w).2; omega
 obtain ⟨y,ag⟩:∃ y,y=upd T g (some (.row 4 [[row (A.map Array.cells),row (S.map Step.cells),.row Q 1 0 (N.length+1),.int J]] .live none)):=⟨_,rfl⟩;have bc:y c0=_:=((show y c0=T c0 by rw [ag,ad c4]).trans cb).trans a
 have a7:fe y g A S (.row Q 1 0 (N.length+1)) J:=by rw [ag]; exact ae
 have b':∀ {c:Nat},Q+1<=c->RkI c0 h0 g A S ks J (N++[name]) y c:=fun ar=>by
  refine ⟨⟨_,a7,.inr ⟨Q,by simp,by rw [ag,qv]; exact c3⟩,fun R len w=>?_⟩,fun t O b0 b2=>by rw [ag,ad b0]; exact bo t O b2,by omega⟩
  injection w with b6 di dk dl;subst b6;exact ⟨by omega,by omega,.inl (by omega)⟩
 have bi:∀ {c:Nat} (w:Int),w=cU A L N name array subs (.mk H n x D G C)->Q+1<=c->w=F.1/\∃ N',RkI c0 h0 g A S ks J N' y c/\(F.1=0->N'=F.2):=by
  intro c w cq ar;rw [o] at ao;rw [ao,cq];exact ⟨rfl,N++[name],b' ar,fun _=>rfl⟩
 unfold fe at ax;simp [a8,a,bsI,az,ca,cs,ax];rw [<-ag];simp [bc];refine ACalls.at (sD A S _ J g array subs L y _ a7 (by omega)) fun a' cl=>?_
 by_cases q:bV A array subs L=0
 case neg=>
  simp [q];exact bi _ (by simp [cU,m,q]) (by omega)
 simp [q,bc];refine ACalls.at (bj _ 1 y a' (by omega) (by omega) (by omega) a7 (by omega)) fun b4 cn=>?_
 simp;exact bi _ (by simp [cU,m,q]) (by omega)
structure RkJ (c0:Nat) (h0:Heap) (g:Nat) (A:List Wb.Array) (S:List Wb.Step) (ks0 ks:AV) (n:Int) (N:List ByteArray) (h:Heap) (c:Nat):Prop where
 at_:fe h g A S ks n
 keys:mU h ks N
 gen:∀ gk len,ks=.row gk 1 0 len->gk≠g/\gk<c/\(c0<=gk\/∃ len',ks0=.row gk 1 0 len')
 fr:∀ k,k<c0->k≠g->(∀ len,ks0≠.row k 1 0 len)->h k=h0 k
 c:c0<=c
section
variable {c0 c1 c g:Nat} {h0 h1 h:Heap} {A:List Wb.Array} {S:List Wb.Step} {ks0 ks1 ks:AV} {n n1:Int} {N N1:List ByteArray}
theorem RkI.j (i:RkI c0 h0 g A S ks0 n N h c):∃ ks,RkJ c0 h0 g A S ks0 ks n N h c:=by
 obtain ⟨⟨ks,h1,a,b⟩,d,e⟩:=i;exact ⟨ks,h1,a,b,d,e⟩
theorem RkJ.i (j:RkJ c0 h0 g A S ks0 ks n N h c):RkI c0 h0 g A S ks0 n N h c:=⟨⟨ks,j.at_,j.keys,j.gen⟩,j.fr,j.c⟩
theorem RkJ.trans (j:RkJ c0 h0 g A S ks0 ks1 n1 N1 h1 c1) (k:RkI c1 h1 g A S ks1 n N h c):RkI c0 h0 g A S ks0 n N h c:=by
 obtain ⟨ks,k⟩:=k.j;refine (RkJ.mk (ks:=ks) k.at_ k.keys (fun m len b=>?_) (fun e o f l=>?_) (ts j.c k.c)).i
 ·obtain ⟨h1,p,a⟩:=k.gen m len b;refine ⟨h1,p,?_⟩;rcases a with a | ⟨d,a⟩
  ·exact .inl (ts j.c a)
  ·exact (j.gen m d a).2.2
 ·rw [k.fr e (ro o j.c) f fun len b=>?_,j.fr e o f l];obtain ⟨_,_,a⟩:=j.gen e len b;rcases a with a | ⟨d,a⟩
  ·omega
  ·exact l d a
theorem RkJ.upd (j:RkJ c0 h0 g A S ks0 ks n N h c) (t:g<c0) {k c':Nat} {b:Option Body} (u:c<=k) (m:c<=c'):RkJ c0 h0 g A S ks0 ks n N (AM.upd h k b) c':=by
 have q:=j.c;refine ⟨?_,?_,fun a len d=>⟨(j.gen a len d).1,ro (j.gen a len d).2.1 m,(j.gen a len d).2.2⟩,fun p o e f=>by rw [qv]; exact j.fr p o e f,by omega⟩
 ·unfold fe; rw [qv]; exact j.at_
 ·rcases j.keys with h1 | ⟨a,h1,l⟩
  ·exact .inl h1
  ·exact .inr ⟨a,h1,by rw [ad (by have:=(j.gen a _ h1).2.1; omega)]; exact l⟩
theorem RkJ.more (j:RkJ c0 h0 g A S ks0 ks n N h c) {c':Nat} (d:c<=c'):RkJ c0 h0 g A S ks0 ks n N h c':=
 ⟨j.at_,j.keys,fun b len a=>⟨(j.gen b len a).1,ro (j.gen b len a).2.1 d,(j.gen b len a).2.2⟩,j.fr,ts j.c d⟩
theorem RkJ.same (j:RkJ c0 h0 g A S ks0 ks n N h1 c1) (q:g<c0) (b:Fr c1 h1 h c):RkJ c0 h0 g A S ks0 ks n N h c:=by
 have p:=j.c;have m:=b.c;refine ⟨?_,?_,fun a len d=>⟨(j.gen a len d).1,ro (j.gen a len d).2.1 m,(j.gen a len d).2.2⟩,fun e o f k=>by rw [b.h e (by omega)]; exact j.fr e o f k,by omega⟩
 ·unfold fe; rw [b.h g (by omega)]; exact j.at_
 ·rcases j.keys with h1 | ⟨a,h1,l⟩
  ·exact .inl h1
  ·exact .inr ⟨a,h1,by rw [b.h a (j.gen a _ h1).2.1]; exact l⟩
theorem RkJ.set (j:RkJ c0 h0 g A S ks0 ks n N h c) (m:Int):RkJ c0 h0 g A S ks0 ks m N (AM.upd h g (some (.row 4 [[row (A.map Array.cells),row (S.map Step.cells),ks,.int m]] .live none))) c:=by
 refine ⟨ae,?_,j.gen,fun k f a d=>by rw [ad a]; exact j.fr k f a d,j.c⟩
 rcases j.keys with h1 | ⟨b,h1,e⟩
 ·exact .inl h1
 ·exact .inr ⟨b,h1,by rw [ad (j.gen b _ h1).1]; exact e⟩
end
theorem rL (A:List Wb.Array) (L:List ByteArray) (d:Int) (N:List ByteArray) (kind:Int) (name:ByteArray) (low k:List Wb.Bound) (e:List Wb.Form) (body:List Wb.Step) (array:ByteArray) (subs:List Wb.Form) (expr:Wb.Expr) (t:¬12<d) :
  let s:=Wb.Step.mk kind name low k e body array subs expr
  ((bg A L N s).1≠0->(aI A L d N s).1=(bg A L N s).1) /\
  ((bg A L N s).1=0->aI A L d N s=aJ A (if kind=1 then L++[name] else L) (d+1) (bg A L N s).2 body):=by
 intro s;simp only [s,aI,bg,t,if_false];by_cases h1:1<=kind/\kind<=3
 case neg=>simp [h1]
 cases a:bP kind name low k e body array subs expr
 ·simp [h1,a]
 by_cases l:kind≠2/\bO name=false
 ·obtain ⟨m,o⟩:=l;simp [h1,a,m,o]
 simp only [h1,a,l,if_true,if_false,not_true,and_self,Bool.true_eq_false];by_cases f:kind=1
 ·simp only [f,if_true];by_cases b:bD A L name low k=0 <;> simp [b]
 ·simp only [f,if_false];by_cases b:kind=2
  ·simp only [b,if_true];by_cases p:bQ L e=0 <;> simp [p]
  ·simp only [b,if_false];have q:body=[]:=by
    simp [bP,f,b] at a;exact a.2
   subst q;constructor
   ·intro _; simp
   ·intro h; simp [aJ,h]
theorem Ar (A:List Wb.Array) (L N:List ByteArray) (s:Wb.Step):(bg A L N s).2.length<=N.length+1:=by
 obtain ⟨kind,name,low,b,a,body,array,subs,expr⟩:=s;simp only [bg]
 repeat' split
 all_goals simp
theorem wT (A:List Wb.Array) (S:List Wb.Step) (g:Nat):∀ (aa:Nat) (l:List Wb.Step) (a:Int) (L N:List ByteArray) (ks:AV) (G:Int) (h0:Heap) (c0:Nat),14<=a+aa->(L.length:Int)<a->a<=13 ->
  fe h0 g A S ks G->mU h0 ks N->(∀ q len,ks=.row q 1 0 len->q≠g/\q<c0)->g<c0->0<=G->G+aw l<1000000000->N.length+aw l<=1000000000 ->
  ACalls Pg 102 [.ptr g 0 0,row (l.map Step.cells),row (ak L),.int a] ⟨h0,c0⟩ fun av s'=>av=.int (aJ A L a N l).1/\∃ d N',RkI c0 h0 g A S ks d N' s'.h s'.c/\((aJ A L a N l).1=0->d=G+aw l/\N'=(aJ A L a N l).2/\N'.length<=N.length+aw l):=by
 intro aa
 induction aa with
 | zero=>intro l a L N ks G h0 c0 d2 c5 c6; omega
 | succ aa b'=>
  intro l a L N ks G h0 c0 d4 c5 c6 c4 c' b1 bN eo eg em;refine ACalls.small fun b4=>?_;have en:l.length<=68719476736:=by simp at b4; exact b4.1.1
  obtain ⟨F,bl⟩:∃ F,F=aJ A L a N l:=⟨_,rfl⟩;rw [<-bl];refine Fn102.calls .keep ?_;unfold Fn102.ac;simp;have dn:RkJ c0 h0 g A S ks ks G N h0 c0:=⟨c4,c',fun q len k=>⟨(b1 q len k).1,(b1 q len k).2,.inr ⟨len,k⟩⟩,fun _ _ _ _=>rfl,q5 _⟩;obtain ⟨ar,U⟩:∃ ar:Nat->List Wb.Step->Slots->St->Prop,ar=fun i r et s'=>∃ d N',RkI c0 h0 g A S ks d N' s'.h s'.c/\d=G+aw (l.take i)/\N'.length<=N.length+aw (l.take i)/\F=aJ A L a N' r:=⟨_,rfl⟩;refine aZ 16 Fn102.W0 l ar (by rfl) (by rfl) ?_ ?_ ?_
  ·rw [U]; exact ⟨by simp,G,N,dn.i,by simp [aw],by simp [aw],bl⟩
  ·intro dv s' Y y;rw [U] at y;obtain ⟨d,N',y,D,a7,ai⟩:=y;rw [r0] at D a7;simp [Y];have bi:F=(0,N'):=by rw [ai]; rfl
   refine ⟨by rw [bi],d,N',y,fun _=>⟨D,by rw [bi],a7⟩⟩
  ·intro i x xs dv s' b0 dk b2 Y y;rw [U] at y;obtain ⟨d,N',y,D,a7,ai⟩:=y;obtain ⟨h,c⟩:=s';simp only at y;obtain ⟨ks1,ap⟩:=y.j;have d':=ap.c;have el:=fg b2;have ao:=ja b2 b0;have b8:=q0 (x:=(i:Int)+1)
   have b9:=q0 (x:=a+1)
   have di:=q0 (x:=d+1)
   have b3:=fun ks h0 c0 h1 J K cc a0=>xF A S g x L N' ks (d+1) h0 c0 h1 J K cc a0;obtain ⟨kind,name,low,t,f,body,array,subs,⟨u,n,b,o,p,e⟩⟩:=x;rw [Step.av_mk] at b3;have am:count (.mk kind name low t f body array subs (.mk u n b o p e))=1+aw body:=by simp [count]
   have a8:¬c=g:=by omega
   have da:¬g=c:=by omega
   obtain ⟨B,bk⟩:∃ B,B=some (Body.row 15 [[AV.int kind,.str name,row (low.map Bound.cells),row (t.map Bound.cells),row (f.map Form.cells),row (body.map Step.cells),.str array,row (subs.map Form.cells),
    .int u,.int n,.int b.const,row (b.terms.map Term.cells),.str o,row (p.map Form.cells),row (e.map Expr.cells)]] .live none):=⟨_,rfl⟩
   obtain ⟨J,a6⟩:∃ J,J=upd (upd h c B) g (some (.row 4 [[row (A.map Array.cells),row (S.map Step.cells),ks1,.int (d+1)]] .live none)):=⟨_,rfl⟩;have O:RkJ c0 h0 g A S ks ks1 (d+1) N' J (c+1):=by rw [a6]; exact (ap.upd bN (q5 _) (rv _)).set (d+1)
   have cq:J c=B:=by rw [a6,ad a8,ae]
   have bx:=cq.trans bk;have bo:=ap.at_;unfold fe at bo;have ef:∀ (k:Int) (dN:List ByteArray),True:=fun _ _=>trivial;simp [Y,b0,dk,Step.cells_mk,bo,a8,da,di];rw [<-bk,<-a6];have cl:F.1=(if (aI A L a N' (.mk kind name low t f body array subs (.mk u n b o p e))).1=0 then (aJ A L a (aI A L a N' (.mk kind name low t f body array subs (.mk u n b o p e))).2 xs).1 else (aI A L a N' (.mk kind name low t f body array subs (.mk u n b o p e))).1):=by
    rw [ai]; simp only [aJ]; split <;> rfl
   have bm:(aI A L a N' (.mk kind name low t f body array subs (.mk u n b o p e))).1=0->F=aJ A L a (aI A L a N' (.mk kind name low t f body array subs (.mk u n b o p e))).2 xs:=fun h=>by
    rw [ai]; simp only [aJ,h,if_true]
   have M:(aI A L a N' (.mk kind name low t f body array subs (.mk u n b o p e))).1≠0->F.1=(aI A L a N' (.mk kind name low t f body array subs (.mk u n b o p e))).1:=fun h=>by
    rw [cl,if_neg h]
   by_cases ag:12<a
   ·have b7:(aI A L a N' (.mk kind name low t f body array subs (.mk u n b o p e))).1=2:=by simp [aI,ag]
    have C:F.1=2:=by rw [M (by rw [b7]; decide),b7]
    simp [ag];exact ⟨C.symm,_,_,O.i,fun h=>by rw [C] at h; cases h⟩
   obtain ⟨b5,b6⟩:=rL A L a N' kind name low t f body array subs (.mk u n b o p e) ag;simp [ag,bx];refine (b3 ks1 J (c+1) O.at_ O.keys (fun q len k=>⟨(O.gen q len k).1,(O.gen q len k).2.1⟩) (by omega) (by omega)).mono ?_
   rintro av ⟨K,ax⟩ c2 ⟨rfl,H,al,dl⟩;simp only at al c2;have a2:=O.trans al;by_cases z:(bg A L N' (.mk kind name low t f body array subs (.mk u n b o p e))).1=0
   case neg=>
    have C:F.1=(bg A L N' (.mk kind name low t f body array subs (.mk u n b o p e))).1:=by rw [M (by rw [b5 z]; exact z),b5 z]
    simp [z];exact ⟨C.symm,_,_,a2,fun h=>by rw [C] at h; exact absurd h z⟩
   have a4:=dl z;have d3:H.length<=N'.length+1:=by rw [a4]; exact Ar _ _ _ _
   have cp:K c=J c:=al.fr c (by omega) a8 fun len k=>by have:=(ap.gen c len k).2.1; omega
   have W:=cp.trans bx;have ea:=al.c;simp [z,W];by_cases a':kind=1
   ·subst a';simp [W,bsI,az];refine (fK L K ax).mono ?_;rintro av ⟨d0,dW⟩ c3 ⟨C,bt⟩;simp only at C bt c3;obtain ⟨cb,ab,bj,cn,c8,ch,c9⟩:=e7 C bt name (by omega)
    have de:(ak (L++[name])).length=L.length+1:=by simp [ak]
    have c7:=dj (s:=⟨bj,ab⟩) (z:=1) c8 de;obtain ⟨Q,bW⟩:∃ Q,Q=upd bj cb (some (.row 1 (ak (L++[name])) .frz none)):=⟨_,rfl⟩;have a1:Fr ax K Q ab:=by rw [bW]; exact ch.upd c9 (q5 _)
    have d1:=a1.c;have cs:=((C.h c (by omega)).trans W)
    have cx:=((a1.h c (by omega)).trans W)
    simp [cs,cn,c7,-er];rw [<-bW];simp [cx,b9];have a3:RkI c0 h0 g A S ks (d+1) H Q ab:=by obtain ⟨es,dp⟩:=a2.j; exact (dp.same bN a1).i
    have v:aI A L a N' (.mk 1 name low t f body array subs (.mk u n b o p e))=aJ A (L++[name]) (a+1) H body:=by
     rw [b6 z,a4]; rfl
    obtain ⟨bb,w⟩:=a3.j;refine (b' body (a+1) (L++[name]) H bb (d+1) Q ab (by omega) (by simp; omega) (by omega) w.at_ w.keys (fun q len k=>⟨(w.gen q len k).1,(w.gen q len k).2.1⟩) (by omega) (by rw [D]; omega) (by rw [D]; omega) (by omega)).mono ?_
    rintro av ⟨a0,ca⟩ a5 ⟨rfl,Z,P,R,a9⟩;simp only at R a5;have T:=w.trans R;by_cases m:(aJ A (L++[name]) (a+1) H body).1=0
    ·obtain ⟨bc,bf,ds⟩:=a9 m;simp [m,b8,Y];rw [U];exact ⟨Z,P,T,by rw [bc,D,ao,am]; omega,by rw [ao,am]; omega,by rw [bm (by rw [v]; exact m),v,bf]⟩
    ·simp [m];refine ⟨by rw [M (by rw [v]; exact m),v],Z,P,T,fun h=>absurd h ?_⟩
     rw [M (by rw [v]; exact m),v]; exact m
   simp [a',W,b9];have a3:=a2;have v:aI A L a N' (.mk kind name low t f body array subs (.mk u n b o p e))=aJ A L (a+1) H body:=by
    rw [b6 z,a4]; simp [a']
   obtain ⟨bb,w⟩:=a3.j;refine (b' body (a+1) L H bb (d+1) K ax (by omega) (by omega) (by omega) w.at_ w.keys (fun q len k=>⟨(w.gen q len k).1,(w.gen q len k).2.1⟩) (by omega) (by rw [D]; omega) (by rw [D]; omega) (by omega)).mono ?_
   rintro av ⟨a0,ca⟩ a5 ⟨rfl,Z,P,R,a9⟩;simp only at R a5;have T:=w.trans R;by_cases m:(aJ A L (a+1) H body).1=0
   ·obtain ⟨bc,bf,ds⟩:=a9 m;simp [m,b8,Y];rw [U];exact ⟨Z,P,T,by rw [bc,D,ao,am]; omega,by rw [ao,am]; omega,by rw [bm (by rw [v]; exact m),v,bf]⟩
   ·simp [m];refine ⟨by rw [M (by rw [v]; exact m),v],Z,P,T,fun h=>absurd h ?_⟩
    rw [M (by rw [v]; exact m),v]; exact m
end Go.Proofs.YtjhogglgkjcacaaGreat
set_option maxRecDepth 20000
set_option maxHeartbeats 4000000
namespace Go.Proofs.YtjhogglgkjcacaaGreat
open Go.AM Go.Wb
theorem uH {e:Type} (p:e->Bool):∀ (l:List e) (i k:Int),0<=i->∀ (n:Nat) (x:e) (a:n<l.length),l[n]=x->p x=true->(bq p l i<i+n↔(l.take n).any p=true)
 | [],i,k,f,n,x,a,_,_=>by simp at a
 | o::ys,i,k,f,0,x,a,b,d=>by
  simp at b; subst b;simp [bq,d]
 | o::ys,i,k,f,n+1,x,a,b,d=>by
  have q:=uH p ys (i+1) k (by omega) n x (by simpa using a) (by simpa using b) d
  by_cases m:p o=true
  ·simp [bq,m]; omega
  ·simp only [bq,m,List.take_succ_cons,Ew,w0];simp only [u1,if_false];rw [<-q];constructor <;> intro h <;> omega
theorem ux (p:Wb.Prog) (b4:aw p.steps<100000000):aG Pg 30 [p.av] (.int (aR p)):=by
 rintro ⟨h0,c0⟩;refine ACalls.small fun bj=>?_;have b7:p.arrays.length<=68719476736/\p.steps.length<=68719476736:=by simp [Prog.av] at bj; omega
 refine Fn30.calls .frz ?_;unfold Fn30.ac;simp [Prog.av];by_cases h1:(20:Int)<p.arrays.length
 ·simp [h1,aR]
 simp [h1];obtain ⟨u,H⟩:∃ u:Nat->List Wb.Array->Slots->St->Prop,u=fun i r ag cb=>∃ cells,0<=cells/\cells<=20000/\ag 3=.int cells/\bR [] p.arrays 0=bR (p.arrays.take i) r cells:=⟨_,rfl⟩;refine bu 18 Fn30.W0 p.arrays u (by rfl) (by rfl) ?_ ?_ ?_
 ·rw [H]; exact ⟨by simp,0,by omega,by omega,by simp,by simp⟩
 ·intro bx h c K f a;rw [H] at a;obtain ⟨cells,a8,a9,P,a⟩:=a;have ab:bR [] p.arrays 0=0:=by rw [a]; rfl
  have ap:=f.c;have R:h c0=some (.row 2 [[row (p.arrays.map Array.cells),row (p.steps.map Step.cells)]] .live none):=by rw [f.h c0 (by omega)]; simp
  have W:¬c0=c:=by omega
  simp [K,R,W,aH];obtain ⟨G,T⟩:∃ G,G=upd h c (some (.row 4 [[row (p.arrays.map Array.cells),row (p.steps.map Step.cells),.sl [] true,.int 0]] .live none)):=⟨_,rfl⟩;rw [<-T];have bc:fe G c p.arrays p.steps (.sl [] true) 0:=by rw [T]; unfold fe; rw [ae]
  refine (wT p.arrays p.steps c 1000 p.steps 1 [] [] (.sl [] true) 0 G (c+1) (by omega) (by simp) (by omega) bc (.inl ⟨rfl,rfl⟩) (fun b1 len d=>by cases d) (by omega) (by omega) (by omega) (by simp; omega)).mono ?_
  rintro av ⟨a7,a5⟩ bb ⟨rfl,ca,bW,Q,bo⟩;simp only at Q;have Y:retH c0 h0 a7=h0:=aA fun O bi=>by
   rw [Q.fr O (by omega) (by omega) (fun len d=>by cases d),T,qv,f.h O (by omega),qv]
  by_cases w:(aJ p.arrays [] 1 [] p.steps).1=0
  case neg=>simp [w,Y,aR,h1,ab]
  obtain ⟨a1,_,_⟩:=bo w;obtain ⟨⟨ks,ao,_⟩,_,_⟩:=Q;unfold fe at ao;simp [w,ao];by_cases ai:(300:Int)<aw p.steps
  ·simp [a1,ai,Y,aR,h1,ab,w]
  ·simp [a1,ai,Y,aR,h1,ab,w]
 ·intro i x xs bx h c U aa b5 K f a;rw [H] at a;obtain ⟨cells,a8,a9,P,a⟩:=a;simp at P;have bk:=q0 (x:=(i:Int)+1)
  have ap:=f.c;have R:h c0=some (.row 2 [[row (p.arrays.map Array.cells),row (p.steps.map Step.cells)]] .live none):=by rw [f.h c0 (by omega)]; simp
  have W:¬c0=c:=by omega
  have t:∀ {e},retH c0 h0 (upd h c e)=h0:=fun {e}=>aA fun O bi=>by rw [qv,f.h O (by omega),qv]
  have q:∀ (d:Int),(be x (p.arrays.take i) cells).1=d->d≠0->aR p=d:=fun d a6 al=>by
   have:bR [] p.arrays 0=d:=by rw [a]; simp only [bR,a6]; rw [if_neg al]
   simp [aR,h1,this,al]
  have a0:bp p.arrays x.key<(i:Int)↔((p.arrays.take i).any fun e=>decide (e.key=x.key))=true:=by
   have:=uH (fun a3:Wb.Array=>decide (a3.key=x.key)) p.arrays 0 0 (by omega) i x U aa (by simp)
   simpa [bp] using this
  simp [K,U,aa,Array.cells];refine ACalls.pure (iK x.key) fun c1 b2=>?_;cases l:bO x.key
  ·simp [t,q 5 (by simp [be,l]) (by decide)]
  simp [R,W];refine ACalls.pure (iL p x.key) fun b0 b3=>?_;by_cases z:bp p.arrays x.key<(i:Int)
  ·simp [z,t,q 6 (by simp only [be,l,a0.1 z]; rfl) (by decide)]
  have C:((p.arrays.take i).any fun e=>decide (e.key=x.key))=false:=by
   cases h:((p.arrays.take i).any fun e=>decide (e.key=x.key))
   ·rfl
   ·exact absurd (a0.2 h) z
  simp [z,an];by_cases m:x.sizes=[]
  ·simp [m,t,q 8 (by simp only [be,l,C,m]; rfl) (by decide)]
  simp [m];by_cases v:(4:Int)<x.sizes.length
  ·simp [v,t,q 2 (by simp only [be,l,C,m,v]; rfl) (by decide)]
  simp [v];obtain ⟨a2,J⟩:∃ u:Nat->List Int->Slots->Prop,u=fun i r ag=>∃ n,1<=n/\n<=20001/\ag 6=.int n/\db x.sizes 1=db r n:=⟨_,rfl⟩;refine bM 48 Fn30.W1 x.sizes a2 (by rfl) (by rfl) ?_ ?_ ?_
  ·rw [J]; exact ⟨by simp,1,by omega,by omega,by simp,rfl⟩
  ·intro bN a4 M a' b;rw [J] at b;obtain ⟨n,ar,ax,y,b⟩:=b;simp at y;have Z:=q0 (x:=cells+n)
   have am:be x (p.arrays.take i) cells=if 20000<cells+n then (12,cells+n) else (0,cells+n):=by
    simp only [be,l,C,m,v,b,db]; simp
   simp [M,y,P,Z];by_cases D:20000<cells+n
   ·simp [D,t,q 12 (by rw [am]; simp [D]) (by decide)]
   ·simp [D,bk,K];refine ⟨f.upd ap (by omega),?_⟩
    rw [H];refine ⟨cells+n,by omega,by omega,by simp,?_⟩
    rw [a]; simp only [bR,am,if_neg D,if_true];rw [r7,q3 U,aa]; rfl
  ·intro bt k ys bN a4 bf bm b6 M a' b;rw [J] at b;obtain ⟨n,ar,ax,y,b⟩:=b;simp at y;have b8:x.sizes.length<=4:=by omega
   have Z:=q0 (x:=(bt:Int)+1)
   simp [M,bf,bm];refine ACalls.pure (ct _ _ _) fun a5 bb=>?_;by_cases o:1<=k/\k<=20000
   case neg=>simp [o,t,q 1 (by simp only [be,l,C,m,v,b,db,o]; rfl) (by decide)]
   have b9:1<=n*k:=by have:=v2 ar o.1 (by omega) (by omega); simpa using this
   have b':n*k<=20001*20000:=v2 ax o.2 (by omega) (by omega)
   have bl:=q0 (x:=n*k)
   simp [o,y,bl,Z,M];refine ⟨by omega,?_⟩
   rw [J];refine ⟨if 20001<n*k then 20001 else n*k,by split <;> omega,by split <;> omega,by simp,by rw [b]; simp [db,o]⟩
def bub {a:Type} (lt:a->a->Bool) (l:List a):Nat->List a
 | 0=>l
 | j+1=>match l[j+1]?,l[j]? with
  | some b,some d=>if lt b d=true then bub lt ((l.set (j+1) d).set j b) j else l
  | _,_=>l
def gB {a:Type} (lt:a->a->Bool) (l:List a):Nat->List a
 | 0=>l
 | i+1=>bub lt (gB lt l i) (i+1)
def n8 {a:Type} (lt:a->a->Bool) (l:List a):List a:=gB lt l (l.length-1)
theorem uD {a:Type} (lt:a->a->Bool):∀ (j:Nat) (l:List a),(bub lt l j).length=l.length
 | 0,l=>rfl
 | j+1,l=>by
  simp only [bub];split
  ·split
   ·rw [uD lt j]; simp
   ·rfl
  ·rfl
theorem uE {a:Type} (lt:a->a->Bool):∀ (j:Nat) (l:List a) (x:a),x∈bub lt l j->x∈l
 | 0,l,x,h=>h
 | j+1,l,x,h=>by
  simp only [bub] at h;split at h
  ·rename_i f k d e;split at h
   ·have:=uE lt j _ x h;rcases xx this with h1 | h1
    ·rcases xx h1 with b | b
     ·exact b
     ·rw [b]; exact r8 e
    ·rw [h1]; exact r8 d
   ·exact h
  ·exact h
theorem mg {a:Type} (lt:a->a->Bool) (l:List a):∀ i,(gB lt l i).length=l.length
 | 0=>rfl
 | i+1=>by simp only [gB]; rw [uD,mg lt l i]
theorem mh {a:Type} (lt:a->a->Bool) (l:List a):∀ i x,x∈gB lt l i->x∈l
 | 0,x,h=>h
 | i+1,x,h=>mh lt l i x (uE lt _ _ x h)
def wS (f:Nat) (lt:List AV->List AV->Bool) (l:List (List AV)):Prop:=
 ∀ a∈l,∀ b∈l,∀ h c,ACalls Pg f [norm (.agg a),norm (.agg b)] ⟨h,c⟩ fun r d=>(∃ n:Int,r=.int n/\lt a b=decide (n<0))/\d.h=h
theorem lB (l:List (List AV)) (cn:l.length<=12) (a5:∀ e∈l,aF 2 e=true) (f:Nat) (lt:List AV->List AV->Bool) (d:Nat) (h0:Heap) (c0:Nat)
  (b7:h0 d=some (.row 2 l .live none)) (bx:d<c0) (bi:wS f lt l) :
  ACalls Pg 294 [.row d 2 0 l.length,.int 0,.int l.length,.fn (.func f) [] []] ⟨h0,c0⟩ fun av s'=>s'.h d=some (.row 2 (n8 lt l) .live none)/\∀ k,k≠d->s'.h k=h0 k:=by
 refine Fn294.calls .frz ?_;unfold Fn294.ac;have b6:IntKind.i64.wrap 1=1:=by decide
 simp [b6];obtain ⟨q,J⟩:∃ q:Nat->Slots->St->Prop,q=fun n m s'=>∃ i:Nat,1<=i/\i+n=max l.length 1/\m 8=.int i/\s'.h d=some (.row 2 (gB lt l (i-1)) .live none)/\(∀ k,k≠d->s'.h k=h0 k)/\c0<=s'.c:=⟨_,rfl⟩;refine cJ Fn294.W0 (by rfl) q (max l.length 1-1) ?_ ?_
 ·rw [J]; exact ⟨1,by omega,by omega,by simp,by simpa [gB] using b7,fun k u=>rfl,q5 _⟩
 ·intro n cp s' ag;rw [J] at ag;obtain ⟨i,cb,cc,v,Q,O,ao⟩:=ag;obtain ⟨h,c⟩:=s';simp at v;simp only at Q O ao;by_cases a2:i<l.length
  case neg=>
   have b0:¬(i:Int)<l.length:=by omega
   have bN:i-1=l.length-1:=by omega
   have bo:retH c0 h0 h d=some (.row 2 (n8 lt l) .live none):=by
    unfold retH; rw [if_pos bx,Q,bN]; rfl
   have bt:∀ k,k≠d->retH c0 h0 h k=h0 k:=fun k u=>by
    unfold retH; split
    ·exact O k u
    ·rfl
   simp [v,a2,bo];exact bt
  have b0:(i:Int)<l.length:=by omega
  simp [v,a2];obtain ⟨bb,K⟩:∃ q:Nat->Slots->St->Prop,q=fun j m s'=>∃ a,j<=i/\m 9=.int j/\m 8=.int i/\a.length=l.length/\(∀ e∈a,e∈l)/\bub lt (gB lt l (i-1)) i=bub lt a j/\s'.h d=some (.row 2 a .live none)/\(∀ k,k≠d->s'.h k=h0 k)/\c0<=s'.c:=⟨_,rfl⟩;refine cJ Fn294.W1 (by rfl) bb i ?_ ?_
  ·rw [K]; exact ⟨_,q5 _,by simp,by simp [v],mg lt l _,mh lt l _,rfl,Q,O,ao⟩
  ·intro j cq b' ai;rw [K] at ai;obtain ⟨a,ch,w,t,bW,p,am,y,P,ap⟩:=ai;obtain ⟨o,bc⟩:=b';simp at w t;simp only at y P ap;have a8:=q0 (x:=(i:Int)+1)
   have a4:∀ (al:bub lt a j=a) (m:Slots) (H:Nat),c0<=H->m 8=.int ((i:Int)+1)->∃ G,G<n/\q G m ⟨o,H⟩:=by
    intro al m H bj b5;rw [J];refine ⟨n-1,by omega,i+1,by omega,by omega,by rw [b5]; rfl,?_,P,bj⟩
    show o d=_;have:gB lt l (i+1-1)=a:=by
     have e:i+1-1=(i-1)+1:=by omega
     rw [e]; simp only [gB]; rw [show i-1+1=i by omega,am,al]
    rw [this]; exact y
   cases j with
   | zero=>
    simp [w,t,a8];exact a4 rfl _ _ ap (by simp)
   | succ j=>
    have T:j+1<a.length:=by omega
    have R:j<a.length:=by omega
    have a9:IntKind.i64.wrap ((j:Int)+1-1)=j:=by rw [ah (by omega) (by omega)]; omega
    have a':IntKind.i64.wrap (j:Int)=j:=ah (by omega) (by omega)
    have b3:(0:Int)<(j:Int)+1:=by omega
    have a6:(0:Int)<=(j:Int)+1:=by omega
    have a0:(j:Int)+1<l.length:=by omega
    have a1:(j:Int)<l.length:=by omega
    obtain ⟨x,U⟩:∃ x,a[j+1]=x:=⟨_,rfl⟩;obtain ⟨b,Z⟩:∃ b,a[j]=b:=⟨_,rfl⟩;have W:x∈a:=by rw [<-U]; exact u3 T
    have aa:b∈a:=by rw [<-Z]; exact u3 R
    have Y:=co (a5 x (p x W));have ab:=co (a5 b (p b aa));have a7:((j:Int)+1).toNat=j+1:=by omega
    have ar:x.take 2=x:=q8 (by omega)
    have ax:b.take 2=b:=q8 (by omega)
    have C:a[j+1]?=some x:=by rw [q3 T,U]
    have D:a[j]?=some b:=by rw [q3 R,Z]
    simp [w,t,a9,a',b3,a6,a0,a1,y,a7,C,D,Y.1,ab.1,ar,ax];refine ACalls.quiet (R:=fun r=>∃ n:Int,r=.int n/\lt x b=decide (n<0)) (bi x (p x W) b (p b aa) o bc) fun r bf b4 ca=>?_;obtain ⟨G,rfl,a3⟩:=b4;by_cases z:G<0
    ·have b2:lt x b=true:=by rw [a3]; simpa using z
     have M:bub lt a (j+1)=bub lt ((a.set (j+1) b).set j x) j:=by simp only [bub,C,D,b2,if_true]
     have cl:¬j+1=j:=by omega
     have b8:=Y.2;have b9:=ab.2;have bk:x.drop 2=[]:=u2 (by omega)
     have bl:b.drop 2=[]:=u2 (by omega)
     simp [-AV.cell,z,w,t,a9,a',a6,a0,a1,y,a7,C,D,Y.1,ab.1,ar,ax,b8,b9,bk,bl,R,T,U,Z];refine ⟨j,q7 _,?_⟩;rw [K];refine ⟨(a.set (j+1) b).set j x,by omega,by simp,by simp [t],by simp [bW],fun e bm=>?_,by rw [am,M],by simp,fun k u=>by show upd _ _ _ k=_; rw [ad u]; exact P k u,by show c0<=bf; omega⟩
     rcases xx bm with h1 | h1
     ·rcases xx h1 with o | o
      ·exact p e o
      ·rw [o]; exact p b aa
     ·rw [h1]; exact p x W
    ·have b1:lt x b=false:=by rw [a3]; simpa using z
     have M:bub lt a (j+1)=a:=by simp [bub,C,D,b1]
     simp [z,t,a8];exact a4 M _ _ (by omega) (by simp)
theorem yU:∀ n:Nat,n<13->∃ b,(⟨#[0,1,2,2,3,3,3,3,4,4,4,4,4,4,4,4,5,5,5,5,5,5,5,5,5,5,5,5,5,5,5,5,6,6,6,6,6,6,6,6,6,6,6,6,6,6,6,6,6,6,6,6,6,6,6,6,6,6,6,6,6,6,6,6,7,7,7,7,7,7,7,7,7,7,7,7,7,7,7,7,7,7,7,7,7,7,7,7,7,7,7,7,7,7,7,7,7,7,7,7,7,7,7,7,7,7,7,7,7,7,7,7,7,7,7,7,7,7,7,7,7,7,7,7,7,7,7,7,8,8,8,8,8,8,8,8,8,8,8,8,8,8,8,8,8,8,8,8,8,8,8,8,8,8,8,8,8,8,8,8,8,8,8,8,8,8,8,8,8,8,8,8,8,8,8,8,8,8,8,8,8,8,8,8,8,8,8,8,8,8,8,8,8,8,8,8,8,8,8,8,8,8,8,8,8,8,8,8,8,8,8,8,8,8,8,8,8,8,8,8,8,8,8,8,8,8,8,8,8,8,8,8,8,8,8,8,8,8,8,8,8,8,8,8,8,8,8,8,8,8,8,8,8,8,8,8]⟩:ByteArray)[n]?=some b:=by
 intro n d;have h:∀ n<13,((bs ⟨#[0,1,2,2,3,3,3,3,4,4,4,4,4,4,4,4,5,5,5,5,5,5,5,5,5,5,5,5,5,5,5,5,6,6,6,6,6,6,6,6,6,6,6,6,6,6,6,6,6,6,6,6,6,6,6,6,6,6,6,6,6,6,6,6,7,7,7,7,7,7,7,7,7,7,7,7,7,7,7,7,7,7,7,7,7,7,7,7,7,7,7,7,7,7,7,7,7,7,7,7,7,7,7,7,7,7,7,7,7,7,7,7,7,7,7,7,7,7,7,7,7,7,7,7,7,7,7,7,8,8,8,8,8,8,8,8,8,8,8,8,8,8,8,8,8,8,8,8,8,8,8,8,8,8,8,8,8,8,8,8,8,8,8,8,8,8,8,8,8,8,8,8,8,8,8,8,8,8,8,8,8,8,8,8,8,8,8,8,8,8,8,8,8,8,8,8,8,8,8,8,8,8,8,8,8,8,8,8,8,8,8,8,8,8,8,8,8,8,8,8,8,8,8,8,8,8,8,8,8,8,8,8,8,8,8,8,8,8,8,8,8,8,8,8,8,8,8,8,8,8,8,8,8,8,8,8]⟩)[n]?).isSome=true:=by decide +kernel
 obtain ⟨b,a⟩:=x1.1 (h n d);exact ⟨b,by rw [jV]; exact a⟩
theorem zv {x:Int} (h:0<=x) (h':x<18446744073709551616):IntKind.u64.wrap x=x:=by
 simp [IntKind.wrap,IntKind.bits,IntKind.signed]; omega
theorem AA {x:Int} (h:0<=x) (h':x<256):IntKind.u8.wrap x=x:=by
 simp [IntKind.wrap,IntKind.bits,IntKind.signed]; omega
theorem su (n:Nat) (f:n<13):∃ k,aG Pg 151 [.sc (.int .u64 n)] (.int k):=by
 obtain ⟨a,e⟩:=yU n f;have h1:¬(4294967296:Int)<=n:=by omega
 have b:¬(65536:Int)<=n:=by omega
 have d:¬(256:Int)<=n:=by omega
 have l:=AA (x:=(n:Int)) (by omega) (by omega)
 refine ⟨IntKind.i64.wrap (0+IntKind.i64.wrap a.toNat),fun s=>?_⟩;refine Fn151.calls .frz ?_;unfold Fn151.ac;simp;refine ACalls.pure (v:=.int (IntKind.i64.wrap (0+IntKind.i64.wrap a.toNat))) (fun s=>?_) fun c1 m=>by simp
 refine Fn226.calls .frz ?_;unfold Fn226.ac;simp [h1,b,d,l,e]
theorem oZ (l:List (List AV)) (H:l.length<=12) (J:∀ e∈l,aF 2 e=true) (f:Nat) (lt:List AV->List AV->Bool) (a:Nat) (h0:Heap) (c0:Nat)
  (P:h0 a=some (.row 2 l .live none)) (R:a<c0) (D:wS f lt l) :
  ACalls Pg 160 [.row a 2 0 l.length,.fn (.func f) [] []] ⟨h0,c0⟩ fun av s'=>s'.h a=some (.row 2 (n8 lt l) .live none)/\∀ k,k≠a->s'.h k=h0 k:=by
 refine Fn160.calls .frz ?_;unfold Fn160.ac;have M:=zv (x:=(l.length:Int)) (by omega) (by omega)
 have O:=q0 (x:=(l.length:Int))
 have z:(l.length:Int)<=12:=by omega
 obtain ⟨k,b⟩:=su l.length (by omega)
 simp [M];refine ACalls.pure b fun c1 Q=>?_;simp;have K:ACalls Pg 231 [.row a 2 0 l.length,.int 0,.int l.length,.int k,.fn (.func f) [] []] ⟨h0,c1⟩ fun av s'=>s'.h a=some (.row 2 (n8 lt l) .live none)/\∀ k,k≠a->s'.h k=h0 k:=by
  refine Fn231.calls .frz ?_;unfold Fn231.ac;simp;obtain ⟨p,t⟩:∃ p:Nat->Slots->St->Prop,p=fun n o s'=>o 0=.row a 2 0 l.length/\o 1=.int 0/\o 2=.int l.length/\o 4=.fn (.func f) [] []/\s'=⟨h0,c1⟩:=⟨_,rfl⟩;refine lU p 0 ?_ ?_
  ·rw [t]; simp
  ·intro n o s' q;rw [t] at q;obtain ⟨v,w,x,y,rfl⟩:=q;simp [v,w,x,y,O,z];refine (lB l H J f lt a h0 c1 P (by omega) D).mono ?_
   rintro av ⟨C,u⟩ G ⟨d,m⟩;simp only at d m;simp;refine ⟨by unfold retH; rw [if_pos (by omega)]; exact d,fun k b=>?_⟩
   unfold retH; split
   ·exact m k b
   ·rfl
 refine K.mono ?_;rintro av ⟨C,u⟩ G ⟨d,m⟩;simp only at d m;simp;refine ⟨by unfold retH; rw [if_pos (by omega)]; exact d,fun k b=>?_⟩
 unfold retH; split
 ·exact m k b
 ·rfl
def gz (x n:Int):Int:=if n<1 then 0 else if x.tmod n<0 then x.tmod n+n else x.tmod n
theorem jU (x n:Int):0<=gz x n/\(1<=n->gz x n<n)/\(n<1->gz x n=0):=by
 unfold gz;by_cases h:n<1
 ·simp [h]; omega
 ·have h1:0<n:=by omega
  have b:=Eu x h1;have d:-n<x.tmod n:=by
   have:=Eu (-x) h1;rw [Int.neg_tmod] at this;omega
  rw [if_neg h];split
  ·exact ⟨by omega,fun _=>by omega,fun a=>absurd a h⟩
  ·exact ⟨by omega,fun _=>by omega,fun a=>absurd a h⟩
theorem oR (x n:Int) (f:n<9223372036854775808):aG Pg 146 [.int x,.int n] (.int (gz x n)):=by
 intro s;refine Fn146.calls .frz ?_;unfold Fn146.ac;by_cases h:n<1
 ·simp [h,gz]
 have b:n≠0:=by omega
 have k:=jU x n;by_cases a:x.tmod n<0
 ·have d:gz x n=x.tmod n+n:=by simp [gz,h,a]
  have e:IntKind.i64.wrap (x.tmod n+n)=x.tmod n+n:=ah (by omega) (by omega)
  simp [h,b,a,e,d]
 ·simp [h,b,a,gz]
def SM (h:Heap) (g:Nat) (L:List Int) (a:Int):Prop:=h g=some (.row 2 [[row (an L),.int a]] .live none)
def SMI (h0:Heap) (g:Nat) (L:List Int) (a K:Int) (h:Heap):Prop:=∃ b,a<=b/\b<=a+K/\SM h g L b/\∀ d,d≠g->h d=h0 d
theorem dg (L:List Int) (a n:Int) (g:Nat) (h0:Heap) (c0:Nat) (m:n<9223372036854775808) (p:SM h0 g L a) (t:0<=a) (K:a<1000000000) (J:L.length<=1048576) (v:g<c0) :
  ACalls Pg 57 [.ptr g 0 0,.int n] ⟨h0,c0⟩ fun av s'=>(∃ k,av=.int k/\0<=k/\(1<=n->k<n)/\(n<1->k=0))/\SMI h0 g L a 1 s'.h:=by
 refine Fn57.calls .frz ?_;unfold Fn57.ac;have C:=q0 (x:=a+1)
 have Q:=q0 (x:=a+1-1)
 unfold SM at p;simp [p,C];obtain ⟨h1,b⟩:∃ h1,h1=upd h0 g (some (.row 2 [[row (an L),.int (a+1)]] .live none)):=⟨_,rfl⟩;have f:h1 g=some (.row 2 [[row (an L),.int (a+1)]] .live none):=by rw [b,ae]
 have q:SMI h0 g L a 1 h1:=⟨a+1,by omega,by omega,f,fun k x=>by rw [b,ad x]⟩
 have o:retH c0 h0 h1=h1:=by rw [b,kX v,nI]
 rw [<-b];by_cases d:L=[]
 ·subst d;simp [an,f];refine ACalls.pure (oR _ n m) fun c1 u=>?_;have e:=jU (IntKind.i64.wrap ((a+1)*7919)) n;simp [o];exact ⟨e,q⟩
 have O:=r6.2 d;have y:(L.length:Int)≠0:=by omega
 have z:0<=a.tmod L.length:=Int.tmod_nonneg _ t;have P:a.tmod L.length<L.length:=Eu _ (by omega)
 have w:(a.tmod L.length).toNat<L.length:=by omega
 have D:IntKind.i64.wrap a=a:=ah (by omega) (by omega)
 simp [an,f,d,D,y,z,w];refine ACalls.pure (oR _ _ (by omega)) fun c1 u=>?_
 simp;refine ACalls.pure (oR _ n m) fun H M=>?_;simp [o];obtain ⟨l,G⟩:∃ l,l=IntKind.i64.wrap (gz L[(a.tmod L.length).toNat] 1073741824+IntKind.i64.wrap (IntKind.i64.wrap (a.tdiv L.length)*IntKind.i64.wrap (7919+a.tmod L.length))):=⟨_,rfl⟩;have e:=jU l n;rw [<-G];exact ⟨e,q⟩
theorem SMI.refl {h:Heap} {g:Nat} {L:List Int} {a:Int} (b:SM h g L a):SMI h g L a 0 h:=⟨a,by omega,by omega,b,fun _ _=>rfl⟩
theorem SMI.trans {h0 h1 h:Heap} {g:Nat} {L:List Int} {a a1 K b:Int} (i:SM h1 g L a1/\(∀ k,k≠g->h1 k=h0 k)/\a<=a1/\a1<=a+K) (j:SMI h1 g L a1 b h):SMI h0 g L a (K+b) h:=by
 obtain ⟨_,f,o,p⟩:=i;obtain ⟨e,q,t,l,m⟩:=j;exact ⟨e,by omega,by omega,l,fun k d=>by rw [m k d]; exact f k d⟩
theorem SMI.weak {h0 h:Heap} {g:Nat} {L:List Int} {a K b:Int} (i:SMI h0 g L a K h) (k:K<=b):SMI h0 g L a b h:=by
 obtain ⟨d,e,l,f⟩:=i;exact ⟨d,e,by omega,f⟩
theorem SMI.ret {h0 h:Heap} {c0 g:Nat} {L:List Int} {a K:Int} (d:g<c0) (i:∃ b,a<=b/\b<=a+K/\SM h g L b/\∀ k,k<c0->k≠g->h k=h0 k):SMI h0 g L a K (retH c0 h0 h):=by
 obtain ⟨b,f,l,m,o⟩:=i;refine ⟨b,f,l,?_,fun k e=>?_⟩
 ·unfold SM retH; rw [if_pos d]; exact m
 ·unfold retH; split
  ·exact o k ‹_› e
  ·rfl
theorem nT (L:List Int) (a b d:Int) (g:Nat) (h0:Heap) (c0:Nat) (Q:-2000000000000<=b) (R:b<=2000000000000) (K:d<=2000000000000) (l:SM h0 g L a) (p:0<=a) (q:a<1000000000) (o:L.length<=1048576) (f:g<c0) :
  ACalls Pg 78 [.ptr g 0 0,.int b,.int d] ⟨h0,c0⟩ fun av s'=>(∃ k,av=.int k/\b<=k/\(b<=d->k<=d)/\(d<b->k=b))/\SMI h0 g L a 1 s'.h:=by
 refine Fn78.calls .frz ?_;unfold Fn78.ac;by_cases h1:d<b
 ·simp [h1];exact (SMI.refl l).weak (by omega)
 have v:=q0 (x:=d-b)
 have w:=q0 (x:=d-b+1)
 simp [h1,v,w];refine (dg L a (d-b+1) g h0 c0 (by omega) l p q o f).mono ?_
 rintro av ⟨H,G⟩ J ⟨⟨k,rfl,M,u,P⟩,e⟩;simp only at e;have O:=u (by omega)
 have x:=q0 (x:=b+k)
 obtain ⟨m,y,z,C,D⟩:=e;simp [x];exact ⟨⟨by omega,fun _=>by omega⟩,SMI.ret f ⟨m,y,z,C,fun k _ t=>D k t⟩⟩
theorem ek (L:List Int) (a n:Int) (g:Nat) (h0:Heap) (c0:Nat) (q:n<9223372036854775808) (t:SM h0 g L a) (m:0<=a) (o:a<1000000000) (l:L.length<=1048576) (e:g<c0) :
  ACalls Pg 36 [.ptr g 0 0,.int n] ⟨h0,c0⟩ fun av s'=>(∃ b,av=.bool b)/\SMI h0 g L a 1 s'.h:=by
 refine Fn36.calls .frz ?_;unfold Fn36.ac;simp;refine (dg L a n g h0 c0 q t m o l e).mono ?_;rintro av ⟨z,y⟩ C ⟨⟨f,rfl,D,G,H⟩,d⟩;simp only at d;obtain ⟨k,u,v,w,x⟩:=d;simp;exact ⟨by omega,SMI.ret e ⟨k,u,v,w,fun f _ p=>x f p⟩⟩
theorem cC (l:List Int) (L:List Int) (a:Int) (g:Nat) (h0:Heap) (c0:Nat) (K:0<l.length) (M:l.length<1000000) (v:SM h0 g L a) (m:0<=a) (o:a<1000000000) (f:L.length<=1048576) (d:g<c0) :
  ACalls Pg 9 [.ptr g 0 0,row (an l)] ⟨h0,c0⟩ fun av s'=>(∃ k,av=.int k/\k∈l)/\SMI h0 g L a 1 s'.h:=by
 refine Fn9.calls .frz ?_;unfold Fn9.ac;simp [an];refine (dg L a l.length g h0 c0 (by omega) v m o f d).mono ?_
 rintro av ⟨D,C⟩ G ⟨⟨k,rfl,q,t,J⟩,b⟩;simp only at b;have H:=t (by omega)
 have u:k.toNat<l.length:=by omega
 obtain ⟨e,w,x,y,z⟩:=b;simp [q,u];exact SMI.ret d ⟨e,w,x,y,fun k _ p=>z k p⟩
theorem eT (l:List ByteArray) (L:List Int) (a:Int) (g:Nat) (h0:Heap) (c0:Nat) (K:0<l.length) (M:l.length<1000000) (v:SM h0 g L a) (m:0<=a) (o:a<1000000000) (f:L.length<=1048576) (d:g<c0) :
  ACalls Pg 28 [.ptr g 0 0,row (ak l)] ⟨h0,c0⟩ fun av s'=>(∃ k,av=.str k/\k∈l)/\SMI h0 g L a 1 s'.h:=by
 refine Fn28.calls .frz ?_;unfold Fn28.ac;simp [ak];refine (dg L a l.length g h0 c0 (by omega) v m o f d).mono ?_
 rintro av ⟨D,C⟩ G ⟨⟨k,rfl,q,t,J⟩,b⟩;simp only at b;have H:=t (by omega)
 have u:k.toNat<l.length:=by omega
 obtain ⟨e,w,x,y,z⟩:=b;simp [q,u];exact SMI.ret d ⟨e,w,x,y,fun k _ p=>z k p⟩
theorem oQ (L:List Int) (a e d:Int) (g:Nat) (h0:Heap) (c0:Nat) (ab:-1000000000000<=e) (ag:e<=1000000000000) (Y:-1000000000000<=d) (W:d<=1000000000000) (P:SM h0 g L a) (K:0<=a) (U:a<900000000) (m:L.length<=1048576) (p:g<c0) :
  ACalls Pg 144 [.ptr g 0 0,.int e,.int d] ⟨h0,c0⟩ fun av s'=>(∃ k,av=.int k)/\SMI h0 g L a 2 s'.h:=by
 refine Fn144.calls .frz ?_;unfold Fn144.ac;simp;refine (ek L a 12 g h0 c0 (by omega) P K (by omega) m p).mono ?_
 rintro av ⟨y,x⟩ M ⟨⟨G,rfl⟩,b⟩;simp only at b M;obtain ⟨w,z,C,f,D⟩:=b;have Q:=q0 (x:=e-1)
 have R:=q0 (x:=d+1)
 cases G
 ·simp;refine (nT L w e d g y x (by omega) (by omega) (by omega) f (by omega) (by omega) m (by omega)).mono ?_
  rintro av ⟨J,H⟩ o ⟨⟨k,rfl,O,Z,aa⟩,b⟩;simp only at b o;have:=SMI.trans ⟨f,D,z,C⟩ b;obtain ⟨l,t,T,u,v⟩:=this;simp;exact SMI.ret p ⟨l,t,by omega,u,fun k _ q=>v k q⟩
 ·simp [bsI,az,Q,R];refine (cC [e-1,d+1,e,d,-1099511627776,1099511627776] L w g y x (by simp) (by simp) f (by omega) (by omega) m (by omega)).mono ?_
  rintro av ⟨J,H⟩ o ⟨⟨k,rfl,O⟩,b⟩;simp only at b o;have:=SMI.trans ⟨f,D,z,C⟩ b;obtain ⟨l,t,T,u,v⟩:=this;simp;exact SMI.ret p ⟨l,t,by omega,u,fun k _ q=>v k q⟩
def dc (l:List Wb.Term):List (List AV):=l.map Term.cells
theorem rF (l:List Wb.Term):∀ e∈dc l,aF 2 e=true:=fun e a=>by
 obtain ⟨b,_,rfl⟩:=rf.1 a; rfl
def sM (c0:Nat) (x:AV) (l:List Wb.Term) (h:Heap) (c:Nat):Prop:=(∃ a,x=.sl [] a/\l=[])\/∃ g,c0<=g/\g<c/\x=.row g 2 0 l.length/\h g=some (.row 2 (dc l) .live none)
theorem iD (l:List Wb.Term) (h0:Heap) (c0:Nat):ACalls Pg 158 [row (l.map Term.cells)] ⟨h0,c0⟩ fun av s'=>Fr c0 h0 s'.h s'.c/\sM c0 av l s'.h s'.c:=by
 refine ACalls.small fun e=>?_;have d:l.length<=68719476736:=by simpa using e.1.1
 refine Fn158.calls .keep ?_;unfold Fn158.ac;simp;refine lL (fun h=>?_) ?_
 ·have b:l=[]:=by simpa using h
  simp [b,sM];exact Fr.refl _ _
 ·simp [bsI,az];have a:=dr (sz:=2) (bytes:=24) (md:=.plain) (es:=[]) (xs:=l.map Term.cells) (b:=false) (s:=⟨h0,c0⟩) (by decide) (by decide) (by decide) (by simp) (rF l) (by simpa using d) (.inr rfl)
  simp at a;simp [a,sM];exact ⟨(Fr.refl h0 c0).upd (q5 _) (rv _),c0,q5 _,q7 _,rfl,by simp [dc]⟩
theorem xw (t:Wb.Term) (s:St):ACalls Pg 159 [.agg t.cells] s fun av s'=>av=.bool (decide (t.coef=0))/\s'.h=s.h:=by
 refine Fn159.calls .frz ?_;unfold Fn159.ac;simp [Term.cells]
theorem jG (l:List Wb.Term) (O:l.length<=12) (G:∀ t∈l,t.coef≠0) (w:Nat) (x:AV) (h0:Heap) (c0:Nat) (u:sM w x l h0 c0) :
  ACalls Pg 157 [x,.fn (.func 159) [] []] ⟨h0,c0⟩ fun av s'=>av=x/\s'.h=h0:=by
 have q:ACalls Pg 163 [norm x,.fn (.func 159) [] []] ⟨h0,c0⟩ fun av s'=>av=.int (-1)/\s'.h=h0:=by
  refine Fn163.calls .frz ?_;unfold Fn163.ac;rcases u with ⟨v,rfl,rfl⟩ | ⟨g,y,z,rfl,p⟩
  ·simp;refine bM 8 Fn163.W0 ([]:List Wb.Term) (fun i r M=>True) (by rfl) (by rfl) ?_ ?_ ?_
   ·simp
   ·intro e c a m k;simp at a;simp [a]
   ·intro i b ys e c d; simp at d
  ·simp;refine bM 8 Fn163.W0 l (fun i r M=>True) (by rfl) (by rfl) ?_ ?_ ?_
   ·simp
   ·intro e c a m k;simp [a]
   ·intro i b ys e c d J D a m k;have H:=q0 (x:=(i:Int)+1)
    have C:(dc l)[i]?=some [.str b.name,.int b.coef]:=by simp [dc,d,J,Term.cells]
    have K:=G b (aU D);simp [a,d,p,C];refine ACalls.at (xw b ⟨h0,c⟩) fun f o=>?_;simp [K,a,H];omega
 refine Fn157.calls .keep ?_;unfold Fn157.ac;rcases u with ⟨v,rfl,rfl⟩ | ⟨g,y,z,rfl,p⟩
 ·simp;refine ACalls.at q fun f o=>?_;simp
 ·simp;refine ACalls.at q fun f o=>?_;simp
def tlt (x y:List AV):Bool:=match x,y with
 | .sc (.string a)::_,.sc (.string b)::_=>decide (Lib.compareBytes (bs a) (bs b)<0)
 | _,_=>false
theorem xy (x y:Wb.Term) (s:St):ACalls Pg 161 [.agg x.cells,.agg y.cells] s fun av s'=>av=.int (Lib.compareBytes (bs x.name) (bs y.name))/\s'.h=s.h:=by
 refine Fn161.calls .frz ?_;unfold Fn161.ac;have a:¬s.c=s.c+1:=by omega
 simp [Term.cells,a];refine ACalls.pure (zV _ _) fun c1 b=>?_;simp
theorem wO (l:List Wb.Term):wS 161 tlt (dc l):=by
 intro m e o f h c;obtain ⟨b,_,rfl⟩:=rf.1 e;obtain ⟨d,_,rfl⟩:=rf.1 f;refine (xy b d ⟨h,c⟩).mono fun r k _ a=>?_;exact ⟨⟨_,a.1,rfl⟩,a.2⟩
theorem qm:∀ (m:List (List AV)) (l:List Wb.Term),(∀ e∈m,e∈dc l)->∃ l',m=dc l'
 | [],l,_=>⟨[],rfl⟩
 | e::m,l,h=>by
  obtain ⟨l',a⟩:=qm m l fun k d=>h k (r3 _ d);obtain ⟨f,_,b⟩:=rf.1 (h e (r4));exact ⟨f::l',by rw [a,<-b]; rfl⟩
theorem og (b:Bool) (f:Nat) (s:St):ACalls Pg 160 [.sl [] b,.fn (.func f) [] []] s fun av s'=>s'.h=s.h:=by
 have z:IntKind.i64.wrap 1=1:=by decide
 have y:IntKind.i64.wrap 0=0:=by decide
 have x:IntKind.u64.wrap 0=0:=by decide
 have u:∀ s:St,ACalls Pg 294 [.sl [] false,.int 0,.int 0,.fn (.func f) [] []] s fun av s'=>s'.h=s.h:=fun s=>by
  refine Fn294.calls .frz ?_;unfold Fn294.ac;simp [z];refine lU (fun n a s'=>a 2=.int 0/\a 8=.int 1/\s'.h=s.h) 0 ?_ ?_
  ·simp
  ·rintro n a s' ⟨e,q,d⟩;simp [e,q,d]
 obtain ⟨C,v⟩:=su 0 (by decide)
 refine Fn160.calls .frz ?_;unfold Fn160.ac;simp [x];refine ACalls.pure v fun c1 D=>?_;simp;have w:∀ s:St,ACalls Pg 231 [.sl [] false,.int 0,.int 0,.int C,.fn (.func f) [] []] s fun av s'=>s'.h=s.h:=fun s=>by
  refine Fn231.calls .frz ?_;unfold Fn231.ac;simp;refine lU (fun n a s'=>a 0=.sl [] false/\a 1=.int 0/\a 2=.int 0/\a 4=.fn (.func f) [] []/\s'=s) 0 ?_ ?_
  ·simp
  ·rintro n a s' ⟨l,m,o,p,rfl⟩;simp [l,m,o,p,y];refine (u _).mono ?_;rintro av ⟨e,k⟩ t d;simp only at d;simp [d]
 refine (w _).mono ?_;rintro av ⟨e,k⟩ t d;simp only at d;simp [d]
theorem bI (n:Int) (l:List Wb.Term) (R:l.length<=12) (U:∀ t∈l,t.coef≠0) (s:St) :
  ACalls Pg 76 [.int n,row (l.map Term.cells)] s fun av s'=>(∃ f:Wb.Form,av=f.av)/\s'.h=s.h:=by
 obtain ⟨h0,c0⟩:=s;refine Fn76.calls .frz ?_;unfold Fn76.ac;simp;refine (iD l _ _).mono ?_;rintro C ⟨h1,c1⟩ K ⟨a,k⟩;simp only at a k K;have W:sM (c0+1) (norm C) l h1 c1:=by
  rcases k with ⟨D,rfl,rfl⟩ | ⟨g,y,z,rfl,m⟩
  ·exact .inl ⟨false,rfl,rfl⟩
  ·exact .inr ⟨g,y,z,rfl,m⟩
 simp;refine ACalls.at (jG l R U (c0+1) (norm C) h1 c1 W) fun o Y=>?_;have q:h1 c0=some (.row 2 [[.int 0,.sl [] true]] .live none):=by rw [a.h c0 (by omega)]; simp
 rcases k with ⟨D,rfl,rfl⟩ | ⟨g,y,z,rfl,m⟩
 ·simp;refine (og false _ ⟨h1,o⟩).mono ?_;rintro av ⟨p,G⟩ u v;simp only at v;subst v;simp [aH,q];refine ⟨⟨⟨n,[]⟩,rfl⟩,?_⟩;exact aA fun b Q=>by rw [a.h b (by omega),qv]
 ·simp;have:=oZ (dc l) (by simp [dc]; omega) (rF l) 161 tlt g h1 o m (by omega) (wO l)
  rw [show (dc l).length=l.length by simp [dc]] at this
  refine this.mono ?_;rintro av ⟨p,G⟩ u ⟨e,d⟩;simp only at e d u;obtain ⟨x,w⟩:=qm (n8 tlt (dc l)) l fun H O=>mh tlt _ _ H O;have T:x.length=l.length:=by
   have h1:(n8 tlt (dc l)).length=(dc l).length:=mg tlt _ _;rw [w] at h1; simpa [dc] using h1
  have J:p c0=some (.row 2 [[.int 0,.sl [] true]] .live none):=by rw [d c0 (by omega)]; exact q
  have P:¬g=c0:=by omega
  have M:¬c0=g:=by omega
  rw [w] at e;simp [aH,J,e,P,M,T,dc];refine ⟨⟨⟨n,x⟩,?_⟩,?_⟩
  ·rw [q8 (by simp; omega),oI]; rfl
  ·exact aA fun b Q=>by rw [qv,qv,d b (by omega),a.h b (by omega),qv]
theorem _root_.Go.AM.ACalls.draw {P:Program} {f:FuncId} {args:List AV} {R:AV->Prop} {g:Nat} {L:List Int} {a e:Int} {h:Heap} {c:Nat} {K:AV->St->Prop} (o:ACalls P f args ⟨h,c⟩ fun av s'=>R av/\SMI h g L a e s'.h)
  (m:∀ v h' c' b,R v->c<=c'->a<=b->b<=a+e->SM h' g L b->(∀ k,k≠g->h' k=h k)->K v ⟨h',c'⟩):ACalls P f args ⟨h,c⟩ K:=by
 refine o.mono fun av s' l d=>?_;obtain ⟨d,b,p,q,t,u⟩:=d;exact m av s'.h s'.c b d l p q t u
theorem iJ (l:List ByteArray) (cp:l.length<=100) (L:List Int) (a:Int) (g:Nat) (h0:Heap) (c0:Nat) (a5:SM h0 g L a) (a1:0<=a) (b7:a<900000000) (T:L.length<=1048576) (bj:g<c0) :
  ACalls Pg 199 [.ptr g 0 0,row (ak l)] ⟨h0,c0⟩ fun av s'=>(∃ f:Wb.Form,av=f.av)/\SMI h0 g L a 4 s'.h:=by
 refine Fn199.calls .frz ?_;unfold Fn199.ac;have a3:¬g=c0:=by omega
 have U:¬c0=g:=by omega
 have t:∀ {h:Heap} {c:Nat} {ab:Int} (f:Wb.Form),(∀ b,b≠g->b<c0->h b=h0 b)->SM h g L ab->a<=ab->ab<=a+4->True/\SMI h0 g L a 4 (retH c0 h0 h):=
  fun f bi bN Z a0=>⟨trivial,SMI.ret bj ⟨_,Z,a0,bN,fun b d bo=>bi b bo d⟩⟩
 simp;by_cases a4:l=[]
 ·subst a4;simp [ak];refine ACalls.draw (R:=fun D=>∃ b,D=.int b/\0<=b/\(0<=(5:Int)->b<=5)/\((5:Int)<0->b=0)) (nT L a 0 5 g _ _ (by omega) (by omega) (by omega) (by unfold SM; rw [ad a3]; exact a5) a1 (by omega) T (by omega)) fun D h1 c1 ag u b8 Z a0 aa m=>?_
  obtain ⟨b,rfl,_⟩:=u;simp;refine (bI b [] (by simp) (by simp) ⟨h1,c1⟩).mono ?_
  rintro av ⟨am,ai⟩ bc ⟨⟨f,rfl⟩,e⟩;simp only at e;subst e;have o:am c0=some (.row 2 [[.int 0,.sl [] true]] .live none):=by rw [m c0 U]; simp
  simp [Form.av,Form.cells,o];have:=t (c:=ai) f (fun b d q=>by rw [m b d,qv]) aa Z (by omega)
  exact ⟨⟨f,rfl,rfl⟩,this.2⟩
 ·have cq:=r6.2 a4;have cn:¬(l.length:Int)=0:=by omega
  have Y:(ak l).length=l.length:=by simp [ak]
  have bW:¬ak l=[]:=fun a'=>by rw [a'] at Y; simp at Y; omega
  simp [bW];refine ACalls.draw (ek L a 8 g _ _ (by omega) (by unfold SM; rw [ad a3]; exact a5) a1 (by omega) T (by omega)) fun D h1 c1 ag u b9 Z a0 aa m=>?_
  obtain ⟨a8,rfl⟩:=u;have a2:h1 c0=some (.row 2 [[.int 0,.sl [] true]] .live none):=by rw [m c0 U]; simp
  cases a8
  case true=>
   simp;refine ACalls.draw (R:=fun D=>∃ b,D=.int b/\0<=b/\(0<=(5:Int)->b<=5)/\((5:Int)<0->b=0)) (nT L ag 0 5 g h1 c1 (by omega) (by omega) (by omega) aa (by omega) (by omega) T (by omega)) fun D am ai b5 u bc b2 b3 ax p=>?_
   obtain ⟨b,rfl,_⟩:=u;simp;refine (bI b [] (by simp) (by simp) ⟨am,ai⟩).mono ?_
   rintro av ⟨ao,al⟩ bf ⟨⟨f,rfl⟩,e⟩;simp only at e;subst e;have o:ao c0=some (.row 2 [[.int 0,.sl [] true]] .live none):=by rw [p c0 U]; exact a2
   simp [Form.av,Form.cells,o];exact ⟨⟨f,rfl,rfl⟩,(t (c:=al) f (fun b d q=>by rw [p b d,m b d,qv]) ax (by omega) (by omega)).2⟩
  simp [Y];refine ACalls.draw (dg L ag l.length g h1 c1 (by omega) aa (by omega) (by omega) T (by omega)) fun D ao al a6 u bf b2 b3 ax p=>?_
  obtain ⟨ap,rfl,bk,q,_⟩:=u;have cb:=q (by omega)
  have bt:ap.toNat<l.length:=by omega
  obtain ⟨G,b0⟩:∃ G,(ak l)[ap.toNat]?=some [.str G]:=⟨l[ap.toNat],by simp [ak,bt]⟩
  simp [bk,b0,Y];refine ACalls.draw (dg L a6 l.length g ao al (by omega) ax (by omega) (by omega) T (by omega)) fun D bb a9 a7 u b' cs cx b4 w=>?_
  obtain ⟨ar,rfl,bl,bm,_⟩:=u;have cc:=bm (by omega)
  have bx:ar.toNat<l.length:=by omega
  obtain ⟨M,b1⟩:∃ M,(ak l)[ar.toNat]?=some [.str M]:=⟨l[ar.toNat],by simp [ak,bx]⟩
  simp [bl,b1];refine ACalls.draw (dg L a7 7 g bb a9 (by omega) b4 (by omega) (by omega) T (by omega)) fun D v y b6 u ca c2 c3 C x=>?_
  obtain ⟨Q,rfl,ch,cl,_⟩:=u;have o:v c0=some (.row 2 [[.int 0,.sl [] true]] .live none):=by rw [x c0 U,w c0 U,p c0 U]; exact a2
  by_cases z:Q=0
  ·simp [z,bsI,az,aH];refine (bI 1 [⟨G,1⟩] (by simp) (by simp) ⟨v,y⟩).mono ?_
   rintro av ⟨J,k⟩ K ⟨⟨f,rfl⟩,e⟩;simp only at e;subst e;simp [Form.av,Form.cells,o];exact ⟨⟨f,rfl,rfl⟩,(t (c:=k) f (fun b d q=>by rw [x b d,w b d,p b d,m b d,qv]) C (by omega) (by omega)).2⟩
  by_cases H:Q=1
  ·simp [z,H,bsI,az,aH];refine (bI 2 [⟨G,2⟩] (by simp) (by simp) ⟨v,y⟩).mono ?_
   rintro av ⟨J,k⟩ K ⟨⟨f,rfl⟩,e⟩;simp only at e;subst e;simp [Form.av,Form.cells,o];exact ⟨⟨f,rfl,rfl⟩,(t (c:=k) f (fun b d q=>by rw [x b d,w b d,p b d,m b d,qv]) C (by omega) (by omega)).2⟩
  by_cases O:Q=2
  ·simp [z,H,O,bsI,az,aH];refine (bI 4 [⟨G,-1⟩] (by simp) (by simp) ⟨v,y⟩).mono ?_
   rintro av ⟨J,k⟩ K ⟨⟨f,rfl⟩,e⟩;simp only at e;subst e;simp [Form.av,Form.cells,o];exact ⟨⟨f,rfl,rfl⟩,(t (c:=k) f (fun b d q=>by rw [x b d,w b d,p b d,m b d,qv]) C (by omega) (by omega)).2⟩
  by_cases R:G=M
  ·by_cases P:Q=3
   ·simp [z,H,O,P,R,bsI,az,aH];refine (bI 0 [⟨M,1⟩] (by simp) (by simp) ⟨v,y⟩).mono ?_
    rintro av ⟨J,k⟩ K ⟨⟨f,rfl⟩,e⟩;simp only at e;subst e;simp [Form.av,Form.cells,o];exact ⟨⟨f,rfl,rfl⟩,(t (c:=k) f (fun b d q=>by rw [x b d,w b d,p b d,m b d,qv]) C (by omega) (by omega)).2⟩
   by_cases W:Q=4
   ·simp [z,H,O,P,W,R,bsI,az,aH];refine (bI 0 [⟨M,1⟩] (by simp) (by simp) ⟨v,y⟩).mono ?_
    rintro av ⟨J,k⟩ K ⟨⟨f,rfl⟩,e⟩;simp only at e;subst e;simp [Form.av,Form.cells,o];exact ⟨⟨f,rfl,rfl⟩,(t (c:=k) f (fun b d q=>by rw [x b d,w b d,p b d,m b d,qv]) C (by omega) (by omega)).2⟩
   simp [z,H,O,P,W,R,bsI,az,aH];refine (bI 0 [⟨M,1⟩] (by simp) (by simp) ⟨v,y⟩).mono ?_
   rintro av ⟨J,k⟩ K ⟨⟨f,rfl⟩,e⟩;simp only at e;subst e;simp [Form.av,Form.cells,o];exact ⟨⟨f,rfl,rfl⟩,(t (c:=k) f (fun b d q=>by rw [x b d,w b d,p b d,m b d,qv]) C (by omega) (by omega)).2⟩
  by_cases P:Q=3
  ·simp [z,H,O,P,R,bsI,az,aH];refine (bI 0 [⟨G,1⟩,⟨M,1⟩] (by simp) (by simp) ⟨v,y⟩).mono ?_
   rintro av ⟨J,k⟩ K ⟨⟨f,rfl⟩,e⟩;simp only at e;subst e;simp [Form.av,Form.cells,o];exact ⟨⟨f,rfl,rfl⟩,(t (c:=k) f (fun b d q=>by rw [x b d,w b d,p b d,m b d,qv]) C (by omega) (by omega)).2⟩
  by_cases W:Q=4
  ·simp [z,H,O,P,W,R,bsI,az,aH];refine (bI 4 [⟨G,1⟩,⟨M,-1⟩] (by simp) (by simp) ⟨v,y⟩).mono ?_
   rintro av ⟨J,k⟩ K ⟨⟨f,rfl⟩,e⟩;simp only at e;subst e;simp [Form.av,Form.cells,o];exact ⟨⟨f,rfl,rfl⟩,(t (c:=k) f (fun b d q=>by rw [x b d,w b d,p b d,m b d,qv]) C (by omega) (by omega)).2⟩
  simp [z,H,O,P,W,R,bsI,az,aH];refine (bI 0 [⟨G,1⟩] (by simp) (by simp) ⟨v,y⟩).mono ?_
  rintro av ⟨J,k⟩ K ⟨⟨f,rfl⟩,e⟩;simp only at e;subst e;simp [Form.av,Form.cells,o];exact ⟨⟨f,rfl,rfl⟩,(t (c:=k) f (fun b d q=>by rw [x b d,w b d,p b d,m b d,qv]) C (by omega) (by omega)).2⟩
theorem SMI.fin {h0 h:Heap} {c0 g:Nat} {L:List Int} {a b K:Int} (e:g<c0) (d:∀ k,k≠g->k<c0->h k=h0 k) (m:SM h g L b) (o:a<=b) (p:b<=a+K):SMI h0 g L a K (retH c0 h0 h):=
 SMI.ret e ⟨_,o,p,m,fun k f l=>d k l f⟩
theorem lP (m:List ByteArray) (z:m.length<=100) (L:List Int) (a:Int) (g:Nat) (h0:Heap) (c0:Nat) (Y:SM h0 g L a) (U:0<=a) (ag:a<800000000) (l:L.length<=1048576) (x:g<c0) :
  ACalls Pg 141 [.ptr g 0 0,row (ak m)] ⟨h0,c0⟩ fun av s'=>(∃ (key:ByteArray) (R:List Wb.Form),av=.tup [.str key,row (R.map Form.cells)])/\SMI h0 g L a 9 s'.h:=by
 refine Fn141.calls .frz ?_;unfold Fn141.ac;simp;refine ACalls.draw (dg L a 5 g h0 c0 (by omega) Y U (by omega) l (by omega)) fun f h1 c1 u e ai am ao C D=>?_
 obtain ⟨K,rfl,al,y,_⟩:=e;by_cases w:K=0
 ·simp [w];refine ACalls.draw (iJ m z L u g h1 c1 C (by omega) (by omega) l (by omega)) fun f t q v e H M O o p=>?_
  obtain ⟨k,rfl⟩:=e;simp;refine ACalls.draw (iJ m z L v g t q o (by omega) (by omega) l (by omega)) fun f T P ab e W ap ar Z aa=>?_
  obtain ⟨Q,rfl⟩:=e;simp [bsI,az,Form.av,Form.cells];exact ⟨⟨[k,Q],rfl⟩,SMI.fin x (fun b d y=>by rw [aa b d,p b d,D b d]) Z (by omega) (by omega)⟩
 by_cases G:K=1
 ·simp [w,G,bsI,az];refine ACalls.draw (R:=fun f=>∃ b,f=.int b/\b∈[0,0,0,1]) (cC [0,0,0,1] L u g h1 c1 (by simp) (by simp) C (by omega) (by omega) l (by omega)) fun f t q v e H M O o p=>?_
  obtain ⟨b,rfl,_⟩:=e;simp;refine (bI b [] (by simp) (by simp) ⟨t,q⟩).mono ?_
  rintro av ⟨T,P⟩ W ⟨⟨k,rfl⟩,J⟩;simp only at J;subst J;simp [bsI,az,Form.av,Form.cells];exact ⟨⟨[k],rfl⟩,SMI.fin x (fun b d y=>by rw [p b d,D b d]) o (by omega) (by omega)⟩
 simp [w,G];refine ACalls.draw (iJ m z L u g h1 c1 C (by omega) (by omega) l (by omega)) fun f t q v e H M O o p=>?_
 obtain ⟨k,rfl⟩:=e;simp [bsI,az,Form.av,Form.cells];exact ⟨⟨[k],rfl⟩,SMI.fin x (fun b d y=>by rw [p b d,D b d]) o (by omega) (by omega)⟩
theorem eK (f:Wb.Form) (a:Int):aG Pg 139 [f.av,.int a] (Wb.Bound.mk f a).av:=by
 rintro ⟨h0,c0⟩;refine Fn139.calls .frz ?_;unfold Fn139.ac;have b:¬c0=c0+1:=by omega
 simp [Form.av,Form.cells,Bound.av,Bound.cells,aH,b]
def gH:Nat->Int
 | 0=>11
 | n+1=>2+2*gH n+11
theorem qT:∀ n,11<=gH n
 | 0=>by simp [gH]
 | n+1=>by have:=qT n; simp [gH]; omega
theorem xl (Q:List ByteArray) (U:Q.length<=100) (L:List Int) (u:L.length<=1048576) (g:Nat):∀ (n:Nat) (G:Int) (a:Int) (h0:Heap) (c0:Nat),G<=n+1 -> -10<=G->n<=10->SM h0 g L a->0<=a->a+gH n<800000000->g<c0 ->
  ACalls Pg 143 [.ptr g 0 0,row (ak Q),.int G] ⟨h0,c0⟩ fun av s'=>(∃ e:Wb.Expr,av=e.av)/\SMI h0 g L a (gH n) s'.h:=by
 intro n
 induction n with
 | zero=>
  intro G a h0 c0 bx bN b0 ai ao bo C;have ag:¬g=c0:=by omega
  have p:¬c0=g:=by omega
  have cl:gH 0=11:=rfl;refine Fn143.calls .frz ?_;unfold Fn143.ac;have ab:G<2:=by omega
  simp [ab];refine ACalls.draw (dg L a 5 g _ _ (by omega) (by unfold SM; rw [ad ag]; exact ai) (by omega) (by omega) u (by omega)) fun l t x w f ar a7 a8 D v=>?_
  obtain ⟨P,rfl,ax,a0,_⟩:=f;have z:t c0=some (.row 7 [[.int 0,.int 0,.int 0,.sl [] true,.str ⟨#[]⟩,.sl [] true,.sl [] true]] .live none):=by rw [v c0 p]; simp
  by_cases y:P=0
  ·simp [y,bsI,az];refine ACalls.draw (R:=fun l=>∃ b,l=.int b/\b∈[0,1,2,5,1000002]) (cC [0,1,2,5,1000002] L w g t x (by simp) (by simp) D (by omega) (by omega) u (by omega)) fun l m M K f O R T q k=>?_
   obtain ⟨b,rfl,_⟩:=f;have o:m c0=some (.row 7 [[.int 0,.int 0,.int 0,.sl [] true,.str ⟨#[]⟩,.sl [] true,.sl [] true]] .live none):=by rw [k c0 p]; exact z
   simp [aH,o];exact ⟨⟨.mk 1 b ⟨0,[]⟩ ⟨#[]⟩ [] [],by simp [Expr.av_mk]⟩,SMI.fin C (fun b d J=>by rw [k b d,v b d]; rw [qv]) q (by omega) (by omega)⟩
  by_cases H:P=1
  ·simp [y,H];refine ACalls.draw (iJ Q U L w g t x D (by omega) (by omega) u (by omega)) fun l m M K f O R T q k=>?_
   obtain ⟨W,rfl⟩:=f;have o:m c0=some (.row 7 [[.int 0,.int 0,.int 0,.sl [] true,.str ⟨#[]⟩,.sl [] true,.sl [] true]] .live none):=by rw [k c0 p]; exact z
   simp [Form.av,Form.cells,aH,o];exact ⟨⟨.mk 2 0 W ⟨#[]⟩ [] [],by simp [Expr.av_mk]⟩,SMI.fin C (fun b d J=>by rw [k b d,v b d]; rw [qv]) q (by omega) (by omega)⟩
  simp [y,H];refine ACalls.draw (lP Q U L w g t x D (by omega) (by omega) u (by omega)) fun l m M K f O R T q k=>?_
  obtain ⟨Z,Y,rfl⟩:=f;have o:m c0=some (.row 7 [[.int 0,.int 0,.int 0,.sl [] true,.str ⟨#[]⟩,.sl [] true,.sl [] true]] .live none):=by rw [k c0 p]; exact z
  simp [aH,o];exact ⟨⟨.mk 3 0 ⟨0,[]⟩ Z Y [],by simp [Expr.av_mk]⟩,SMI.fin C (fun b d J=>by rw [k b d,v b d]; rw [qv]) q (by omega) (by omega)⟩
 | succ n a2=>
  intro G a h0 c0 bx bN b0 ai ao bo C;have ag:¬g=c0:=by omega
  have p:¬c0=g:=by omega
  have c2:=qT n;have cn:gH (n+1)=2+2*gH n+11:=rfl;refine Fn143.calls .frz ?_;unfold Fn143.ac;by_cases ab:G<2
  ·simp [ab];refine ACalls.draw (dg L a 5 g _ _ (by omega) (by unfold SM; rw [ad ag]; exact ai) (by omega) (by omega) u (by omega)) fun l t x w f ar a7 a8 D v=>?_
   obtain ⟨P,rfl,ax,a0,_⟩:=f;have z:t c0=some (.row 7 [[.int 0,.int 0,.int 0,.sl [] true,.str ⟨#[]⟩,.sl [] true,.sl [] true]] .live none):=by rw [v c0 p]; simp
   by_cases y:P=0
   ·simp [y,bsI,az];refine ACalls.draw (R:=fun l=>∃ b,l=.int b/\b∈[0,1,2,5,1000002]) (cC [0,1,2,5,1000002] L w g t x (by simp) (by simp) D (by omega) (by omega) u (by omega)) fun l m M K f O R T q k=>?_
    obtain ⟨b,rfl,_⟩:=f;have o:m c0=some (.row 7 [[.int 0,.int 0,.int 0,.sl [] true,.str ⟨#[]⟩,.sl [] true,.sl [] true]] .live none):=by rw [k c0 p]; exact z
    simp [aH,o];exact ⟨⟨.mk 1 b ⟨0,[]⟩ ⟨#[]⟩ [] [],by simp [Expr.av_mk]⟩,SMI.fin C (fun b d J=>by rw [k b d,v b d]; rw [qv]) q (by omega) (by omega)⟩
   by_cases H:P=1
   ·simp [y,H];refine ACalls.draw (iJ Q U L w g t x D (by omega) (by omega) u (by omega)) fun l m M K f O R T q k=>?_
    obtain ⟨W,rfl⟩:=f;have o:m c0=some (.row 7 [[.int 0,.int 0,.int 0,.sl [] true,.str ⟨#[]⟩,.sl [] true,.sl [] true]] .live none):=by rw [k c0 p]; exact z
    simp [Form.av,Form.cells,aH,o];exact ⟨⟨.mk 2 0 W ⟨#[]⟩ [] [],by simp [Expr.av_mk]⟩,SMI.fin C (fun b d J=>by rw [k b d,v b d]; rw [qv]) q (by omega) (by omega)⟩
   simp [y,H];refine ACalls.draw (lP Q U L w g t x D (by omega) (by omega) u (by omega)) fun l m M K f O R T q k=>?_
   obtain ⟨Z,Y,rfl⟩:=f;have o:m c0=some (.row 7 [[.int 0,.int 0,.int 0,.sl [] true,.str ⟨#[]⟩,.sl [] true,.sl [] true]] .live none):=by rw [k c0 p]; exact z
   simp [aH,o];exact ⟨⟨.mk 3 0 ⟨0,[]⟩ Z Y [],by simp [Expr.av_mk]⟩,SMI.fin C (fun b d J=>by rw [k b d,v b d]; rw [qv]) q (by omega) (by omega)⟩
  simp [ab];refine ACalls.draw (ek L a 3 g _ _ (by omega) (by unfold SM; rw [ad ag]; exact ai) ao (by omega) u (by omega)) fun l h1 c1 al f cp c5 c6 a4 aa=>?_
  obtain ⟨bb,rfl⟩:=f;have ap:h1 c0=some (.row 7 [[.int 0,.int 0,.int 0,.sl [] true,.str ⟨#[]⟩,.sl [] true,.sl [] true]] .live none):=by rw [aa c0 p]; simp
  cases bb
  ·simp [bsI,az];refine ACalls.draw (R:=fun l=>∃ b,l=.int b/\b∈[4,4,5,6]) (cC [4,4,5,6] L al g h1 c1 (by simp) (by simp) a4 (by omega) (by omega) u (by omega)) fun l bl bc a9 f cq c3 c4 b4 a3=>?_
   obtain ⟨b,rfl,_⟩:=f;have a1:=q0 (x:=G-1)
   simp [a1];refine ACalls.draw (a2 (G-1) a9 bl bc (by omega) (by omega) (by omega) b4 (by omega) (by omega) (by omega)) fun l bm bf a' f cs c7 c8 b5 a5=>?_
   obtain ⟨H,rfl⟩:=f;simp [a1];refine ACalls.draw (a2 (G-1) a' bm bf (by omega) (by omega) (by omega) b5 (by omega) (by omega) (by omega)) fun l am ch cc f cx c9 c' b6 a6=>?_
   obtain ⟨bi,rfl⟩:=f;have bt:am c0=some (.row 7 [[.int 0,.int 0,.int 0,.sl [] true,.str ⟨#[]⟩,.sl [] true,.sl [] true]] .live none):=by rw [a6 c0 p,a5 c0 p,a3 c0 p]; exact ap
   have bW:=SMI.fin (K:=gH (n+1)) (a:=a) C (fun b d J=>by rw [a6 b d,a5 b d,a3 b d,aa b d,qv]:∀ b,b≠g->b<c0->am b=h0 b) b6 (by omega) (by simp only [gH]; omega)
   obtain ⟨b2,n1,bj,b7,b9,ca⟩:=H;obtain ⟨b3,b1,bk,b8,b',cb⟩:=bi;simp [Expr.av_mk,bsI,az,aH,bt];refine ⟨⟨.mk b 0 ⟨0,[]⟩ ⟨#[]⟩ [] [.mk b2 n1 bj b7 b9 ca,.mk b3 b1 bk b8 b' cb],?_⟩,bW⟩;simp [Expr.av_mk,Expr.cells_mk]
  ·simp;refine ACalls.draw (dg L al 5 g h1 c1 (by omega) (a4) (by omega) (by omega) u (by omega)) fun l t x w f ar a7 a8 D v=>?_
   obtain ⟨P,rfl,ax,a0,_⟩:=f;have z:t c0=some (.row 7 [[.int 0,.int 0,.int 0,.sl [] true,.str ⟨#[]⟩,.sl [] true,.sl [] true]] .live none):=by rw [v c0 p]; exact ap
   by_cases y:P=0
   ·simp [y,bsI,az];refine ACalls.draw (R:=fun l=>∃ b,l=.int b/\b∈[0,1,2,5,1000002]) (cC [0,1,2,5,1000002] L w g t x (by simp) (by simp) D (by omega) (by omega) u (by omega)) fun l m M K f O R T q k=>?_
    obtain ⟨b,rfl,_⟩:=f;have o:m c0=some (.row 7 [[.int 0,.int 0,.int 0,.sl [] true,.str ⟨#[]⟩,.sl [] true,.sl [] true]] .live none):=by rw [k c0 p]; exact z
    simp [aH,o];exact ⟨⟨.mk 1 b ⟨0,[]⟩ ⟨#[]⟩ [] [],by simp [Expr.av_mk]⟩,SMI.fin C (fun b d J=>by rw [k b d,v b d]; rw [aa b d,qv]) q (by omega) (by omega)⟩
   by_cases H:P=1
   ·simp [y,H];refine ACalls.draw (iJ Q U L w g t x D (by omega) (by omega) u (by omega)) fun l m M K f O R T q k=>?_
    obtain ⟨W,rfl⟩:=f;have o:m c0=some (.row 7 [[.int 0,.int 0,.int 0,.sl [] true,.str ⟨#[]⟩,.sl [] true,.sl [] true]] .live none):=by rw [k c0 p]; exact z
    simp [Form.av,Form.cells,aH,o];exact ⟨⟨.mk 2 0 W ⟨#[]⟩ [] [],by simp [Expr.av_mk]⟩,SMI.fin C (fun b d J=>by rw [k b d,v b d]; rw [aa b d,qv]) q (by omega) (by omega)⟩
   simp [y,H];refine ACalls.draw (lP Q U L w g t x D (by omega) (by omega) u (by omega)) fun l m M K f O R T q k=>?_
   obtain ⟨Z,Y,rfl⟩:=f;have o:m c0=some (.row 7 [[.int 0,.int 0,.int 0,.sl [] true,.str ⟨#[]⟩,.sl [] true,.sl [] true]] .live none):=by rw [k c0 p]; exact z
   simp [aH,o];exact ⟨⟨.mk 3 0 ⟨0,[]⟩ Z Y [],by simp [Expr.av_mk]⟩,SMI.fin C (fun b d J=>by rw [k b d,v b d]; rw [aa b d,qv]) q (by omega) (by omega)⟩
def CondAt (h:Heap) (S:Nat->Prop) (x:AV) (a:List Wb.Form):Prop:=x=.sl (a.map Form.cells) true\/∃ g,S g/\x=.row g 2 0 a.length/\h g=some (.row 2 (a.map Form.cells) .live none)
def BodyAt (h:Heap) (S:Nat->Prop) (x:AV) (es:List (List AV)):Prop:=(∃ a,x=.sl [] a/\es=[])\/∃ g,S g/\x=.row g 15 0 es.length/\h g=some (.row 15 es .live none)
inductive Tr (B:Nat) (h:Heap):(Nat->Prop)->List (List AV)->Nat->Prop
 | nil (S):Tr B h S [] 0
 | cons (S So Sb Sr:Nat->Prop) (kind:Int) (name:ByteArray) (lo hi cv body:AV) (array:ByteArray) (subs:AV) (ex:List AV) (los his:List Wb.Bound) (fs:List Wb.Form) (ss:List Wb.Form) (e:Wb.Expr) (bes es:List (List AV)) (n m:Nat)
   (hlo:norm lo=row (los.map Bound.cells)) (hhi:norm hi=row (his.map Bound.cells)) (hsub:norm subs=row (ss.map Form.cells)) (hex:br ex=e.cells) (hlc:lo.cell=true/\hi.cell=true/\subs.cell=true/\ex.all AV.cell=true/\fs.length<=B)
   (hc:CondAt h So cv fs) (hb:BodyAt h So body bes) (ht:Tr B h Sb bes n) (hr:Tr B h Sr es m)
   (h1:∀ k,So k->S k) (h2:∀ k,Sb k->S k) (h3:∀ k,Sr k->S k) (d1:∀ k,So k->Sb k->False) (d2:∀ k,So k->Sr k->False) (d3:∀ k,Sb k->Sr k->False) :
   Tr B h S ((.int kind::.str name::lo::hi::cv::body::.str array::subs::ex)::es) (1+n+m)
theorem CondAt.frame {h h':Heap} {S a:Nat->Prop} {x:AV} {b:List Wb.Form} (c:CondAt h S x b) (f:∀ k,S k->a k) (l:∀ k,S k->h' k=h k):CondAt h' a x b:=by
 rcases c with c | ⟨g,h1,d,e⟩
 ·exact .inl c
 ·exact .inr ⟨g,f g h1,d,(l g h1).trans e⟩
theorem BodyAt.frame {h h':Heap} {S a:Nat->Prop} {x:AV} {b:List (List AV)} (c:BodyAt h S x b) (f:∀ k,S k->a k) (l:∀ k,S k->h' k=h k):BodyAt h' a x b:=by
 rcases c with c | ⟨g,h1,d,e⟩
 ·exact .inl c
 ·exact .inr ⟨g,f g h1,d,(l g h1).trans e⟩
theorem Tr.frame {B:Nat} {h h':Heap} {S:Nat->Prop} {es:List (List AV)} {n:Nat} (t:Tr B h S es n):(∀ k,S k->h' k=h k)->Tr B h' S es n:=by
 induction t with
 | nil S=>intro _; exact .nil S
 | cons S l f m kind name Q G cv body array subs w R H x ss v o es n T K D M C J z y W U h1 d e p q u O P=>
  intro b;exact .cons S l f m kind name Q G cv body array subs w R H x ss v o es n T K D M C J (z.frame (fun _ h=>h) fun k a=>b k (h1 k a)) (y.frame (fun _ h=>h) fun k a=>b k (h1 k a)) (O fun k a=>b k (d k a)) (P fun k a=>b k (e k a)) h1 d e p q u
theorem Tr.mono {B:Nat} {h:Heap} {S b:Nat->Prop} {es:List (List AV)} {n:Nat} (t:Tr B h S es n) (d:∀ k,S k->b k):Tr B h b es n:=by
 cases t with
 | nil S=>exact .nil b
 | cons S f e l kind name R H cv body array subs v T J w ss u m es n U M G P D K C z Q O h1 x y o p q=>
  exact .cons b f e l kind name R H cv body array subs v T J w ss u m es n U M G P D K C z Q O (fun k a=>d k (h1 k a)) (fun k a=>d k (x k a)) (fun k a=>d k (y k a)) o p q
theorem Tr.app {B:Nat} {h:Heap} {S b:Nat->Prop} {es d:List (List AV)} {n m:Nat} (t:Tr B h S es n) (Z:Tr B h b d m):(∀ k,S k->b k->False)->Tr B h (fun k=>S k\/b k) (es++d) (n+m):=by
 induction t with
 | nil S=>intro _; rw [u5,s7]; exact Z.mono fun k a=>.inr a
 | cons S p o q kind name U K cv body array subs z W M C ss y u es n Y P J Q H O G D R aa h1 f l v w x ab T=>
  intro e;have:=Tr.cons (fun k=>S k\/b k) p o (fun k=>q k\/b k) kind name U K cv body array subs z W M C ss y u (es++d) n (Y+m) P J Q H O G D R (T fun k a=>e k (l k a)) (fun k a=>.inl (h1 k a)) (fun k a=>.inl (f k a)) (fun k a=>a.imp (l k) id) v
   (fun k a h=>h.elim (w k a) (e k (h1 k a))) (fun k a h=>h.elim (x k a) (e k (f k a)))
  rw [<-Nat.add_assoc] at this;exact this
theorem Tr.more {B b:Nat} (x:B<=b) {h:Heap} {S:Nat->Prop} {es:List (List AV)} {n:Nat} (t:Tr B h S es n):Tr b h S es n:=by
 induction t with
 | nil S=>exact .nil S
 | cons S e d f kind name P G cv body array subs q Q H u ss p k es n R J D K C a z y U T h1 v w l m o M O=>
  exact .cons S e d f kind name P G cv body array subs q Q H u ss p k es n R J D K C ⟨a.1,a.2.1,a.2.2.1,a.2.2.2.1,ts a.2.2.2.2 x⟩ z y M O h1 v w l m o
theorem Tr.len {B:Nat} {h:Heap} {S:Nat->Prop} {es:List (List AV)} {n:Nat} (t:Tr B h S es n):∀ e∈es,aF 15 e=true:=by
 induction t with
 | nil S=>simp
 | cons S z y C kind name ab R cv body array subs k ag T M ss e G es n ai U Q Y q v o l Z W h1 O P H J K aa w=>
  intro x a;rcases se.1 a with rfl | a
  ·have u:k.length=7:=by
    have:=congrArg List.length q;rw [ib] at this;obtain ⟨_,_,_,_,_,_⟩:=e;simpa [Expr.cells] using this
   have p:cv.cell=true:=by rcases o with rfl | ⟨g,_,rfl,_⟩ <;> rfl
   have m:body.cell=true:=by rcases l with ⟨D,rfl,_⟩ | ⟨g,_,rfl,_⟩ <;> rfl
   obtain ⟨c1,b,d,f,_⟩:=v;simp only [aF,s5,u,yn,c1,b,d,f,p,m,EQ];rfl
  ·exact w x a
theorem _root_.Go.AM.Frz.of_norm {h:Heap} {D:Nat->Prop} {v w:AV} (e:norm v=w):Frz h D v w:=e▸.leaf v
theorem Tr.frz {B:Nat} {h:Heap} {S D:Nat->Prop} {es:List (List AV)} {n:Nat} (t:Tr B h S es n):(∀ k,S k->D k)->∃ l:List Wb.Step,aw l=n/\l.length=es.length /\
  ∀ (i:Nat) (e y:List AV),es[i]?=some e->(Step.list l)[i]?=some y->e.length=y.length/\∀ (j:Nat) (c m:AV),e[j]?=some c->y[j]?=some m->Frz h D c m:=by
 induction t with
 | nil S=>intro _; exact ⟨[],rfl,rfl,fun i e y d=>by simp at d⟩
 | cons S a1 a0 a2 kind name bc a8 cv body array subs O al Y q ss e C es n bf Z W aa G a9 a R bb a' h1 P Q a4 a5 a6 ag ai=>
  intro o;obtain ⟨p,K,M,z⟩:=ag fun k w=>o k (P k w);obtain ⟨am,ao,ap,ar⟩:=ai fun k w=>o k (Q k w);have U:Frz h D cv (row (q.map Form.cells)):=by
   rcases a with rfl | ⟨g,u,rfl,v⟩
   ·exact .of_norm (by show AV.sl (aP _) false=_; rw [oH])
   ·refine .row g 2 0 q.length _ .live _ v (.inl rfl) (o g (h1 g u)) (by simp) (by simp) ?_ ?_
    ·intro i e y d f;rw [s7] at d; rw [d] at f; cases f; rfl
    ·intro i j e y c m d f a b;rw [s7] at d; rw [d] at f; cases f; rw [a] at b; cases b;obtain ⟨a7,_,H⟩:=rf.1 (r8 d);refine .of_norm ?_;have:=jm a;rw [<-H,qa,H,a] at this;exact (ty this).symm
  have T:Frz h D body (row (Step.list p)):=by
   have J:(Step.list p).length=C.length:=by rw [Step.list_map]; simpa using M
   rcases R with ⟨a3,rfl,rfl⟩ | ⟨g,u,rfl,v⟩
   ·have:Step.list p=[]:=s6.1 J;rw [this];exact .of_norm rfl
   ·refine .row g 15 0 C.length _ .live _ v (.inl rfl) (o g (h1 g u)) (by simp) J ?_ ?_
    ·intro i e y d f;rw [s7] at d;exact (z i e y d f).1
    ·intro i j e y c m d f a b;rw [s7] at d;exact (z i e y d f).2 j c m a b
  refine ⟨.mk kind name al Y q p array ss e::am,by simp [aw,count,K,ao],by simp [ap],fun i ax y x f=>?_⟩
  cases i with
  | zero=>
   simp only [List.getElem?_cons_zero,xk,Step.list] at x f;subst x; subst f;have ab:O.length=e.cells.length:=by rw [<-G,ib]
   refine ⟨by simp [Step.cells,ab],fun j c m a b=>?_⟩
   match j with
   | 0=>simp [Step.cells] at a b; subst a; subst b; exact .leaf _
   | 1=>simp [Step.cells] at a b; subst a; subst b; exact .leaf _
   | 2=>simp [Step.cells] at a b; subst a; subst b; exact .of_norm Z
   | 3=>simp [Step.cells] at a b; subst a; subst b; exact .of_norm W
   | 4=>simp [Step.cells] at a b; subst a; subst b; exact U
   | 5=>simp [Step.cells] at a b; subst a; subst b; exact T
   | 6=>simp [Step.cells] at a b; subst a; subst b; exact .leaf _
   | 7=>simp [Step.cells] at a b; subst a; subst b; exact .of_norm aa
   | j+8=>
    simp [Step.cells] at a b;refine .of_norm ?_;have:=jm a;rw [G,b] at this;exact (ty this).symm
  | succ i=>exact ar i ax y (by simpa using x) (by simpa [Step.list] using f)
theorem _root_.Go.AM.srI_row_from {sz g off len l:Nat} (h:l<=len):srI sz (.row g sz off len) (some (.int (l:Int))) none none=some (.row g sz (off+l) (len-l)):=by
 have a:(l:Int)<=len:=by omega
 simp [srI,bnd,a]
theorem _root_.Go.AM.srI_row_to {sz g off len l:Nat} (h:l<=len):srI sz (.row g sz off len) none (some (.int (l:Int))) none=some (.row g sz off l):=by
 have a:(l:Int)<=len:=by omega
 simp [srI,bnd,a]
theorem _root_.Go.AM.clI_row {sz g off len:Nat} {zs:List AV} {es:List (List AV)} {s:St} (a:s.h g=some (.row sz es .live none)) (h0:0<sz) (b:aF sz zs=true) (h:off+len<=es.length) :
  clI sz zs (.row g sz off len) s=some { s with h:=upd s.h g (some (.row sz (es.take off++List.replicate len zs++es.drop (off+len)) .live none)) }:=by
 unfold clI;simp only [a];rw [if_pos ⟨h0,trivial,trivial,b,h⟩]
theorem xh (around:List ByteArray) (x:ByteArray) (g:Nat) (h:Heap) (c:Nat) (a:h g=some (.row 1 [[row (ak around)]] .live none)) :
  ACalls Pg 138 [.str x,.ptr g 0 0] ⟨h,c⟩ fun av s'=>av=.bool (inL x around)/\s'.h=h:=by
 refine Fn138.calls .frz ?_;unfold Fn138.ac;simp [a];refine ACalls.pure (dz around x) fun c1 b=>?_;simp
def zy (f:Nat) (a b:List AV) (h:Heap) (g:Nat) (c:Nat) (p:ByteArray->Bool):Prop:=
 ∀ l d k,(∀ e,e≠g->d e=h e)->c<=k->ACalls Pg f (a++.str l::b) ⟨d,k⟩ fun r m=>r=.bool (p l)/\m.h=d
theorem iG (l:List ByteArray) (f:Nat) (a b:List AV) (p:ByteArray->Bool) (h:Heap) (g c:Nat) (q:h g=some (.row 1 (ak l) .live none)) (D:l.length<=68719476736) (u:zy f a b h g c p) :
  ACalls Pg 198 [.row g 1 0 l.length,.fn (.func f) a b] ⟨h,c⟩ fun av s'=>av=.int (bq p l 0)/\s'.h=h:=by
 refine Fn198.calls .frz ?_;unfold Fn198.ac;simp;refine bM 8 Fn198.W0 l (fun i r H=>bq p l 0=bq p r i) (by rfl) (by rfl) ?_ ?_ ?_
 ·simp
 ·intro y c1 e k d;simp [e,d,bq]
 ·intro i x xs y c1 m w G e k d;have v:=q0 (x:=(i:Int)+1)
  have t:(ak l)[i]?=some [.str x]:=by simp [ak,m,w]
  simp [e,m,q,t];refine ACalls.at (u x h c1 (fun _ _=>rfl) k) fun z C=>?_;by_cases o:p x=true
  ·simp [o,d,bq]
  ·simp [o,e,v,d,bq]; omega
theorem tc {b:Type} (p:b->Bool):∀ (l:List b) (i:Int),bq p l i = -1\/(i<=bq p l i/\bq p l i<i+l.length)
 | [],i=>.inl rfl
 | d::l,i=>by
  unfold bq;by_cases h:p d=true
  ·simp [h]; omega
  ·simp [h];rcases tc p l (i+1) with a | a
   ·exact .inl a
   ·exact .inr (by omega)
theorem xe (l:List ByteArray) (f:Nat) (a b:List AV) (p:ByteArray->Bool) (h0:Heap) (g c0:Nat) (v:h0 g=some (.row 1 (ak l) .live none)) (a0:l.length<=1000000) (D:zy f a b h0 g c0 p) :
  ACalls Pg 137 [.row g 1 0 l.length,.fn (.func f) a b] ⟨h0,c0⟩ fun av s'=>∃ l' k,av=.row g 1 0 k/\k<=l'.length/\l'.length=l.length/\s'.h g=some (.row 1 (ak l') .live none)/\∀ k,k≠g->s'.h k=h0 k:=by
 refine Fn137.calls .keep ?_;unfold Fn137.ac;simp;refine ACalls.at (iG l f a b p h0 g c0 v (by omega) D) fun c1 M=>?_
 simp;rcases tc p l 0 with K | ⟨am,ao⟩
 ·simp [K];exact ⟨l,by omega,rfl,v⟩
 ·obtain ⟨i,R⟩:∃ i:Nat,bq p l 0=i:=⟨(bq p l 0).toNat,by omega⟩
  have T:¬(i:Int) = -1:=by omega
  have ag:=q0 (x:=(i:Int)+1)
  simp [R,T,ag];obtain ⟨u,t⟩:∃ u:Nat->Slots->St->Prop,u=fun n J s'=>∃ (l':List ByteArray) (i j:Nat),i<j/\j+n=l.length/\J 5=.int i/\J 6=.int j/\l'.length=l.length/\s'.h g=some (.row 1 (ak l') .live none)/\(∀ k,k≠g->s'.h k=h0 k)/\c0<=s'.c:=⟨_,rfl⟩;refine cJ Fn137.W0 (by rfl) u (l.length-(i+1)) ?_ ?_
  ·rw [t]; exact ⟨l,i,i+1,by omega,by omega,by simp,by simp,rfl,v,fun _ _=>rfl,M⟩
  ·intro n a3 s' x;rw [t] at x;obtain ⟨l',i,j,ar,ax,q,d,w,m,e,y⟩:=x;obtain ⟨h,c⟩:=s';simp at q d;simp only at m e y;by_cases C:j<l.length
   case neg=>
    have Z:¬(j:Int)<l.length:=by omega
    have z:i<=l.length:=by omega
    have a2:(ak l').length=l.length:=by simp [ak,w]
    have aa:=srI_row_from (sz:=1) (g:=g) (off:=0) z;have ab:=srI_row_to (sz:=1) (g:=g) (off:=0) z;have O:=clI_row (sz:=1) (zs:=[.str ⟨#[]⟩]) (off:=i) (len:=l.length-i) (s:=⟨h,c⟩) m (by decide) (by decide) (by omega)
    simp [q,d,C,aa,ab,O];have a1:i<=l'.length:=by omega
    refine ⟨l'.take i++List.replicate (l.length-i) ⟨#[]⟩,?_,?_,?_,fun k o=>by rw [ad o]; exact e k o⟩
    ·simp; omega
    ·simp; omega
    ·rw [u2 (by omega)]; simp [ak,y7]
   have Z:(j:Int)<l.length:=by omega
   have Y:j<l'.length:=by omega
   have P:(ak l')[j]?=some [.str l'[j]]:=by simp [ak,Y]
   simp [d,C,m,P];refine ACalls.at (D l'[j] h c e y) fun al ap=>?_;have H:=q0 (x:=(j:Int)+1)
   have ai:=q0 (x:=(i:Int)+1)
   by_cases G:p l'[j]=true
   ·simp [G,d,H,t];exact ⟨n-1,by omega,l',i,j+1,by omega,by omega,q,by simp,w,m,e,by omega⟩
   ·have U:i<l'.length:=by omega
    have Q:(ak l')[i]?=some [.str l'[i]]:=by simp [ak,U]
    have W:i<l.length:=by omega
    simp [G,q,d,H,ai,t,W,m,Q];refine ⟨n-1,by omega,l'.set i l'[j],i+1,j+1,by omega,by omega,by simp,by simp,by simp [w],?_,fun k o=>by rw [ad o]; exact e k o,by omega⟩
    simp [ak]
end Go.Proofs.YtjhogglgkjcacaaGreat
