/- Part of the claim: see its last text. -/
import Derived.Test.YtjhogglgkjcacaaGreatMa19
import Derived.Test.YtjhogglgkjcacaaGreatMb
import Derived.Lib.Bytealg
import Derived.Test.YtjhogglgkjcacaaGreatMa21
import Derived.Shelf.Spec.SlicesGrow
import Derived.Test.YtjhogglgkjcacaaGreatMa20
set_option linter.all false
set_option maxRecDepth 20000
set_option maxHeartbeats 4000000
namespace Go.Proofs.YtjhogglgkjcacaaGreat
open Go.AM Go.Wb
noncomputable abbrev Pg:Program:=Tryz.prog
def bs (s:ByteArray):List UInt8:=s.data.toList
theorem gE (s:ByteArray):(bs s).length=s.size:=Array.length_toList
theorem iy (s:ByteArray) (i:Nat):s[i]?=(bs s)[i]?:=by
 by_cases h:i<s.size
 ·rw [getElem?_pos s i h,List.getElem?_eq_getElem (by rw [gE]; exact h)]; rfl
 ·rw [getElem?_neg s i h,List.getElem?_eq_none (by rw [gE]; omega)]
theorem lN {P : Program} {f : FuncId} {fn : Func} {e : Array Value → Sem Value} (hf : P.funcs[f]? = some fn) (hname : (fn.name == "runtime.NumGoroutine") = false)
  (hb:fn.body.isNone=true) (hn:Extern.findNext fn=none) (he:Extern.find fn=some e) {args:List AV} {av:AV}
  (h:∀ (G:Gh) (w:World) (vs:List Value),RepL G args vs→∃ v,(e vs.toArray).run P w=.ok v w∧Rep G av v):aG P f args av:=by
 intro s G w vs hS hv
 obtain ⟨v,h1,h2⟩:=h G w vs hv
 unfold CallOk
 rw [run_callFunc_extern hf hname hb hn he,h1]
 exact ⟨av,G,s,Stp.refl G s w,hS,h2,rfl,rfl⟩
theorem bE {G:Gh} {v w:Value} (h:Rep G (.sc v) w):w=v:=by cases h; rfl
theorem nV {G:Gh} {a b:Value} {vs:List Value} (h:RepL G [.sc a,.sc b] vs):vs=[a,b]:=by
 obtain ⟨h1,h2⟩:=h
 match vs,h1,h2 with
 | [x,y],_,h2=>
  rw [bE (h2 0 _ x rfl rfl),bE (h2 1 _ y rfl rfl)]
theorem kp (s:ByteArray) (c:Int):aG Pg Fn250.n [.str s,.u8 c] (.int (Lib.indexByte (bs s) (UInt8.ofNat c.toNat))):=by
 refine lN Fn250.func (by kernel_rfl) (by kernel_rfl) (by kernel_rfl) (e:=Extern.BytealgIndexByte.indexByte) (by kernel_rfl) ?_
 intro G w vs hv
 rw [nV hv]
 exact ⟨_,Lib.run_indexByteString s c w,.sc _ rfl⟩
theorem qb (a b:ByteArray):aG Pg Fn227.n [.str a,.str b] (.int (Lib.compareBytes (bs a) (bs b))):=by
 refine lN Fn227.func (by kernel_rfl) (by kernel_rfl) (by kernel_rfl) (e:=Extern.BytealgCompare.compare) (by kernel_rfl) ?_
 intro G w vs hv
 rw [nV hv]
 exact ⟨_,Lib.run_compareString a b w,.sc _ rfl⟩
end Go.Proofs.YtjhogglgkjcacaaGreat
set_option maxRecDepth 20000
namespace Go.Proofs.YtjhogglgkjcacaaGreat
open Go.AM
theorem lO {P : Program} {f : FuncId} {fn : Func} {e : Array Value → Sem Value} (hf : P.funcs[f]? = some fn) (hname : (fn.name == "runtime.NumGoroutine") = false)
  (hb:fn.body.isNone=true) (hn:Extern.findNext fn=none) (he:Extern.find fn=some e) {args:List AV} {av:AV}
  (h:∀ (G:Gh) (w:World) (vs:List Value),RepL G args vs→∃ v,(e vs.toArray).run P w=.ok v w∧Rep G av v):vl P f args av:=by
 intro s G w vs hS hv
 obtain ⟨v,h1,h2⟩:=h G w vs hv
 unfold CallOk
 rw [run_callFunc_extern hf hname hb hn he,h1]
 exact ⟨av,G,s,Stp.refl G s w,hS,h2,rfl,rfl⟩
def qe:List AV→Option AV
 | [.sc (.string s),.sc (.int .u8 c)]=>some (.int (Lib.indexByte (bs s) (UInt8.ofNat c.toNat)))
 | _=>none
def qd:List AV→Option AV
 | [.sc (.string a),.sc (.string b)]=>some (.int (Lib.compareBytes (bs a) (bs b)))
 | _=>none
theorem sW:pw Pg Fn250.n (.ext qe):=fun args v h=>by
 unfold qe at h
 split at h
 ·injection h with h; subst h
  refine lO Fn250.func (by kernel_rfl) (by kernel_rfl) (by kernel_rfl) (e:=Extern.BytealgIndexByte.indexByte) (by kernel_rfl) ?_
  intro G w vs hv
  rw [nV hv]
  exact ⟨_,Lib.run_indexByteString _ _ w,.sc _ rfl⟩
 ·cases h
theorem sV:pw Pg Fn227.n (.ext qd):=fun args v h=>by
 unfold qd at h
 split at h
 ·injection h with h; subst h
  refine lO Fn227.func (by kernel_rfl) (by kernel_rfl) (by kernel_rfl) (e:=Extern.BytealgCompare.compare) (by kernel_rfl) ?_
  intro G w vs hv
  rw [nV hv]
  exact ⟨_,Lib.run_compareString _ _ w,.sc _ rfl⟩
 ·cases h
end Go.Proofs.YtjhogglgkjcacaaGreat
set_option maxRecDepth 20000
namespace Go.Proofs.YtjhogglgkjcacaaGreat
open Go.AM
def tab_depends:List (Nat×Ent):=[(33,.code Fn33.ac [.t 4]),
 (35,.code Fn35.ac [.t 0]),
 (60,.code Fn60.ac [.t 6]),
 (66,.code Fn66.ac [.t 4]),
 (75,.code Fn75.ac [.l 0 (some 2)]),
 (79,.code Fn79.ac [.t 2]),
 (96,.code Fn96.ac [.t 2]),
 (97,.code Fn97.ac [.t 2]),
 (103,.code Fn103.ac [.t 4]),
 (104,.code Fn104.ac [.t 4]),
 (109,.code Fn109.ac [.t 2,.t 3]),
 (117,.code Fn117.ac [.t 4]),
 (140,.code Fn140.ac [.t 2]),
 (147,.code Fn147.ac [.t 2,.t 3]),
 (151,.code Fn151.ac [.t 2]),
 (152,.code Fn152.ac [.t 4]),
 (153,.code Fn153.ac [.t 4]),
 (164,.code Fn164.ac [.t 6]),
 (165,.code Fn165.ac [.t 8]),
 (166,.code Fn166.ac [.t 4]),
 (167,.code Fn167.ac [.t 2]),
 (168,.code Fn168.ac []),
 (170,.code Fn170.ac [.t 2]),
 (172,.code Fn172.ac [.t 2]),
 (175,.code Fn175.ac [.t 4]),
 (180,.code Fn180.ac [.t 2,.t 3]),
 (181,.code Fn181.ac [.t 2]),
 (187,.code Fn187.ac [.t 3]),
 (213,.code Fn213.ac [.t 2,.t 3]),
 (214,.code Fn214.ac [.t 11]),
 (215,.code Fn215.ac [.t 8,.t 9]),
 (226,.code Fn226.ac [.t 2]),
 (227,.ext qd),
 (232,.code Fn232.ac [.t 4]),
 (233,.code Fn233.ac [.t 3]),
 (234,.code Fn234.ac [.t 2]),
 (235,.code Fn235.ac [.t 6]),
 (236,.code Fn236.ac [.t 6]),
 (237,.code Fn237.ac [.t 6]),
 (238,.code Fn238.ac [.t 2]),
 (239,.code Fn239.ac [.t 2]),
 (240,.code Fn240.ac [.t 4]),
 (241,.code Fn241.ac [.t 2]),
 (242,.code Fn242.ac [.t 2]),
 (243,.code Fn243.ac [.t 4]),
 (244,.code Fn244.ac [.t 4]),
 (250,.ext qe),
 (252,.code Fn252.ac []),
 (253,.code Fn253.ac [.t 4]),
 (254,.code Fn254.ac []),
 (255,.code Fn255.ac [.t 4]),
 (256,.code Fn256.ac [.t 2]),
 (284,.code Fn284.ac []),
 (285,.code Fn285.ac [.t 6]),
 (286,.code Fn286.ac [.t 6]),
 (302,.code Fn302.ac [.t 2]),
 (303,.code Fn303.ac [.t 2]),
 (304,.code Fn304.ac [.t 6]),
 (305,.code Fn305.ac [.t 8]),
 (306,.code Fn306.ac [.t 8]),
 (307,.code Fn307.ac [.t 4]),
 (309,.code Fn309.ac [.t 4]),
 (310,.code Fn310.ac []),
 (311,.code Fn311.ac [.t 2]),
 (312,.code Fn312.ac [.t 4]),
 (326,.code Fn326.ac [.t 2]),
 (327,.code Fn327.ac [.t 6]),
 (328,.code Fn328.ac [.t 4]),
 (329,.code Fn329.ac [.t 4]),
 (330,.code Fn330.ac [.t 4]),
 (331,.code Fn331.ac [.t 5]),
 (336,.code Fn336.ac [.t 2]),
 (337,.code Fn337.ac [.t 4]),
 (338,.code Fn338.ac [.t 2]),
 (339,.code Fn339.ac []),
 (347,.code Fn347.ac [.t 2]),
 (357,.code Fn357.ac []),
 (358,.code Fn358.ac [.t 4,.t 5]),
 (359,.code Fn359.ac [.t 4]),
 (367,.code Fn367.ac [.t 4])]
theorem oK:mT Pg tab_depends:=⟨Fn33.calls,Fn35.calls,Fn60.calls,Fn66.calls,Fn75.calls,Fn79.calls,Fn96.calls,Fn97.calls,Fn103.calls,Fn104.calls,Fn109.calls,Fn117.calls,Fn140.calls,Fn147.calls,Fn151.calls,Fn152.calls,Fn153.calls,Fn164.calls,Fn165.calls,Fn166.calls,Fn167.calls,Fn168.calls,Fn170.calls,Fn172.calls,Fn175.calls,Fn180.calls,Fn181.calls,Fn187.calls,Fn213.calls,Fn214.calls,Fn215.calls,Fn226.calls,sV,Fn232.calls,Fn233.calls,Fn234.calls,Fn235.calls,Fn236.calls,Fn237.calls,Fn238.calls,Fn239.calls,Fn240.calls,Fn241.calls,Fn242.calls,Fn243.calls,Fn244.calls,sW,Fn252.calls,Fn253.calls,Fn254.calls,Fn255.calls,Fn256.calls,Fn284.calls,Fn285.calls,Fn286.calls,Fn302.calls,Fn303.calls,Fn304.calls,Fn305.calls,Fn306.calls,Fn307.calls,Fn309.calls,Fn310.calls,Fn311.calls,Fn312.calls,Fn326.calls,Fn327.calls,Fn328.calls,Fn329.calls,Fn330.calls,Fn331.calls,Fn336.calls,Fn337.calls,Fn338.calls,Fn339.calls,Fn347.calls,Fn357.calls,Fn358.calls,Fn359.calls,Fn367.calls,trivial⟩
end Go.Proofs.YtjhogglgkjcacaaGreat
set_option maxRecDepth 20000
set_option maxHeartbeats 4000000
namespace Go.Proofs.YtjhogglgkjcacaaGreat
open Go.AM Go.Wb
theorem mb (s:ByteArray) (c:Int):aG Pg Fn103.n [.str s,.u8 c] (.int (Lib.indexByte (bs s) (UInt8.ofNat c.toNat))):=by
 intro st
 refine Fn103.calls .frz ?_
 unfold Fn103.ac
 simp
 refine ACalls.pure (v:=.int (Lib.indexByte (bs s) (UInt8.ofNat c.toNat))) ?_ fun c1 hc1=>?_
 ·intro st
  refine Fn175.calls .frz ?_
  unfold Fn175.ac
  simp
  refine ACalls.pure (kp s c) fun c1 hc1=>?_
  simp
 ·simp
theorem d6 (n lo hi:Int):aG Pg Fn60.n [.int n,.int lo,.int hi] (.bool (decide (lo≤n∧n≤hi))):=by
 intro s
 refine Fn60.calls .frz ?_
 unfold Fn60.ac
 by_cases h:lo≤n <;> simp [h]
def dL (b:UInt8):Bool:=decide (97≤b.toNat)&&decide (b.toNat≤122)
def kD (b:UInt8):Bool:=decide (48≤b.toNat)&&decide (b.toNat≤57)
def dJ (b:UInt8):Bool:=dL b||kD b||b==95
theorem pL (b:UInt8):aG Pg Fn238.n [.u8 b.toNat] (.bool (dL b)):=by
 intro s
 refine Fn238.calls .frz ?_
 unfold Fn238.ac
 by_cases h:97≤b.toNat
 ·have h':(97:Int)≤b.toNat:=by omega
  simp [h,h',dL]; omega
 ·have h':¬(97:Int)≤b.toNat:=by omega
  simp [h,h',dL]
theorem up (b:UInt8):aG Pg Fn239.n [.u8 b.toNat] (.bool (kD b)):=by
 intro s
 refine Fn239.calls .frz ?_
 unfold Fn239.ac
 by_cases h:48≤b.toNat
 ·have h':(48:Int)≤b.toNat:=by omega
  simp [h,h',kD]; omega
 ·have h':¬(48:Int)≤b.toNat:=by omega
  simp [h,h',kD]
def iF:List ByteArray:=[⟨#[97,114,114,97,121]⟩,⟨#[102,111,114]⟩,⟨#[105,102]⟩,⟨#[109,97,120]⟩,⟨#[109,105,110]⟩]
def inL (s:ByteArray) (l:List ByteArray):Bool:=l.any fun r=>decide (s=r)
theorem tW (s:ByteArray):aG Pg Fn167.n [.str s] (.bool (inL s iF)):=by
 intro st
 refine Fn167.calls .frz ?_
 unfold Fn167.ac
 simp
 by_cases h1:s=⟨#[97,114,114,97,121]⟩ <;> simp [h1,inL,iF]
 by_cases h2:s=⟨#[102,111,114]⟩ <;> simp [h2]
 by_cases h3:s=⟨#[105,102]⟩ <;> simp [h3]
 by_cases h4:s=⟨#[109,97,120]⟩ <;> simp [h4]
 by_cases h5:s=⟨#[109,105,110]⟩ <;> simp [h5,h1,h2,h3,h4]
theorem wc (b:UInt8):Lib.indexByte [95] b=if b=95 then 0 else -1:=by
 simp only [Lib.indexByte]
 by_cases h:b=95
 ·subst h; rfl
 ·have:((95:UInt8)==b)=false:=by simpa using Ne.symm h
  simp [this,h]
def cY (s:ByteArray):Bool:=decide (1≤s.size∧s.size≤40)&&(bs s).head?.any dL&&(bs s).all dJ
theorem tV (s:ByteArray):aG Pg Fn166.n [.str s,.str ⟨#[95]⟩] (.bool (cY s)):=by
 intro st
 refine Fn166.calls .frz ?_
 unfold Fn166.ac
 by_cases h1:(s.size:Int)<1
 ·have:¬1≤s.size:=by omega
  simp [h1,cY,this]
 by_cases h2:(40:Int)<s.size
 ·have:¬s.size≤40:=by omega
  simp [h1,h2,cY,this]
 have h3:1≤s.size∧s.size≤40:=by omega
 obtain ⟨b,l,hl⟩:∃ b l,bs s=b::l:=by
  cases h:bs s with
  | nil=>have:=gE s; rw [h] at this; simp at this; omega
  | cons b l=>exact ⟨b,l,rfl⟩
 simp [h1,h2,iy,hl]
 refine ACalls.pure (pL b) fun c1 hc1=>?_
 by_cases h4:dL b=true
 ·simp [h4]
  refine bz 22 Fn166.W0 (bs s) (fun i r sl s'=>s'.h=st.h∧cY s=r.all dJ) (by rfl) (by rfl) ?_ ?_ ?_
  ·simp [cY,h3,hl,h4]
  ·intro v s' hv hI
   obtain ⟨h5,h6⟩:=hI
   rw [gE] at hv
   simp [hv,h5,h6]
  ·intro i x xs v s' hi hx hl hv hI
   obtain ⟨h5,h6⟩:=hI
   have hi':(i:Int)<s.size:=by rw [gE] at hi; omega
   simp [hv,hi',iy,hi,hx]
   have hw:=ah (x:=(i:Int)+1) (by omega) (by omega)
   obtain ⟨h',c'⟩:=s'
   simp only at h5
   refine ACalls.pure (pL x) fun c2 hc2=>?_
   by_cases h7:dL x=true
   ·have hn:dJ x=true:=by simp [dJ,h7]
    simp [h7,hw,hv,h5,h6,hn]
   simp [h7,iy,hi,hx]
   refine ACalls.pure (up x) fun c3 hc3=>?_
   by_cases h8:kD x=true
   ·have hn:dJ x=true:=by simp [dJ,h8]
    simp [h8,hw,hv,h5,h6,hn]
   simp [h8,iy,hi,hx]
   refine ACalls.pure (mb _ _) fun c4 hc4=>?_
   have h9:UInt8.ofNat ((x.toNat:Int)).toNat=x:=by simp
   rw [h9,show bs ⟨#[95]⟩=[95] from rfl,wc]
   by_cases h10:x=95
   ·have hn:dJ x=true:=by simp [dJ,h10]
    simp [h10,hw,hv,h5,h6]
    simp [dJ]
   ·have hn:dJ x=false:=by simp [dJ,h10,h7,h8]
    simp [h10,h5,h6,hn]
 ·simp [h4,cY,hl]
def bh (s:ByteArray):Bool:=cY s&&!inL s iF
theorem ie (s:ByteArray):aG Pg Fn97.n [.str s] (.bool (bh s)):=by
 intro st
 refine Fn97.calls .frz ?_
 unfold Fn97.ac
 simp
 refine ACalls.pure (tV s) fun c1 hc1=>?_
 by_cases h1:cY s=true
 ·simp [h1]
  refine ACalls.pure (tW s) fun c1 hc1=>?_
  simp [bh,h1]
 ·simp [h1,bh]
theorem oU {a b:Int} (hb:0<b):a / b=if a.tmod b<0 then a.tdiv b-1 else a.tdiv b:=by
 have h1:=Int.mul_ediv_add_emod a b
 have h2:=Int.emod_nonneg a (Int.ne_of_gt hb)
 have h3:=Int.emod_lt_of_pos a hb
 have hs:Int.sign b=1:=Int.sign_eq_one_of_pos hb
 rw [Int.tmod_eq_emod,Int.tdiv_eq_ediv,hs]
 by_cases h:0≤a∨b ∣ a
 ·simp only [h,if_true]
  rw [if_neg (by omega)]; omega
 ·simp only [h,if_false]
  rw [if_pos (by omega)]; omega
theorem nU {a b:Int} (hb:0<b) (ha:-9223372036854775808<a) (ha':a<9223372036854775808):-9223372036854775808<a.tdiv b∧a.tdiv b<9223372036854775808:=by
 have h:=Int.natAbs_tdiv_le_natAbs a b
 omega
theorem pM (a b:Int) (ha:-9223372036854775808<a) (ha':a<9223372036854775808) (hb:0<b):aG Pg Fn244.n [.int a,.int b] (.int (a / b)):=by
 intro s
 refine Fn244.calls .frz ?_
 unfold Fn244.ac
 have hb0:b≠0:=Int.ne_of_gt hb
 obtain ⟨h1,h2⟩:=nU hb ha ha'
 have hf:=oU (a:=a) hb
 have hw:IntKind.i64.wrap (a.tdiv b)=a.tdiv b:=ah (by omega) (by omega)
 by_cases h:a.tmod b<0
 ·rw [if_pos h] at hf
  have hw2:IntKind.i64.wrap (a.tdiv b-1)=a.tdiv b-1:=ah (by omega) (by omega)
  simp [hb0,h,hw,hw2,hf]
 ·rw [if_neg h] at hf
  simp [hb0,h,hw,hf]
def upI (a b:Int):Int:=-(-a / b)
theorem ur (a b:Int) (ha:-9223372036854775808<a) (ha':a<9223372036854775808) (hb:0<b):aG Pg Fn243.n [.int a,.int b] (.int (upI a b)):=by
 intro s
 refine Fn243.calls .frz ?_
 unfold Fn243.ac
 have hw:IntKind.i64.wrap (-a) = -a:=ah (by omega) (by omega)
 have hd:-9223372036854775808 < -a / b ∧ -a / b<9223372036854775808:=by
  have h1:=Int.natAbs_ediv_le_natAbs (-a) b
  omega
 have hw2:IntKind.i64.wrap (-(-a / b)) = -(-a / b):=ah (by omega) (by omega)
 simp [hw]
 refine ACalls.pure (pM (-a) b (by omega) (by omega) hb) fun c1 hc1=>?_
 simp [hw2,upI]
theorem co (n lo hi:Int):aG Pg Fn68.n [.int n,.int lo,.int hi] (.bool (decide (lo≤n∧n≤hi))):=by
 intro s
 refine Fn68.calls .frz ?_
 unfold Fn68.ac
 by_cases h:lo≤n <;> simp [h]
theorem pK (a b:Int) (ha:-9223372036854775808<a) (ha':a<9223372036854775808) (hb:0<b):aG Pg Fn177.n [.int a,.int b] (.int (a / b)):=by
 intro s
 refine Fn177.calls .frz ?_
 unfold Fn177.ac
 have hb0:b≠0:=Int.ne_of_gt hb
 obtain ⟨h1,h2⟩:=nU hb ha ha'
 have hf:=oU (a:=a) hb
 have hw:IntKind.i64.wrap (a.tdiv b)=a.tdiv b:=ah (by omega) (by omega)
 by_cases h:a.tmod b<0
 ·rw [if_pos h] at hf
  have hw2:IntKind.i64.wrap (a.tdiv b-1)=a.tdiv b-1:=ah (by omega) (by omega)
  simp [hb0,h,hw,hw2,hf]
 ·rw [if_neg h] at hf
  simp [hb0,h,hw,hf]
theorem vM (a b:ByteArray):aG Pg Fn66.n [.str a,.str b] (.int (Lib.compareBytes (bs a) (bs b))):=by
 intro s
 refine Fn66.calls .frz ?_
 unfold Fn66.ac
 simp
 refine ACalls.pure (v:=.int (Lib.compareBytes (bs a) (bs b))) ?_ fun c1 hc1=>by simp
 intro s
 refine Fn152.calls .frz ?_
 unfold Fn152.ac
 simp
 refine ACalls.pure (qb a b) fun c1 hc1=>by simp
end Go.Proofs.YtjhogglgkjcacaaGreat
set_option maxRecDepth 20000
set_option maxHeartbeats 4000000
namespace Go.Proofs.YtjhogglgkjcacaaGreat
open Go.AM Go.Wb
def aK {α:Type} (p:α→Bool):List α→Int→Int
 | [],_=>-1
 | x::xs,i=>if p x=true then i else aK p xs (i+1)
theorem gp {α:Type} (p:α→Bool):∀ (l:List α) (i:Int),0≤i→(0≤aK p l i↔l.any p=true)
 | [],i,h=>by simp [aK]
 | x::xs,i,h=>by
  have:=gp p xs (i+1) (by omega)
  by_cases hx:p x=true <;> simp [aK,hx,this,h]
theorem qf {α:Type} (p:α→Bool):∀ (l:List α) (i:Int),0≤i→0≤aK p l i→∃ x,i≤aK p l i∧l[(aK p l i-i).toNat]?=some x∧p x=true
 | [],i,h,h'=>by simp [aK] at h'
 | x::xs,i,h,h'=>by
  by_cases hx:p x=true
  ·simp [aK,hx]
  ·simp only [aK,hx] at h' ⊢
   obtain ⟨y,h1,h2,h3⟩:=qf p xs (i+1) (by omega) h'
   refine ⟨y,by simpa using by omega,?_,h3⟩
   have:(aK p xs (i+1)-i).toNat=(aK p xs (i+1)-(i+1)).toNat+1:=by omega
   simp only [Bool.false_eq_true,if_false]
   rw [this]; simpa using h2
theorem tL (l:List ByteArray) (x:ByteArray):aG Pg Fn104.n [row (am l),.str x] (.int (aK (fun y=>decide (x=y)) l 0)):=by
 intro s
 refine ACalls.small fun hs=>?_
 have hl:l.length≤68719476736:=by simpa [am] using hs.1.1
 refine Fn104.calls .frz ?_
 unfold Fn104.ac
 simp [am]
 refine bK 8 Fn104.W0 l (fun i r sl=>aK (fun y=>decide (x=y)) l 0=aK (fun y=>decide (x=y)) r i) (by rfl) (by rfl) ?_ ?_ ?_
 ·simp
 ·intro v c hv hc hI
  simp [hv,hI,aK]
 ·intro i y ys v c hi hx hl hv hc hI
  have hw:=ah (x:=(i:Int)+1) (by omega) (by omega)
  simp [hv,hi,hx]
  by_cases h:x=y
  ·subst h
   simp [hI,aK]
  ·simp [h,hv,hw,hI,aK,hc]
theorem er (l:List ByteArray) (x:ByteArray):aG Pg Fn33.n [row (am l),.str x] (.bool (inL x l)):=by
 intro s
 refine Fn33.calls .frz ?_
 unfold Fn33.ac
 simp
 refine ACalls.pure (tL l x) fun c1 hc1=>?_
 have:=gp (fun y=>decide (x=y)) l 0 (Int.le_refl 0)
 by_cases h:inL x l=true
 ·have h':=this.2 h
  simp [h,h']
 ·have h':¬0≤aK (fun y=>decide (x=y)) l 0:=fun e=>h (this.1 e)
  simp [h,h']
def io:List UInt8:=[97,98,99,100,101,102,103,104,105,106,107,108,109,110,111,112,113,114,115,116,117,118,119,120,121,122]
def ny:List UInt8:=io++[48,49,50,51,52,53,54,55,56,57,95]
theorem nj (b:UInt8):Lib.indexByte io b<0↔dL b=false:=by
 have h:∀ n:Nat,n<256→(decide (Lib.indexByte io (UInt8.ofNat n)<0)=!dL (UInt8.ofNat n)):=by decide +kernel
 have:=h b.toNat b.toNat_lt
 rw [UInt8.ofNat_toNat] at this
 cases hl:dL b <;> simp [hl] at this ⊢ <;> exact this
theorem oV (b:UInt8):Lib.indexByte ny b<0↔dJ b=false:=by
 have h:∀ n:Nat,n<256→(decide (Lib.indexByte ny (UInt8.ofNat n)<0)=!dJ (UInt8.ofNat n)):=by decide +kernel
 have:=h b.toNat b.toNat_lt
 rw [UInt8.ofNat_toNat] at this
 cases hl:dJ b <;> simp [hl] at this ⊢ <;> exact this
theorem fN (s:ByteArray):aG Pg Fn32.n [.str s] (.bool (bh s)):=by
 intro st
 refine Fn32.calls .frz ?_
 unfold Fn32.ac
 simp
 refine ACalls.pure (co _ _ _) fun c1 hc1=>?_
 by_cases h1:1≤s.size∧s.size≤40
 case neg=>
  have h1':¬((1:Int)≤s.size∧(s.size:Int)≤40):=by omega
  simp [h1',bh,cY,h1]
 have h1':((1:Int)≤s.size∧(s.size:Int)≤40):=by omega
 obtain ⟨b,l,hl⟩:∃ b l,bs s=b::l:=by
  cases h:bs s with
  | nil=>have:=gE s; rw [h] at this; simp at this; omega
  | cons b l=>exact ⟨b,l,rfl⟩
 simp [h1',iy,hl]
 refine ACalls.pure (mb _ _) fun c2 hc2=>?_
 have h9:UInt8.ofNat ((b.toNat:Int)).toNat=b:=by simp
 rw [h9]
 show aO _ _ _ _ _ _ _ (.int (Lib.indexByte io b)) _
 by_cases h2:dL b=true
 case neg=>
  have h2':Lib.indexByte io b<0:=(nj b).2 (by simpa using h2)
  simp [h2',bh,cY,h1,hl,h2]
 have h2':¬Lib.indexByte io b<0:=fun h=>by rw [(nj b).1 h] at h2; cases h2
 simp [h2',bsI,an]
 refine ACalls.pure (er iF s) fun c3 hc3=>?_
 by_cases h3:inL s iF=true
 ·simp [h3,bh]
 simp [h3]
 refine bK 21 Fn32.W0 (bs s) (fun i r sl=>cY s=r.all dJ) (by rfl) (by rfl) ?_ ?_ ?_
 ·simp [cY,h1,hl,h2]
 ·intro v c hv hc hI
  rw [gE] at hv
  simp [hv,bh,hI,h3]
 ·intro i x xs v c hi hx hl hv hc hI
  have hi':(i:Int)<s.size:=by rw [gE] at hi; omega
  have hw:=ah (x:=(i:Int)+1) (by omega) (by omega)
  simp [hv,hi',iy,hi,hx]
  refine ACalls.pure (mb _ _) fun c4 hc4=>?_
  have h9:UInt8.ofNat ((x.toNat:Int)).toNat=x:=by simp
  rw [h9]
  show aO _ _ _ _ _ _ _ (.int (Lib.indexByte ny x)) _
  by_cases h4:dJ x=true
  ·have h4':¬Lib.indexByte ny x<0:=fun h=>by rw [(oV x).1 h] at h4; cases h4
   simp [h4',hv,hw,hI,h4]
   omega
  ·have h4':Lib.indexByte ny x<0:=(oV x).2 (by simpa using h4)
   simp [h4',bh,hI,h4]
def bp (last:ByteArray):List Wb.Term→Int
 | []=>0
 | t::ts=>if bh t.name=false then 5 else if t.coef=0∨¬(-1000≤t.coef∧t.coef≤1000) then 1 else if sle t.name last=true then 7 else bp t.name ts
def aL (f:Wb.Form):Int:=if ¬(-1000000≤f.const∧f.const≤1000000) then 1 else if (12:Int)<f.terms.length then 2 else bp ⟨#[]⟩ f.terms
theorem po {s:ByteArray} (h:bh s=true):sle s ⟨#[]⟩=false:=by
 have h1:1≤s.size:=by
  simp only [bh,cY,Bool.and_eq_true,decide_eq_true_eq] at h
  exact h.1.1.1.1
 unfold sle
 have h2:s≠⟨#[]⟩:=by rintro rfl; exact absurd h1 (by decide)
 have h3:∀ l:List UInt8,Op.bytesLess l []=false:=by intro l; cases l <;> rfl
 simp only [h2,decide_false,Bool.or_false]
 rw [ByteArray.toList_eq ⟨#[]⟩]
 exact h3 _
theorem oe (f:Wb.Form):aG Pg Fn79.n [f.av] (.int (aL f)):=by
 intro s
 refine Fn79.calls .frz ?_
 unfold Fn79.ac
 simp [Form.av,Form.cells]
 refine ACalls.pure (d6 _ _ _) fun c1 hc1=>?_
 by_cases h1:-1000000≤f.const∧f.const≤1000000
 case neg=>simp [h1,aL]
 simp [h1]
 by_cases h2:(12:Int)<f.terms.length
 ·simp [h2,aL,h1]
 simp [h2]
 refine bq 16 Fn79.W0 f.terms (fun i r sl s'=>∃ last,bp ⟨#[]⟩ f.terms=bp last r∧(i=0→last=⟨#[]⟩)∧∀ t,0<i→f.terms[i-1]?=some t→t.name=last) (by rfl) (by rfl) ?_ ?_ ?_
 ·simp
 ·intro v h c hv hF hI
  obtain ⟨last,hI,_⟩:=hI
  simp [hv,aL,h1,h2,hI,bp]
  exact ay fun k hk=>by rw [hF.h k (by omega),ad (by omega)]
 ·intro i t ts v h c hi hx hl hv hF hI
  obtain ⟨last,hI,hI0,hI1⟩:=hI
  have hw:=ah (x:=(i:Int)+1) (by omega) (by omega)
  have hbox:h s.c=some (.row 2 [[.int f.const,row (List.map Term.cells f.terms)]] .live none):=by rw [hF.h s.c (by omega)]; simp
  have hc:s.c+1≤c:=by have:=hF.c; omega
  have hres:∀ {b},retH s.c s.h (upd h c b)=s.h:=fun {b}=>ay fun k hk=>by rw [ad (by omega),hF.h k (by omega),ad (by omega)]
  simp [hv,hi,hx,Term.cells]
  refine ACalls.pure (ie t.name) fun c2 hc2=>?_
  cases h3:bh t.name
  ·simp [h3,aL,h1,h2,hI,bp,hres]
  simp
  by_cases h4:t.coef=0
  ·simp [h4,aL,h1,h2,hI,bp,h3,hres]
  simp [h4]
  refine ACalls.pure (d6 _ _ _) fun c3 hc3=>?_
  by_cases h5:-1000≤t.coef∧t.coef≤1000
  case neg=>simp [h5,aL,h1,h2,hI,bp,h3,hres]
  simp [h5]
  have hnext:Fr c1 (upd s.h s.c (some (Body.row 2 [[.int f.const,row (List.map Term.cells f.terms)]] RSt.live none))) (upd h c (some (.row 2 [[.str t.name,.int t.coef]] .live none))) c3:=hF.upd (by have:=hF.c; omega) (by omega)
  by_cases h6:i=0
  ·subst h6
   have hl0:=hI0 rfl
   subst hl0
   have hs:=po h3
   have hw1:IntKind.i64.wrap 1=1:=by decide
   simp [hw1,hv,hnext]
   rw [hI]; simp [bp,h3,h4,h5,hs]
  ·have h6':0<i:=by omega
   have hi1:i-1<f.terms.length:=by omega
   have hn:=hI1 f.terms[i-1] h6' (List.getElem?_eq_getElem hi1)
   have hw2:IntKind.i64.wrap ((i:Int)-1)=((i-1:Nat):Int):=by rw [ah (by omega) (by omega)]; omega
   have hne:s.c≠c:=by omega
   simp [h6,h6',hbox,hne,hw2,hi1,hn,Term.cells]
   by_cases h7:sle t.name last=true
   ·simp [h7,aL,h1,h2,hI,bp,h3,h4,h5,hres]
   ·simp [h7,hw,hv,hnext]
    rw [hI]; simp [bp,h3,h4,h5,h7]
theorem nY (f:Wb.Form):aG Pg Fn25.n [f.av] (.int (aL f)):=by
 intro s
 refine ACalls.small fun hs=>?_
 have hlen:f.terms.length≤68719476736:=by simpa [Form.av,Form.cells] using hs.1.2.1.1
 refine Fn25.calls .frz ?_
 unfold Fn25.ac
 simp [Form.av,Form.cells]
 refine ACalls.pure (co _ _ _) fun c1 hc1=>?_
 by_cases h1:-1000000≤f.const∧f.const≤1000000
 case neg=>simp [h1,aL]
 simp [h1]
 by_cases h2:(12:Int)<f.terms.length
 ·simp [h2,aL,h1]
 simp [h2]
 refine bq 17 Fn25.W0 f.terms (fun i r sl s'=>∃ last,sl 3=.str last∧bp ⟨#[]⟩ f.terms=bp last r) (by rfl) (by rfl) ?_ ?_ ?_
 ·simp
 ·intro v h c hv hF hI
  obtain ⟨last,h3,hI⟩:=hI
  simp [hv,aL,h1,h2,hI,bp]
  exact ay fun k hk=>by rw [hF.h k (by omega),ad (by omega)]
 ·intro i t ts v h c hi hx hl hv hF hI
  obtain ⟨last,h3',hI⟩:=hI
  simp at h3'
  have hw:=ah (x:=(i:Int)+1) (by omega) (by omega)
  have hc:s.c+1≤c:=by have:=hF.c; omega
  have hres:∀ {b},retH s.c s.h (upd h c b)=s.h:=fun {b}=>ay fun k hk=>by rw [ad (by omega),hF.h k (by omega),ad (by omega)]
  simp [hv,hi,hx,Term.cells]
  refine ACalls.pure (fN t.name) fun c2 hc2=>?_
  cases h3:bh t.name
  ·simp [h3,aL,h1,h2,hI,bp,hres]
  simp
  by_cases h4:t.coef=0
  ·simp [h4,aL,h1,h2,hI,bp,h3,hres]
  simp [h4]
  refine ACalls.pure (co _ _ _) fun c3 hc3=>?_
  by_cases h5:-1000≤t.coef∧t.coef≤1000
  case neg=>simp [h5,aL,h1,h2,hI,bp,h3,hres]
  have hnext:Fr c1 (upd s.h s.c (some (Body.row 2 [[.int f.const,row (List.map Term.cells f.terms)]] RSt.live none))) (upd h c (some (.row 2 [[.str t.name,.int t.coef]] .live none))) c3:=hF.upd (by have:=hF.c; omega) (by omega)
  simp [h5,h3']
  by_cases h7:sle t.name last=true
  ·simp [h7,aL,h1,h2,hI,bp,h3,h4,h5,hres]
  ·simp [h7,hw,hv,hnext]
   rw [hI]; simp [bp,h3,h4,h5,h7]
end Go.Proofs.YtjhogglgkjcacaaGreat
set_option maxRecDepth 20000
set_option maxHeartbeats 4000000
namespace Go.Proofs.YtjhogglgkjcacaaGreat
open Go.AM Go.Wb
def xX (t:Nat):Nat:=match t with
 | 22=>151
 | 25=>235
 | t=>t
def jw:Go.Shelf.Ren:=⟨fun _=>Fn337.n,xX,fun g=>g⟩
theorem uL:Lays8.n4 Tryz.prog jw where
 mixed:=by kernel_rfl
 f4 := ⟨ "slices.Grow[[]warpbeam/api.Bound,warpbeam/api.Bound]", by decide, Tryz.func337.trans (congrArg some (by kernel_rfl))⟩
 t0:=Tryz.underlying0
 a0:=Tryz.isAgg0
 z0:=Tryz.sizeOf0
 v0:=Tryz.zeroValue0
 t3:=Tryz.underlying3
 a3:=Tryz.isAgg3
 z3:=Tryz.sizeOf3
 v3:=Tryz.zeroValue3
 t4:=Tryz.underlying4
 a4:=Tryz.isAgg4
 z4:=Tryz.sizeOf4
 v4:=Tryz.zeroValue4
 t9:=Tryz.underlying9
 a9:=Tryz.isAgg9
 z9:=Tryz.sizeOf9
 v9:=Tryz.zeroValue9
 t20:=Tryz.underlying20
 a20:=Tryz.isAgg20
 z20:=Tryz.sizeOf20
 v20:=Tryz.zeroValue20
 t22:=Tryz.underlying151
 a22:=Tryz.isAgg151
 z22:=Tryz.sizeOf151
 v22:=Tryz.zeroValue151
theorem kW (n:Nat) (hn:0<n) (hn':n≤68719476736) (s:St) :
  ACalls Pg Fn337.n [.sl [] true,.int n] s fun av s'=>av=.row s.c 3 0 0∧s'=AM.newRow 3 [] s:=by
 intro G w vs hS hv
 obtain ⟨hv1,hv2⟩:=hv
 match vs,hv1,hv2 with
 | [x,y],_,hv2=>
  have hx:=hv2 0 _ x rfl rfl
  have hy:=bE (hv2 1 _ y rfl rfl)
  subst hy
  cases hx with
  | sl _ _ a cap b o sz f hc hf ha hz hm hrep hb=>
   have hcap:cap=0:=hf rfl
   subst hcap
   have hinfo:(Tryz.prog.info? 235).map (fun i=>(i.size,i.bytes,i.zero.map (·.cells.size)))=some (3,40,some 3):=by kernel_rfl
   obtain ⟨i0,hi0,hi1⟩:=Option.map_eq_some_iff.1 hinfo
   injection hi1 with hsz hi1
   injection hi1 with hby hz1
   obtain ⟨z,hz0,hz1⟩:=Option.map_eq_some_iff.1 hz1
   unfold CallOk
   rw [show [Value.slice a ([]:List (List AV)).length 0,Value.int IntKind.i64 (n:Int)].toArray=#[.slice a 0 0,.int .i64 (n:Int)] from rfl,Tryz.call337]
   have hcall:=Any8.slices_Grow_grow uL i0 z hi0 hz0 (by omega) a 0 0 n [] w (Nat.le_refl _) (by omega) (by rw [hby]; omega) (by omega) (by simp) (fun _=>rfl) (fun a' _ j v hj=>by simp at hj)
   refine hcall.mono fun e w' he=>?_
   obtain ⟨rfl,rfl⟩:=he
   have hSd:=hS.drew
   have hge:=grownCap_ge w (0+n) 0 (jw.t 25)
   have hTd:Stp G s w G s w.drew:=⟨.refl G,Nat.le_refl _,rfl,rfl,rfl,Nat.le_refl _,fun _ _ _=>rfl,fun _ _ h=>h⟩
   obtain ⟨h1,h2⟩:=fq (sz:=3) (cap:=grownCap w (0+n) 0 (jw.t 25)) (es:=[]) (C:=([]:List Value).toArray++Builtin.zeroCells z.cells (0+n-0)++Builtin.zeroCells z.cells (grownCap w (0+n) 0 (jw.t 25)-(0+n))) (e:=jw.t 25) (vs:=[]) hSd (by decide)
    (by simp [Builtin.zeroCells,hz1]; omega) (Nat.zero_le _) ⟨by simp,fun i x hx=>by simp at hx⟩ (fun j v hj=>by simp at hj)
   exact ⟨_,_,_,hTd.trans h2,h1,eI hSd (Nat.zero_le _) (Nat.zero_le _),rfl,rfl⟩
def fl {α:Type} (ls:List (List α)):List α:=ls.flatten
def tot {α:Type} (ls:List (List α)):Nat:=(fl ls).length
theorem qT {α:Type} {ls:List (List α)} {l:List α} {xs i} (h:ls=ls.take i++l::xs) (hi:i<ls.length):tot (ls.take (i+1))=tot (ls.take i)+l.length∧tot (ls.take i)+l.length≤tot ls∧fl (ls.take (i+1))=fl (ls.take i)++l:=by
 have h1:ls[i]=l:=by
  have:(ls.take i++l::xs)[i]?=some l:=by
   rw [List.getElem?_append_right (by simp; omega)]
   simp [Nat.min_eq_left (Nat.le_of_lt hi)]
  rw [←h] at this
  exact (List.getElem?_eq_some_iff.1 this).2
 have h2:ls.take (i+1)=ls.take i++[l]:=by rw [←List.take_append_getElem hi,h1]
 have h3:fl (ls.take (i+1))=fl (ls.take i)++l:=by rw [h2]; simp [fl]
 refine ⟨by unfold tot; rw [h3,List.length_append],?_,h3⟩
 have h4:fl ls=fl (ls.take i)++(l++fl xs):=by unfold fl; conv=>lhs; rw [h]; simp
 unfold tot; rw [h4]; simp
theorem mL (ls:List (List Wb.Bound)) (h0:0<tot ls) (hm:tot ls≤68719476736) :
  aG Pg Fn303.n [row (ls.map fun l=>[row (l.map Bound.cells)])] (row ((fl ls).map Bound.cells)):=by
 intro s
 refine ACalls.small fun hs=>?_
 have hlen:ls.length≤68719476736:=by simp at hs; exact hs.1
 refine Fn303.calls .frz ?_
 unfold Fn303.ac
 simp
 refine bK 11 Fn303.W0 ls (fun i r sl=>sl 3=.int (tot (ls.take i))) (by rfl) (by rfl) ?_ ?_ ?_
 ·simp [tot,fl]
 ·intro v c hv hc hI
  simp at hI
  simp [hv,hI]
  refine (kW (tot ls) h0 hm _).mono ?_
  rintro av s' hc' ⟨rfl,rfl⟩
  simp
  refine pV 27 Fn303.W1 ls c s.h (fun i r sl s'=>∃ g,c≤g∧g<s'.c∧sl 6=.row g 3 0 (tot (ls.take i))∧s'.h g=some (.row 3 ((fl (ls.take i)).map Bound.cells) .live none)) (by rfl) (by rfl) ?_ ?_ ?_
  ·simp [tot,fl]
   exact ⟨(Fr.refl s.h c).upd (Nat.le_refl _) (Nat.le_succ _),c,Nat.le_refl _,Nat.lt_succ_self _,rfl,by simp⟩
  ·intro v h c2 hv hF hI
   obtain ⟨g,hg,hgc,h6,hh⟩:=hI
   simp at h6
   have hfl:((fl ls).map Bound.cells).length=tot ls:=by rw [List.length_map]; rfl
   have hh':h g=some (.row 3 ((fl ls).map Bound.cells) .live none):=by simpa using hh
   simp [hv,h6,dx (s:=⟨h,c2⟩) hh' hfl,-dK]
   refine ay fun k hk=>?_
   rw [ad (by omega),hF.h k (by omega)]
  ·intro i l xs v h c2 hi hx hl hv hF hI
   obtain ⟨g,hg,hgc,h6,hh⟩:=hI
   simp at h6
   obtain ⟨h1,h2,h3⟩:=qT hl hi
   have hw:=ah (x:=(i:Int)+1) (by omega) (by omega)
   have hfl:((fl (ls.take i)).map Bound.cells).length=tot (ls.take i):=by rw [List.length_map]; rfl
   have hap:=ig (bytes:=40) (md:=.plain) (xs:=l.map Bound.cells) (b:=false) (s:=⟨h,c2⟩) (by simp) hh hfl (by decide) (by decide) (by decide) (fun e he=>by
    obtain ⟨b,_,rfl⟩:=List.mem_map.1 he; rfl) (by simp; omega)
   simp [hv,hi,hx,h6,hap,hw,h1,h3]
   exact ⟨(hF.upd hg (Nat.le_refl _)).upd hF.c (Nat.le_succ _),c2,hF.c,Nat.lt_succ_self _,rfl,by simp⟩
 ·intro i l xs v c hi hx hl hv hc hI
  simp at hI
  obtain ⟨h1,h2,h3⟩:=qT hl hi
  have hw:=ah (x:=(i:Int)+1) (by omega) (by omega)
  have hw2:=ah (x:=(tot (ls.take i):Int)+l.length) (by omega) (by omega)
  have h0:¬((tot (ls.take i):Int)+l.length<0):=by omega
  simp [hv,hi,hx,hI,hw2,h0,hw,h1]
  omega
end Go.Proofs.YtjhogglgkjcacaaGreat
set_option maxRecDepth 20000
set_option maxHeartbeats 4000000
namespace Go.Proofs.YtjhogglgkjcacaaGreat
open Go.AM Go.Wb
theorem _root_.Go.AM.ACalls.at {P:Program} {f:FuncId} {args:List AV} {v:AV} {h:Heap} {c:Nat} {K:AV→St→Prop} (hp:ACalls P f args ⟨h,c⟩ fun av s'=>av=v∧s'.h=h) (hk:∀ c',c≤c'→K v ⟨h,c'⟩):ACalls P f args ⟨h,c⟩ K:=
 ACalls.quiet (R:=fun av=>av=v) hp fun _ c' e hc=>by subst e; exact hk c' hc
def pT {α:Type} (f:Nat) (a b:List AV) (av:α→AV) (h:Heap) (c:Nat) (p:α→Bool) (l:List α):Prop:=
 ∀ x∈l,∀ c',c≤c'→ACalls Pg f (a++av x::b) ⟨h,c'⟩ fun r s'=>r=.bool (p x)∧s'.h=h
theorem rI {α:Type} (p:α→Bool) (l:List α):decide (0≤aK p l 0)=l.any p:=by
 have:=gp p l 0 (Int.le_refl 0)
 cases h:l.any p
 ·simp only [h,Bool.false_eq_true,iff_false] at this; simp; omega
 ·simp only [h,iff_true] at this; simpa using this
theorem aR {α:Type} {l xs:List α} {x:α} {i:Nat} (h:l=l.take i++x::xs):x∈l:=by rw [h]; simp
theorem ml (l:List Wb.Array) (f:Nat) (a b:List AV) (p:Wb.Array→Bool) (h:Heap) (c:Nat) (hp:pT f a b Wb.Array.av h c p l) :
  ACalls Pg Fn153.n [row (l.map Array.cells),.fn (.func f) a b] ⟨h,c⟩ fun av s'=>av=.int (aK p l 0)∧s'.h=h:=by
 refine ACalls.small fun hs=>?_
 have hlen:l.length≤68719476736:=by simpa using hs.1.1
 refine Fn153.calls .frz ?_
 unfold Fn153.ac
 simp
 refine bK 8 Fn153.W0 l (fun i r sl=>aK p l 0=aK p r i) (by rfl) (by rfl) ?_ ?_ ?_
 ·simp
 ·intro v c1 hv hc hI
  simp [hv,hI,aK]
 ·intro i x xs v c1 hi hx hl hv hc hI
  have hw:=ah (x:=(i:Int)+1) (by omega) (by omega)
  simp [hv,hi,hx,Array.cells]
  refine ACalls.at (hp x (aR hl) c1 hc) fun c2 hc2=>?_
  by_cases hpx:p x=true
  ·simp [hpx,hI,aK]
  ·simp [hpx,hv,hw,hI,aK]; omega
theorem ui (l:List Wb.Array) (f:Nat) (a b:List AV) (p:Wb.Array→Bool) (h:Heap) (c:Nat) (hp:pT f a b Wb.Array.av h c p l) :
  ACalls Pg Fn232.n [row (l.map Array.cells),.fn (.func f) a b] ⟨h,c⟩ fun av s'=>av=.bool (l.any p)∧s'.h=h:=by
 refine Fn232.calls .frz ?_
 unfold Fn232.ac
 simp
 refine ACalls.at (ml l f a b p h c hp) fun c2 hc2=>?_
 simp [rI]
def bX (A:List Wb.Array) (key:ByteArray):Int:=aK (fun a=>decide (a.key=key)) A 0
theorem uh (x:Wb.Array) (key:ByteArray) (h:Heap) (c g:Nat) (hg:h g=some (.row 1 [[.str key]] .live none)) (hgc:g<c) :
  ACalls Pg Fn187.n [x.av,.ptr g 0 0] ⟨h,c⟩ fun av s'=>av=.bool (decide (x.key=key))∧s'.h=h:=by
 refine Fn187.calls .frz ?_
 unfold Fn187.ac
 have hne:g≠c:=by omega
 simp [Array.av,Array.cells,hg,hne]
theorem pJ (p:Wb.Prog) (key:ByteArray):aG Pg Fn117.n [p.av,.str key] (.int (bX p.arrays key)):=by
 intro s
 refine Fn117.calls .frz ?_
 unfold Fn117.ac
 simp [Prog.av]
 refine ACalls.at (ml p.arrays _ _ _ (fun a=>decide (a.key=key)) _ _ ?_) fun c2 hc2=>?_
 ·intro x hx c' hc'
  exact uh x key _ c' _ (by simp) (by omega)
 ·simp [bX]
theorem tQ (x:Wb.Array) (key:ByteArray) (h:Heap) (c g:Nat) (hg:h g=some (.row 1 [[.str key]] .live none)) (hgc:g<c) :
  ACalls Pg Fn154.n [x.av,.ptr g 0 0] ⟨h,c⟩ fun av s'=>av=.bool (decide (x.key=key))∧s'.h=h:=by
 refine Fn154.calls .frz ?_
 unfold Fn154.ac
 have hne:g≠c:=by omega
 simp [Array.av,Array.cells,hg,hne]
theorem oc (p:Wb.Prog) (key:ByteArray):aG Pg Fn67.n [p.av,.str key] (.int (bX p.arrays key)):=by
 intro s
 refine Fn67.calls .frz ?_
 unfold Fn67.ac
 simp [Prog.av]
 refine ACalls.at (ml p.arrays _ _ _ (fun a=>decide (a.key=key)) _ _ ?_) fun c2 hc2=>?_
 ·intro x hx c' hc'
  exact tQ x key _ c' _ (by simp) (by omega)
 ·simp [bX]
def cU (f:Wb.Form):Bool:=decide (f.const=0)&&decide ((f.terms.length:Int)=0)
theorem pQ (f:Wb.Form):aG Pg Fn336.n [f.av] (.bool (cU f)):=by
 intro s
 refine Fn336.calls .frz ?_
 unfold Fn336.ac
 by_cases h:f.const=0 <;> simp [Form.av,Form.cells,cU,h]
theorem jG (f:Wb.Form):aG Pg Fn308.n [f.av] (.bool (cU f)):=by
 intro s
 refine Fn308.calls .frz ?_
 unfold Fn308.ac
 by_cases h:f.const=0 <;> simp [Form.av,Form.cells,cU,h]
theorem Expr.cells_mk (op n:Int) (form:Wb.Form) (array:ByteArray) (subs:List Wb.Form) (args:List Wb.Expr) :
  (Wb.Expr.mk op n form array subs args).cells=[.int op,.int n,.int form.const,row (form.terms.map Term.cells),.str array,row (subs.map Form.cells),row (args.map Expr.cells)]:=by
 rw [Expr.cells,Expr.list_map]
theorem Step.cells_mk (kind:Int) (name:ByteArray) (low high:List Wb.Bound) (conds:List Wb.Form) (body:List Wb.Step) (array:ByteArray) (subs:List Wb.Form) (op n:Int) (form:Wb.Form) (ea:ByteArray) (es:List Wb.Form) (args:List Wb.Expr) :
  (Wb.Step.mk kind name low high conds body array subs (.mk op n form ea es args)).cells=[.int kind,.str name,row (low.map Bound.cells),row (high.map Bound.cells),row (conds.map Form.cells),row (body.map Step.cells),.str array,row (subs.map Form.cells),
   .int op,.int n,.int form.const,row (form.terms.map Term.cells),.str ea,row (es.map Form.cells),row (args.map Expr.cells)]:=by
 rw [Step.cells,Expr.cells_mk,Step.list_map]; rfl
def bR:ByteArray:=⟨#[]⟩
def cH:Wb.Expr→Bool
 | .mk op n form array subs args=>decide (op=0)&&decide (n=0)&&cU form&&decide (array=bR)&&decide ((subs.length:Int)=0)&&decide ((args.length:Int)=0)
theorem uw (e:Wb.Expr):aG Pg Fn302.n [e.av] (.bool (cH e)):=by
 intro s
 obtain ⟨op,n,form,array,subs,args⟩:=e
 refine Fn302.calls .frz ?_
 unfold Fn302.ac
 by_cases h1:op=0
 case neg=>simp [Expr.av,Expr.cells_mk,cH,h1]
 by_cases h2:n=0
 case neg=>simp [Expr.av,Expr.cells_mk,cH,h1,h2]
 simp [Expr.av,Expr.cells_mk,h1,h2]
 refine ACalls.pure (pQ form) fun c1 hc1=>?_
 cases h3:cU form
 ·simp [cH,h1,h2,h3]
 by_cases h4:array=bR
 case neg=>have h4':=h4; unfold bR at h4'; simp [cH,h1,h2,h3,h4,h4']
 by_cases h5:subs=[]
 ·simp [cH,h1,h2,h3,h4,h5,bR]
 ·simp [cH,h1,h2,h3,h4,h5,bR]
theorem ut (e:Wb.Expr):aG Pg Fn245.n [e.av] (.bool (cH e)):=by
 intro s
 refine ACalls.small fun hs=>?_
 obtain ⟨op,n,form,array,subs,args⟩:=e
 have hl1:subs.length≤68719476736∧args.length≤68719476736:=by
  simp [Expr.av,Expr.cells_mk] at hs
  omega
 refine Fn245.calls .frz ?_
 unfold Fn245.ac
 by_cases h1:op=0
 case neg=>simp [Expr.av,Expr.cells_mk,cH,h1]
 by_cases h2:n=0
 case neg=>simp [Expr.av,Expr.cells_mk,cH,h1,h2]
 simp [Expr.av,Expr.cells_mk,h1,h2]
 refine ACalls.pure (jG form) fun c1 hc1=>?_
 cases h3:cU form
 ·simp [cH,h1,h2,h3]
 by_cases h4:array=bR
 case neg=>have h4':=h4; unfold bR at h4'; simp [cH,h1,h2,h3,h4,h4']
 have hw:=ah (x:=(subs.length:Int)+(args.length:Int)) (by omega) (by omega)
 simp [cH,h1,h2,h3,h4,bR,hw]
 by_cases h5:subs=[] <;> by_cases h6:args=[] <;> simp [h5,h6]
 ·have:=List.length_pos_iff.2 h5; omega
def aN (op n:Int) (form:Wb.Form) (array:ByteArray) (subs:List Wb.Form) (args:List Wb.Expr):Bool:=
 if op=1 then decide (args=[])&&cU form&&(decide (array=bR)&&decide (subs=[]))
 else if op=2 then decide (args=[])&&decide (n=0)&&(decide (array=bR)&&decide (subs=[]))
 else if op=3 then decide (args=[])&&decide (n=0)&&cU form
 else decide ((args.length:Int)=2)&&decide (n=0)&&cU form&&(decide (array=bR)&&decide (subs=[]))
theorem uy (op n:Int) (form:Wb.Form) (array:ByteArray) (subs:List Wb.Form) (args:List Wb.Expr):aG Pg Fn338.n [(Wb.Expr.mk op n form array subs args).av] (.bool (aN op n form array subs args)):=by
 intro s
 refine Fn338.calls .frz ?_
 unfold Fn338.ac
 simp [Expr.av,Expr.cells_mk]
 have hpost:∀ {h:Heap},retH s.c s.h (upd h s.c none)=retH s.c s.h h:=fun {h}=>jW (Nat.le_refl _)
 by_cases h1:array=⟨#[]⟩
 all_goals by_cases h2:subs=[]
 all_goals by_cases h3:op=1
 all_goals by_cases h4:op=2
 all_goals by_cases h5:op=3
 all_goals by_cases h6:args=[]
 all_goals by_cases h7:n=0
 all_goals by_cases h8:(args.length:Int)=2
 all_goals first | (exfalso; subst h3; exact absurd h4 (by decide)) | (exfalso; subst h3; exact absurd h5 (by decide)) | (exfalso; subst h4; exact absurd h5 (by decide)) | (exfalso; rw [h6] at h8; exact absurd h8 (by decide)) | skip
 all_goals simp [h1,h2,h3,h4,h5,h6,h7,h8,aN,bR]
 all_goals (refine ACalls.pure (pQ form) fun c1 hc1=>?_; cases hf:cU form <;> simp [hf,h1,h2])
def bD (kind:Int) (name:ByteArray) (low high:List Wb.Bound) (conds:List Wb.Form) (body:List Wb.Step) (array:ByteArray) (subs:List Wb.Form) (expr:Wb.Expr):Bool:=
 if kind=1 then decide (conds=[])&&(decide (array=bR)&&decide (subs=[])&&cH expr)
 else if kind=2 then decide (name=bR)&&(decide (low=[])&&decide (high=[]))&&(decide (array=bR)&&decide (subs=[])&&cH expr)
 else (decide (low=[])&&decide (high=[]))&&decide (conds=[])&&decide (body=[])
theorem uk (kind:Int) (name:ByteArray) (low high:List Wb.Bound) (conds:List Wb.Form) (body:List Wb.Step) (array:ByteArray) (subs:List Wb.Form) (expr:Wb.Expr) :
  aG Pg Fn234.n [(Wb.Step.mk kind name low high conds body array subs expr).av] (.bool (bD kind name low high conds body array subs expr)):=by
 intro s
 obtain ⟨op,n,form,ea,es,args⟩:=expr
 have hE:=uw (.mk op n form ea es args)
 rw [Expr.av,Expr.cells_mk] at hE
 refine Fn234.calls .frz ?_
 unfold Fn234.ac
 simp [Step.av,Step.cells_mk]
 by_cases hl:low=[]∧high=[]
 case neg=>
  by_cases h2:low=[]
  all_goals first | (have h3:¬high=[]:=fun h=>hl ⟨h2,h⟩; simp [h2,h3]) | simp [h2]
  all_goals by_cases h4:array=⟨#[]⟩
  all_goals by_cases h5:subs=[]
  all_goals first | (simp [h4,h5]; refine ACalls.pure hE fun c1 hc1=>?_; cases hf:cH (.mk op n form ea es args)) | skip
  all_goals by_cases h6:kind=1
  all_goals by_cases h7:kind=2
  all_goals first | (exfalso; subst h6; exact absurd h7 (by decide)) | skip
  all_goals by_cases h8:conds=[]
  all_goals by_cases h9:name=⟨#[]⟩
  all_goals simp [bD,bR,h2,h4,h5,h6,h7,h8,h9, *]
 case pos=>
  obtain ⟨h2,h3⟩:=hl
  simp [h2,h3]
  by_cases h4:array=⟨#[]⟩
  all_goals by_cases h5:subs=[]
  all_goals first | (simp [h4,h5]; refine ACalls.pure hE fun c1 hc1=>?_; cases hf:cH (.mk op n form ea es args)) | skip
  all_goals by_cases h6:kind=1
  all_goals by_cases h7:kind=2
  all_goals first | (exfalso; subst h6; exact absurd h7 (by decide)) | skip
  all_goals by_cases h8:conds=[]
  all_goals by_cases h9:name=⟨#[]⟩
  all_goals by_cases h10:body=[]
  all_goals simp [bD,bR,h2,h3,h4,h5,h6,h7,h8,h9,h10, *]
end Go.Proofs.YtjhogglgkjcacaaGreat
set_option maxRecDepth 20000
set_option maxHeartbeats 4000000
namespace Go.Proofs.YtjhogglgkjcacaaGreat
open Go.AM Go.Wb
def dn (L:List ByteArray):List Wb.Term→Int
 | []=>0
 | t::ts=>if inL t.name L=true then dn L ts else 16
def bP (f:Wb.Form) (L:List ByteArray):Int:=if aL f=0 then dn L f.terms else aL f
def bH (L:List ByteArray):List Wb.Form→Int
 | []=>0
 | f::fs=>if bP f L=0 then bH L fs else bP f L
theorem jF (c:AV) (f:Wb.Form) (L:List ByteArray) (hc:norm c=c):aG Pg Fn304.n [c,f.av,row (am L)] (.int (bP f L)):=by
 intro s
 refine ACalls.small fun hs=>?_
 have hlen:f.terms.length≤68719476736:=by simp [Form.av,Form.cells] at hs; exact hs.2.1.1
 refine Fn304.calls .frz ?_
 unfold Fn304.ac
 simp [Form.av,Form.cells]
 refine ACalls.pure (oe f) fun c1 hc1=>?_
 by_cases h1:aL f=0
 case neg=>simp [h1,bP]
 simp [h1]
 refine bq 18 Fn304.W0 f.terms (fun i r sl s'=>dn L f.terms=dn L r) (by rfl) (by rfl) ?_ ?_ ?_
 ·simp
 ·intro v h c hv hF hI
  simp [hv,bP,h1,hI,dn]
  exact ay fun k hk=>by rw [hF.h k (by omega),ad (by omega)]
 ·intro i t ts v h c hi hx hl hv hF hI
  have hw:=ah (x:=(i:Int)+1) (by omega) (by omega)
  have hcc:=hF.c
  simp [hv,hi,hx,Term.cells]
  refine ACalls.pure (er L t.name) fun c2 hc2=>?_
  have hres:∀ {b},retH s.c s.h (upd h c b)=s.h:=fun {b}=>ay fun k hk=>by rw [ad (by omega),hF.h k (by omega),ad (by omega)]
  cases h3:inL t.name L
  ·simp [bP,h1,hI,dn,h3,hres]
  ·simp [hw,hv,hI,dn,h3]
   exact hF.upd hcc (by omega)
theorem jE (f:Wb.Form) (L:List ByteArray):aG Pg Fn247.n [f.av,row (am L)] (.int (bP f L)):=by
 intro s
 refine ACalls.small fun hs=>?_
 have hlen:f.terms.length≤68719476736:=by simp [Form.av,Form.cells] at hs; exact hs.1.1
 refine Fn247.calls .frz ?_
 unfold Fn247.ac
 simp [Form.av,Form.cells]
 refine ACalls.pure (nY f) fun c1 hc1=>?_
 by_cases h1:aL f=0
 case neg=>simp [h1,bP]
 simp [h1]
 refine bq 16 Fn247.W0 f.terms (fun i r sl s'=>dn L f.terms=dn L r) (by rfl) (by rfl) ?_ ?_ ?_
 ·simp
 ·intro v h c hv hF hI
  simp [hv,bP,h1,hI,dn]
  exact ay fun k hk=>by rw [hF.h k (by omega),ad (by omega)]
 ·intro i t ts v h c hi hx hl hv hF hI
  have hw:=ah (x:=(i:Int)+1) (by omega) (by omega)
  have hcc:=hF.c
  simp [hv,hi,hx,Term.cells]
  refine ACalls.pure (er L t.name) fun c2 hc2=>?_
  have hres:∀ {b},retH s.c s.h (upd h c b)=s.h:=fun {b}=>ay fun k hk=>by rw [ad (by omega),hF.h k (by omega),ad (by omega)]
  cases h3:inL t.name L
  ·simp [bP,h1,hI,dn,h3,hres]
  ·simp [hw,hv,hI,dn,h3]
   exact hF.upd hcc (by omega)
def jB (A:List Wb.Array) (key:ByteArray):List Int:=match A[(bX A key).toNat]? with
 | some a=>a.sizes
 | none=>[]
def bF (A:List Wb.Array) (key:ByteArray) (subs:List Wb.Form) (L:List ByteArray):Int:=
 if bX A key<0 then 8 else if (jB A key).length≠subs.length then 3 else bH L subs
theorem iu {A:List Wb.Array} {key:ByteArray} (h:¬bX A key<0):∃ (i:Nat) (a:Wb.Array) (hi:i<A.length),bX A key=i∧A[i]=a∧a.key=key∧jB A key=a.sizes:=by
 obtain ⟨a,h1,h2,h3⟩:=qf (fun a:Wb.Array=>decide (a.key=key)) A 0 (Int.le_refl 0) (by unfold bX at h; omega)
 have h0:aK (fun a:Wb.Array=>decide (a.key=key)) A 0-0=bX A key:=by unfold bX; omega
 rw [h0] at h2
 have hi:=(List.getElem?_eq_some_iff.1 h2).1
 refine ⟨(bX A key).toNat,a,hi,by omega,(List.getElem?_eq_some_iff.1 h2).2,by simpa using h3,?_⟩
 unfold jB
 rw [h2]
def dq (h:Heap) (g:Nat) (A:List Wb.Array) (S:List Wb.Step) (gm:Nat) (n:Int):Prop:=h g=some (.row 4 [[row (A.map Array.cells),row (S.map Step.cells),.map gm,.int n]] .live none)
theorem pP (A:List Wb.Array) (S:List Wb.Step) (gm:Nat) (n:Int) (g:Nat) (key:ByteArray) (subs:List Wb.Form) (L:List ByteArray) (h0:Heap) (c0:Nat) (hck:dq h0 g A S gm n) (hg:g<c0) :
  ACalls Pg Fn305.n [.ptr g 0 0,.str key,row (subs.map Form.cells),row (am L)] ⟨h0,c0⟩ fun av s'=>av=.int (bF A key subs L)∧s'.h=h0:=by
 unfold dq at hck
 refine ACalls.small fun hs=>?_
 have hlen:subs.length≤68719476736:=by simp at hs; exact hs.1.1
 refine Fn305.calls .frz ?_
 unfold Fn305.ac
 simp [hck]
 refine ACalls.pure (pJ ⟨A,S⟩ key) fun c1 hc1=>?_
 by_cases h1:bX A key<0
 ·simp [h1,bF]
 obtain ⟨i,a,hi,h2,h3,h4,h5⟩:=iu h1
 have hni:¬((i:Int)<0):=by omega
 simp [h2,hck,hi,h3,Array.cells,be,hni]
 by_cases h6:(a.sizes.length:Int)=subs.length
 case neg=>
  have h6':a.sizes.length≠subs.length:=by omega
  simp [h6,h6',bF,h1,h5]
 have h6':a.sizes.length=subs.length:=by omega
 simp [h6']
 refine bq 38 Fn305.W0 subs (fun i r sl s'=>bH L subs=bH L r) (by rfl) (by rfl) ?_ ?_ ?_
 ·simp
 ·intro v h c hv hF hI
  simp [hv,bF,h1,h5,h6',hI,bH]
  exact ay fun k hk=>hF.h k (by omega)
 ·intro i f fs v h c hi hx hl hv hF hI
  have hw:=ah (x:=(i:Int)+1) (by omega) (by omega)
  have hcc:=hF.c
  have hres:∀ {b},retH c0 h0 (upd h c b)=h0:=fun {b}=>ay fun k hk=>by rw [ad (by omega),hF.h k (by omega)]
  simp [hv,hi,hx,Form.cells]
  refine ACalls.pure (jF (.ptr g 0 0) f L rfl) fun c2 hc2=>?_
  by_cases h7:bP f L=0
  ·simp [h7,hw,hv,hI,bH]
   exact hF.upd hcc (by omega)
  ·simp [h7,bF,h1,h5,h6',hI,bH,hres]
def dP (h:Heap) (g:Nat) (A:List Wb.Array) (S:List Wb.Step) (keys:AV) (n:Int):Prop:=h g=some (.row 4 [[row (A.map Array.cells),row (S.map Step.cells),keys,.int n]] .live none)
theorem pO (A:List Wb.Array) (S:List Wb.Step) (gm:AV) (n:Int) (g:Nat) (key:ByteArray) (subs:List Wb.Form) (L:List ByteArray) (h0:Heap) (c0:Nat) (hck:dP h0 g A S gm n) (hg:g<c0) :
  ACalls Pg Fn248.n [.ptr g 0 0,.str key,row (subs.map Form.cells),row (am L)] ⟨h0,c0⟩ fun av s'=>av=.int (bF A key subs L)∧s'.h=h0:=by
 unfold dP at hck
 refine ACalls.small fun hs=>?_
 have hlen:subs.length≤68719476736:=by simp at hs; exact hs.1.1
 refine Fn248.calls .frz ?_
 unfold Fn248.ac
 simp [hck]
 refine ACalls.pure (oc ⟨A,S⟩ key) fun c1 hc1=>?_
 by_cases h1:bX A key<0
 ·simp [h1,bF]
 obtain ⟨i,a,hi,h2,h3,h4,h5⟩:=iu h1
 have hni:¬((i:Int)<0):=by omega
 simp [h2,hck,hi,h3,Array.cells,be,hni]
 by_cases h6:a.sizes.length=subs.length
 case neg=>
  have h6':¬(subs.length:Int)=a.sizes.length:=by omega
  simp [h6,h6',bF,h1,h5]
 simp [h6]
 refine bq 36 Fn248.W0 subs (fun i r sl s'=>bH L subs=bH L r) (by rfl) (by rfl) ?_ ?_ ?_
 ·simp
 ·intro v h c hv hF hI
  simp [hv,bF,h1,h5,h6,hI,bH]
  exact ay fun k hk=>hF.h k (by omega)
 ·intro i f fs v h c hi hx hl hv hF hI
  have hw:=ah (x:=(i:Int)+1) (by omega) (by omega)
  have hcc:=hF.c
  have hres:∀ {b},retH c0 h0 (upd h c b)=h0:=fun {b}=>ay fun k hk=>by rw [ad (by omega),hF.h k (by omega)]
  simp [hv,hi,hx,Form.cells]
  refine ACalls.pure (jE f L) fun c2 hc2=>?_
  by_cases h7:bP f L=0
  ·simp [h7,hw,hv,hI,bH]
   exact hF.upd hcc (by omega)
  ·simp [h7,bF,h1,h5,h6,hI,bH,hres]
end Go.Proofs.YtjhogglgkjcacaaGreat
set_option maxRecDepth 20000
set_option maxHeartbeats 4000000
namespace Go.Proofs.YtjhogglgkjcacaaGreat
open Go.AM Go.Wb
mutual
def aE (A:List Wb.Array) (L:List ByteArray) (d:Int):Wb.Expr→Int
 | .mk op n form array subs args=>
  if 12<d then 2 else if ¬(1≤op∧op≤6) then 4 else if aN op n form array subs args=false then 3 else if ¬(0≤n∧n≤1000002) then 1
  else if op=2 then bP form L else if op=3 then bF A array subs L else aY A L (d+1) args
def aY (A:List Wb.Array) (L:List ByteArray) (d:Int):List Wb.Expr→Int
 | []=>0
 | e::es=>if aE A L d e=0 then aY A L d es else aE A L d e
end
theorem Expr.av_mk (op n:Int) (form:Wb.Form) (array:ByteArray) (subs:List Wb.Form) (args:List Wb.Expr) :
  (Wb.Expr.mk op n form array subs args).av=.agg [.int op,.int n,.int form.const,row (form.terms.map Term.cells),.str array,row (subs.map Form.cells),row (args.map Expr.cells)]:=by
 rw [Expr.av,Expr.cells_mk]
theorem ol (f:Wb.Form) (h:cU f=true):aL f=0∧f.terms=[]:=by
 simp only [cU,Bool.and_eq_true,decide_eq_true_eq] at h
 obtain ⟨h1,h2⟩:=h
 have h3:f.terms=[]:=List.length_eq_zero_iff.1 (by omega)
 exact ⟨by simp [aL,h1,h3,bp],h3⟩
theorem rf (f:Wb.Form) (L:List ByteArray) (h:cU f=true):bP f L=0:=by
 obtain ⟨h1,h2⟩:=ol f h
 simp [bP,h1,h2,dn]
theorem cE {op n:Int} {form:Wb.Form} {array:ByteArray} {subs:List Wb.Form} {args:List Wb.Expr} (h:aN op n form array subs args=true) (ho:op=1∨op=2∨op=3):args=[]:=by
 unfold aN at h
 rcases ho with rfl | rfl | rfl <;> simp at h
 ·exact h.1.1
 ·exact h.1.1
 ·exact h.1.1
theorem ux (A:List Wb.Array) (S:List Wb.Step) (gm:Nat) (n0:Int) (g:Nat) (L:List ByteArray):∀ (N:Nat) (e:Wb.Expr) (d:Int) (h0:Heap) (c0:Nat),14≤d+N → -1000≤d→d≤13→dq h0 g A S gm n0→g<c0 →
  ACalls Pg Fn306.n [.ptr g 0 0,e.av,.int d,row (am L)] ⟨h0,c0⟩ fun av s'=>av=.int (aE A L d e)∧s'.h=h0:=by
 intro N
 induction N with
 | zero=>intro e d h0 c0 hN hd hd'; omega
 | succ N ih=>
  intro e d h0 c0 hN hd hd' hck hg
  obtain ⟨op,n,form,array,subs,args⟩:=e
  have hex:=uy op n form array subs args
  rw [Expr.av_mk] at hex ⊢
  refine ACalls.small fun hs=>?_
  have hlen:args.length≤68719476736:=by simp at hs; exact hs.1.2.2.1
  refine Fn306.calls .frz ?_
  unfold Fn306.ac
  have hne:¬c0=g:=by omega
  have hne':¬g=c0:=by omega
  by_cases h1:12<d
  ·simp [h1,aE]
  simp [h1]
  refine ACalls.pure (d6 _ _ _) fun c1 hc1=>?_
  by_cases h2:1≤op∧op≤6
  case neg=>simp [h1,h2,aE]
  simp [h2]
  refine ACalls.pure hex fun c2 hc2=>?_
  cases h3:aN op n form array subs args
  ·simp [h1,h2,h3,aE]
  simp
  refine ACalls.pure (d6 _ _ _) fun c3 hc3=>?_
  by_cases h4:0≤n∧n≤1000002
  case neg=>simp [h1,h2,h3,h4,aE]
  simp [h4]
  refine ACalls.pure (jF (.ptr g 0 0) form L rfl) fun c4 hc4=>?_
  by_cases h5:bP form L=0
  case neg=>
   have h6:op=2:=by
    apply Classical.byContradiction
    intro h6
    apply h5
    apply rf
    simp only [aN] at h3
    repeat' split at h3
    all_goals simp_all
   simp [h5,h1,h2,h3,h4,h6,aE]
   subst h6
   simp [aE,h1,h3,h4]
  have hfin:bF A array subs L=0∨op≠3→aE A L d (.mk op n form array subs args)=aY A L (d+1) args:=by
   intro hc
   simp only [aE,h1,h2,h3,h4,if_false]
   by_cases h6:op=2
   ·have:=cE h3 (by omega); subst this; simp [h6,h5,aY]
   ·by_cases h7:op=3
    ·have:=cE h3 (by omega); subst this
     rcases hc with hc | hc
     ·simp [h7,hc,aY]
     ·exact absurd h7 hc
    ·simp [h6,h7]
  have hck':∀ {h:Heap} {c:Nat} {b:Option Body},Fr c4 (upd h0 c0 b) h c→dq h g A S gm n0:=by
   intro h c b hF
   unfold dq
   rw [hF.h g (by omega),ad (by omega)]
   exact hck
  by_cases h6:op=3
  case neg=>
   simp [h5,h6]
   refine bq 55 Fn306.W0 args (fun i r sl s'=>aY A L (d+1) args=aY A L (d+1) r) (by rfl) (by rfl) ?_ ?_ ?_
   ·simp
   ·intro v h c hv hF hI
    simp [hv,hfin (.inr h6),hI,aY]
    exact ay fun k hk=>by rw [hF.h k (by omega),ad (by omega)]
   ·intro i e es v h c hi hx hl hv hF hI
    have hw:=ah (x:=(i:Int)+1) (by omega) (by omega)
    have hw2:=ah (x:=d+1) (by omega) (by omega)
    have hcc:=hF.c
    have hres:∀ {b},retH c0 h0 (upd h c b)=h0:=fun {b}=>ay fun k hk=>by rw [ad (by omega),hF.h k (by omega),ad (by omega)]
    have hF2:∀ {b:Option Body} {c':Nat},c≤c'→Fr c4 (upd h0 c0 (some (.row 7 [[.int op,.int n,.int form.const,row (form.terms.map Term.cells),.str array,row (subs.map Form.cells),row (args.map Expr.cells)]] .live none))) (upd h c b) c':=fun hc=>hF.upd hcc hc
    have hce:=ih e (d+1) (upd h c (some (.row 7 [e.cells] .live none))) (c+1) (by omega) (by omega) (by omega) (hck' (hF2 (c':=c+1) (by omega))) (by omega)
    obtain ⟨op',n',form',array',subs',args'⟩:=e
    rw [Expr.av_mk,Expr.cells_mk] at hce
    simp [hv,hi,hx,Expr.cells_mk,hw2]
    refine ACalls.at hce fun c5 hc5=>?_
    by_cases h9:aE A L (d+1) (.mk op' n' form' array' subs' args')=0
    ·simp [h9,hw,hv,hI,aY]
     exact hF2 (by omega)
    ·simp [h9,hfin (.inr h6),hI,aY,hres]
  case pos=>
   subst h6
   simp [h5]
   refine ACalls.at (pP A S gm n0 g array subs L _ c4 (hck' (Fr.le (Nat.le_refl _))) (by omega)) fun c5 hc5=>?_
   by_cases h6:bF A array subs L=0
   case neg=>simp [h6,h1,h3,h4,aE]
   simp [h6]
   have hck'':∀ {h:Heap} {c:Nat} {b:Option Body},Fr c5 (upd h0 c0 b) h c→dq h g A S gm n0:=fun hF=>hck' ⟨by have:=hF.c; omega,fun k hk=>hF.h k (by omega)⟩
   refine bq 55 Fn306.W0 args (fun i r sl s'=>aY A L (d+1) args=aY A L (d+1) r) (by rfl) (by rfl) ?_ ?_ ?_
   ·simp
   ·intro v h c hv hF hI
    simp [hv,hfin (.inl h6),hI,aY]
    exact ay fun k hk=>by rw [hF.h k (by omega),ad (by omega)]
   ·intro i e es v h c hi hx hl hv hF hI
    have hw:=ah (x:=(i:Int)+1) (by omega) (by omega)
    have hw2:=ah (x:=d+1) (by omega) (by omega)
    have hcc:=hF.c
    have hres:∀ {b},retH c0 h0 (upd h c b)=h0:=fun {b}=>ay fun k hk=>by rw [ad (by omega),hF.h k (by omega),ad (by omega)]
    have hF2:∀ {b:Option Body} {c':Nat},c≤c'→Fr c5 (upd h0 c0 (some (.row 7 [[.int 3,.int n,.int form.const,row (form.terms.map Term.cells),.str array,row (subs.map Form.cells),row (args.map Expr.cells)]] .live none))) (upd h c b) c':=fun hc=>hF.upd hcc hc
    have hce:=ih e (d+1) (upd h c (some (.row 7 [e.cells] .live none))) (c+1) (by omega) (by omega) (by omega) (hck'' (hF2 (c':=c+1) (by omega))) (by omega)
    obtain ⟨op',n',form',array',subs',args'⟩:=e
    rw [Expr.av_mk,Expr.cells_mk] at hce
    simp [hv,hi,hx,Expr.cells_mk,hw2]
    refine ACalls.at hce fun c5 hc5=>?_
    by_cases h9:aE A L (d+1) (.mk op' n' form' array' subs' args')=0
    ·simp [h9,hw,hv,hI,aY]
     exact hF2 (by omega)
    ·simp [h9,hfin (.inl h6),hI,aY,hres]
end Go.Proofs.YtjhogglgkjcacaaGreat
set_option maxRecDepth 20000
set_option maxHeartbeats 4000000
namespace Go.Proofs.YtjhogglgkjcacaaGreat
open Go.AM Go.Wb
def bI (L:List ByteArray) (conds:List Wb.Form):Int:=if conds=[] then 8 else if (6:Int)<conds.length then 2 else bH L conds
def bv (L:List ByteArray):List Wb.Bound→Int
 | []=>0
 | b::bs=>if bP b.form L=0 then (if 1≤b.div∧b.div≤1000 then bv L bs else 1) else bP b.form L
def bu (A:List Wb.Array) (L:List ByteArray) (name:ByteArray) (low high:List Wb.Bound):Int:=
 if inL name L=true∨0≤bX A name then 6 else if low=[]∨high=[] then 8 else if (6:Int)<low.length∨(6:Int)<high.length then 2 else bv L (low++high)
theorem Step.av_mk (kind:Int) (name:ByteArray) (low high:List Wb.Bound) (conds:List Wb.Form) (body:List Wb.Step) (array:ByteArray) (subs:List Wb.Form) (op n:Int) (form:Wb.Form) (ea:ByteArray) (es:List Wb.Form) (args:List Wb.Expr) :
  (Wb.Step.mk kind name low high conds body array subs (.mk op n form ea es args)).av=.agg [.int kind,.str name,row (low.map Bound.cells),row (high.map Bound.cells),row (conds.map Form.cells),row (body.map Step.cells),.str array,row (subs.map Form.cells),
   .int op,.int n,.int form.const,row (form.terms.map Term.cells),.str ea,row (es.map Form.cells),row (args.map Expr.cells)]:=by
 rw [Step.av,Step.cells_mk]
theorem um (c:AV) (s:Wb.Step) (conds:List Wb.Form) (L:List ByteArray) (hc:norm c=c) (hs:∃ kind name low high body array subs expr,s=.mk kind name low high conds body array subs expr) :
  aG Pg Fn236.n [c,s.av,row (am L)] (.int (bI L conds)):=by
 obtain ⟨kind,name,low,high,body,array,subs,⟨op,n,form,ea,es,args⟩,rfl⟩:=hs
 rw [Step.av_mk]
 intro s
 refine ACalls.small fun hs=>?_
 have hlen:conds.length≤68719476736:=by simp at hs; omega
 refine Fn236.calls .frz ?_
 unfold Fn236.ac
 by_cases h1:conds=[]
 ·simp [h1,bI]
 simp [h1]
 by_cases h2:(6:Int)<conds.length
 ·simp [h1,h2,bI]
 simp [h2]
 refine bq 23 Fn236.W0 conds (fun i r sl s'=>bH L conds=bH L r) (by rfl) (by rfl) ?_ ?_ ?_
 ·simp
 ·intro v h c hv hF hI
  simp [hv,bI,h1,h2,hI,bH]
  exact ay fun k hk=>by rw [hF.h k (by omega),ad (by omega)]
 ·intro i f fs v h c hi hx hl hv hF hI
  have hw:=ah (x:=(i:Int)+1) (by omega) (by omega)
  have hcc:=hF.c
  have hres:∀ {b},retH s.c s.h (upd h c b)=s.h:=fun {b}=>ay fun k hk=>by rw [ad (by omega),hF.h k (by omega),ad (by omega)]
  simp [hv,hi,hx,Form.cells,hc]
  refine ACalls.pure (jF _ f L hc) fun c2 hc2=>?_
  by_cases h7:bP f L=0
  ·simp [h7,hw,hv,hI,bH]
   exact hF.upd hcc (by omega)
  ·simp [h7,bI,h1,h2,hI,bH,hres]
theorem ul (A:List Wb.Array) (S:List Wb.Step) (gm:Nat) (n0:Int) (g:Nat) (kind:Int) (name:ByteArray) (low high:List Wb.Bound) (conds:List Wb.Form) (body:List Wb.Step) (array:ByteArray) (subs:List Wb.Form) (expr:Wb.Expr) (L:List ByteArray)
  (h0:Heap) (c0:Nat) (hck:dq h0 g A S gm n0) (hg:g<c0) :
  ACalls Pg Fn235.n [.ptr g 0 0,(Wb.Step.mk kind name low high conds body array subs expr).av,row (am L)] ⟨h0,c0⟩ fun av s'=>av=.int (bu A L name low high)∧s'.h=h0:=by
 obtain ⟨op,n,form,ea,es,args⟩:=expr
 rw [Step.av_mk]
 unfold dq at hck
 have hne:¬c0=g:=by omega
 have hne':¬g=c0:=by omega
 refine Fn235.calls .frz ?_
 unfold Fn235.ac
 simp
 refine ACalls.pure (er L name) fun c1 hc1=>?_
 cases h1:inL name L
 case true=>simp [bu,h1]
 simp [hck,hne,hne']
 refine ACalls.pure (pJ ⟨A,S⟩ name) fun c2 hc2=>?_
 by_cases h2:0≤bX A name
 ·simp [bu,h1,h2]
 simp [h2,bsI,an]
 have hget:∀ (i:Nat) (x:List Wb.Bound) (hi:i<[low,high].length),[low,high][i]=x→([[row (low.map Bound.cells)],[row (high.map Bound.cells)]]:List (List AV))[i]?=some [row (x.map Bound.cells)]:=by
  intro i x hi hx
  show ([low,high].map fun l=>[row (l.map Bound.cells)])[i]?=_
  rw [List.getElem?_map,List.getElem?_eq_getElem hi,hx]; rfl
 refine bK 36 Fn235.W0 [low,high] (fun i r sl=>(low=[]∨high=[])↔∃ l∈r,l=[]) (by rfl) (by rfl) ?_ ?_ ?_
 ·simp
 ·intro v c hv hc hI
  simp at hv hI
  simp [hv]
  refine bK 46 Fn235.W1 [low,high] (fun i r sl=>((6:Int)<low.length∨(6:Int)<high.length)↔∃ l∈r,(6:Int)<l.length) (by rfl) (by rfl) ?_ ?_ ?_
  ·simp
  ·intro v2 c3 hv2 hc3 hI2
   simp at hv2
   have hI2':¬((6:Int)<low.length∨(6:Int)<high.length):=by rw [hI2]; simp
   simp [hv2,bsI,an,hck,hne,hne']
   have htot:tot [low,high]=low.length+high.length:=by simp [tot,fl]
   have hfl:fl [low,high]=low++high:=by simp [fl]
   have hpos:0<low.length:=List.length_pos_iff.2 hI.1
   refine ACalls.pure (mL [low,high] (by rw [htot]; omega) (by rw [htot]; omega)) fun c4 hc4=>?_
   rw [hfl]
   simp
   have hlen3:(low.length:Int)+high.length=((low++high).length:Int):=by simp
   rw [←List.map_append]
   refine bq 61 Fn235.W2 (low++high) (fun i r sl s'=>bv L (low++high)=bv L r) (by rfl) (by rfl) ?_ ?_ ?_
   ·simp
   ·intro v h c hv hF hI3
    rw [show (((low++high).length:Nat):Int)=(low.length:Int)+high.length by simp] at hv
    simp [hv,bu,h1,h2,hI,hI2',hI3,bv]
    exact ay fun k hk=>by rw [hF.h k (by omega),ad (by omega)]
   ·intro i b bs v h c hi hx hl hv hF hI3
    have hlen4:(low++high).length≤12:=by simp; omega
    have hi':(i:Int)<(low.length:Int)+high.length:=by rw [hlen3]; omega
    have hw:=ah (x:=(i:Int)+1) (by omega) (by omega)
    have hcc:=hF.c
    have hres:∀ {b},retH c0 h0 (upd h c b)=h0:=fun {b}=>ay fun k hk=>by rw [ad (by omega),hF.h k (by omega),ad (by omega)]
    have hge:((low++high).map Bound.cells)[i]?=some [.int b.form.const,row (b.form.terms.map Term.cells),.int b.div]:=by
     rw [List.getElem?_map,List.getElem?_eq_getElem hi,hx]; rfl
    simp only [List.map_append] at hge
    simp [hv,hi',hge]
    refine ACalls.pure (jF (.ptr g 0 0) b.form L rfl) fun c5 hc5=>?_
    by_cases h7:bP b.form L=0
    case neg=>simp [h7,bu,h1,h2,hI,hI2',hI3,bv,hres]
    simp [h7]
    refine ACalls.pure (d6 _ _ _) fun c6 hc6=>?_
    by_cases h8:1≤b.div∧b.div≤1000
    ·simp [h7,h8,hw,hv,hI3,bv]
     exact hF.upd hcc (by omega)
    ·simp [h7,h8,bu,h1,h2,hI,hI2',hI3,bv,hres]
  ·intro i l ls v c3 hi hx hl hv hc3 hI2
   have hg:=hget i l hi hx
   have hi2:i<2:=hi
   have hi':(i:Int)<2:=by omega
   have hw:=ah (x:=(i:Int)+1) (by omega) (by omega)
   simp [hv,hi',hg]
   by_cases h8:(6:Int)<l.length
   ·have:(6:Int)<low.length∨(6:Int)<high.length:=by rw [hI2]; exact ⟨l,by simp,h8⟩
    simp [h8,bu,h1,h2,hI,this]
   ·simp [h8,hw,hv]
    refine ⟨by omega,?_⟩
    rw [hI2]; simp [h8]
 ·intro i l ls v c3 hi hx hl hv hc3 hI
  have hg:=hget i l hi hx
  have hi2:i<2:=hi
  have hi':(i:Int)<2:=by omega
  have hw:=ah (x:=(i:Int)+1) (by omega) (by omega)
  simp [hv,hi',hg]
  by_cases h8:l=[]
  ·have:low=[]∨high=[]:=by rw [hI]; exact ⟨l,by simp,h8⟩
   simp [h8,bu,h1,h2,this]
  ·simp [h8,hw,hv]
   refine ⟨by omega,?_⟩
   rw [hI]; simp [h8]
end Go.Proofs.YtjhogglgkjcacaaGreat
set_option maxRecDepth 20000
set_option maxHeartbeats 4000000
namespace Go.Proofs.YtjhogglgkjcacaaGreat
open Go.AM Go.Wb
def cj (A:List Wb.Array) (L N:List ByteArray) (name array:ByteArray) (subs:List Wb.Form) (expr:Wb.Expr):Int:=
 if inL name N=true then 6 else if bF A array subs L=0 then aE A L 1 expr else bF A array subs L
theorem uo (A:List Wb.Array) (S:List Wb.Step) (gm ver:Nat) (n0:Int) (g:Nat) (m:List (ByteArray×Bool)) (N:List ByteArray) (kind:Int) (name:ByteArray) (low high:List Wb.Bound) (conds:List Wb.Form) (body:List Wb.Step) (array:ByteArray) (subs:List Wb.Form) (expr:Wb.Expr) (L:List ByteArray)
  (h0:Heap) (c0:Nat) (hck:dq h0 g A S gm n0) (hm:h0 gm=some (.map (kvs AV.str AV.bool m) ver)) (hN:Nm m N) (hg:g<c0) (hgm:gm<c0) (hgg:g≠gm) :
  ACalls Pg Fn237.n [.ptr g 0 0,(Wb.Step.mk kind name low high conds body array subs expr).av,row (am L)] ⟨h0,c0⟩ fun av s'=>
   av=.int (cj A L N name array subs expr)∧∃ m' ver',s'.h gm=some (.map (kvs AV.str AV.bool m') ver')∧(∀ k,k≠gm→s'.h k=h0 k)∧(cj A L N name array subs expr=0→Nm m' (N++[name])):=by
 have hex:=fun d h0 c0 h1 h2 h3 h4 h5=>ux A S gm n0 g L 1000 expr d h0 c0 h1 h2 h3 h4 h5
 obtain ⟨op,n,form,ea,es,args⟩:=expr
 rw [Expr.av_mk] at hex
 rw [Step.av_mk]
 have hck0:=hck
 unfold dq at hck
 have hne:¬c0=g:=by omega
 have hne':¬g=c0:=by omega
 have hne2:¬c0=gm:=by omega
 have hne3:¬gm=c0:=by omega
 have hgg':¬gm=g:=Ne.symm hgg
 refine Fn237.calls .frz ?_
 unfold Fn237.ac
 have hlk:∀ {b c},lkI (.one .str) (.bool false) false (.map gm) (.str name) ⟨upd h0 c0 b,c⟩=some (.bool (inL name N)):=fun {b c}=>hN.look (ver:=ver) (by simp [hne3,hm]) name
 have hmu:∀ {b},muI (.one .str) (.map gm) (.str name) (.bool true) ⟨upd h0 c0 b,c0+1⟩=some ⟨upd (upd h0 c0 b) gm (some (.map (kvs AV.str AV.bool (cB m name true)) (c0+1))),c0+1+1⟩:=
  fun {b}=>kL (ver:=ver) (f:=AV.bool) fp (by simp [hne3,hm]) name true
 simp [hck,hne,hne',hlk]
 cases h1:inL name N
 case true=>
  simp [cj,h1]
  exact ⟨m,ver,hm⟩
 have hr:∀ {b},retH c0 h0 (upd (upd h0 c0 b) gm (some (.map (kvs AV.str AV.bool (cB m name true)) (c0+1))))=upd h0 gm (some (.map (kvs AV.str AV.bool (cB m name true)) (c0+1))):=fun {b}=>by
  rw [jk hgm,jW (Nat.le_refl _),kS]
 have hck2:∀ {b b'},dq (upd (upd h0 c0 b) gm b') g A S gm n0:=fun {b b'}=>by unfold dq; rw [ad hgg,ad (by omega)]; exact hck
 have hfin:∀ (e:Int),(∃ m',(∃ ver',(upd h0 gm (some (.map (kvs AV.str AV.bool (cB m name true)) (c0+1)))) gm=some (Body.map (kvs AV.str AV.bool m') ver'))∧(∀ k,k≠gm→(upd h0 gm (some (.map (kvs AV.str AV.bool (cB m name true)) (c0+1)))) k=h0 k)∧(e=0→Nm m' (N++[name]))):=
  fun e=>⟨_,⟨_,af⟩,fun k hk=>ad hk,fun _=>hN.add name⟩
 simp [hck,hne,hne',hmu,hgg,hgg',hne2,hne3]
 refine ACalls.at (pP A S gm n0 g array subs L _ _ hck2 (by omega)) fun c2 hc2=>?_
 by_cases h2:bF A array subs L=0
 case neg=>
  simp [h2,cj,h1,hr]
  exact ⟨⟨_,rfl⟩,fun k hk=>ad hk⟩
 simp [h2,hne2]
 refine ACalls.at (hex 1 _ _ (by omega) (by omega) (by omega) hck2 (by omega)) fun c3 hc3=>?_
 simp [h2,cj,h1,hr]
 exact ⟨_,rfl,fun k hk=>ad hk,fun _=>hN.add name⟩
end Go.Proofs.YtjhogglgkjcacaaGreat
set_option maxRecDepth 20000
set_option maxHeartbeats 4000000
namespace Go.Proofs.YtjhogglgkjcacaaGreat
open Go.AM Go.Wb
mutual
def aD (A:List Wb.Array) (L:List ByteArray) (d:Int) (N:List ByteArray):Wb.Step→Int×List ByteArray
 | .mk kind name low high conds body array subs expr=>
  if 12<d then (2,N) else if ¬(1≤kind∧kind≤3) then (4,N) else if bD kind name low high conds body array subs expr=false then (3,N) else if kind≠2∧bh name=false then (5,N)
  else if kind=1 then (if bu A L name low high=0 then aC A (L++[name]) (d+1) N body else (bu A L name low high,N))
  else if kind=2 then (if bI L conds=0 then aC A L (d+1) N body else (bI L conds,N))
  else (cj A L N name array subs expr,N++[name])
def aC (A:List Wb.Array) (L:List ByteArray) (d:Int) (N:List ByteArray):List Wb.Step→Int×List ByteArray
 | []=>(0,N)
 | s::ss=>if (aD A L d N s).1=0 then aC A L d (aD A L d N s).2 ss else aD A L d N s
end
mutual
def count:Wb.Step→Nat
 | .mk _ _ _ _ _ body _ _ _=>1+aB body
def aB:List Wb.Step→Nat
 | []=>0
 | s::ss=>count s+aB ss
end
theorem dZ:∀ (a b:List Wb.Step),aB (a++b)=aB a+aB b
 | [],b=>by simp [aB]
 | x::a,b=>by simp [aB,dZ a b]; omega
theorem fy {l xs:List Wb.Step} {x:Wb.Step} {i:Nat} (h:l=l.take i++x::xs):aB l=aB (l.take i)+count x+aB xs:=by
 conv=>lhs; rw [h]
 rw [dZ]; simp [aB]; omega
theorem gd {l xs:List Wb.Step} {x:Wb.Step} {i:Nat} (h:l=l.take i++x::xs) (hi:i<l.length):aB (l.take (i+1))=aB (l.take i)+count x:=by
 have h1:l[i]=x:=by
  have:(l.take i++x::xs)[i]?=some x:=by
   rw [List.getElem?_append_right (by simp; omega)]
   simp [Nat.min_eq_left (Nat.le_of_lt hi)]
  rw [←h] at this
  exact (List.getElem?_eq_some_iff.1 this).2
 rw [←List.take_append_getElem hi,h1,dZ]; simp [aB]
structure CkI (c0:Nat) (h0:Heap) (g gm:Nat) (A:List Wb.Array) (S:List Wb.Step) (n:Int) (m:List (ByteArray×Bool)) (h:Heap):Prop where
 at_:dq h g A S gm n
 map_:∃ ver,h gm=some (.map (kvs AV.str AV.bool m) ver)
 fr:∀ k,k<c0→k≠g→k≠gm→h k=h0 k
theorem CkI.upd {c0 g gm:Nat} {h0 h:Heap} {A:List Wb.Array} {S:List Wb.Step} {n:Int} {m:List (ByteArray×Bool)} (i:CkI c0 h0 g gm A S n m h) (hg:g<c0) (hgm:gm<c0) {k:Nat} {b:Option Body} (hk:c0≤k):CkI c0 h0 g gm A S n m (AM.upd h k b):=by
 obtain ⟨ver,hv⟩:=i.map_
 refine ⟨?_,⟨ver,by rw [ad (by omega)]; exact hv⟩,fun j hj h1 h2=>by rw [ad (by omega)]; exact i.fr j hj h1 h2⟩
 unfold dq
 rw [ad (by omega)]
 exact i.at_
theorem CkI.ret {c0 g gm:Nat} {h0 h:Heap} {A:List Wb.Array} {S:List Wb.Step} {n:Int} {m:List (ByteArray×Bool)} (i:CkI c0 h0 g gm A S n m h) (hg:g<c0) (hgm:gm<c0):CkI c0 h0 g gm A S n m (retH c0 h0 h):=by
 obtain ⟨ver,hv⟩:=i.map_
 have hr:∀ k,k<c0→retH c0 h0 h k=h k:=fun k hk=>if_pos hk
 refine ⟨?_,⟨ver,by rw [hr _ hgm]; exact hv⟩,fun j hj h1 h2=>by rw [hr j hj]; exact i.fr j hj h1 h2⟩
 unfold dq
 rw [hr _ hg]
 exact i.at_
theorem CkI.trans {c0 c1 g gm:Nat} {h0 h1 h:Heap} {A:List Wb.Array} {S:List Wb.Step} {n n1:Int} {m m1:List (ByteArray×Bool)} (i:CkI c0 h0 g gm A S n1 m1 h1) (k:CkI c1 h1 g gm A S n m h) (hc:c0≤c1):CkI c0 h0 g gm A S n m h:=
 ⟨k.at_,k.map_,fun j hj a b=>by rw [k.fr j (by omega) a b]; exact i.fr j hj a b⟩
theorem CkI.same {c0 g gm:Nat} {h0 h:Heap} {A:List Wb.Array} {S:List Wb.Step} {n:Int} {m:List (ByteArray×Bool)} (i:CkI c0 h0 g gm A S n m h) {h':Heap} (e:h'=h):CkI c0 h0 g gm A S n m h':=by rw [e]; exact i
def kC (L:List ByteArray) (c0:Nat) (h0:Heap) (av:AV) (s':St):Prop:=
 Fr c0 h0 s'.h s'.c∧((av=.sl [] true∧L=[])∨∃ g,c0≤g∧g<s'.c∧av=.row g 1 0 L.length∧s'.h g=some (.row 1 (am L) .live none))
theorem eh (L:List ByteArray) (h0:Heap) (c0:Nat):ACalls Pg Fn140.n [row (am L)] ⟨h0,c0⟩ (kC L c0 h0):=by
 refine ACalls.small fun hs=>?_
 have hlen:L.length≤68719476736:=by simpa [am] using hs.1.1
 refine Fn140.calls .keep ?_
 unfold Fn140.ac
 simp
 refine oI (fun h=>?_) ?_
 ·have hL:L=[]:=by simpa [am] using h
  simp [kC,hL]
  exact Fr.refl _ _
 ·simp [bsI,an]
  have hap:=db (sz:=1) (bytes:=16) (md:=.plain) (es:=[]) (xs:=am L) (b:=false) (s:=⟨h0,c0⟩) (by decide) (by decide) (by decide) (by simp) (fun e he=>by
   obtain ⟨x,_,rfl⟩:=List.mem_map.1 he; rfl) (by simpa [am] using hlen) (.inr rfl)
  have hsl:(am L).length=L.length:=by simp [am]
  simp [hap,kC,hsl]
  exact ⟨(Fr.refl h0 c0).upd (Nat.le_refl _) (Nat.le_succ _),c0,Nat.le_refl _,Nat.lt_succ_self _,rfl,by simp⟩
theorem dO {L:List ByteArray} {c4 c5:Nat} {h1 h2:Heap} {av:AV} (hF1:Fr c4 h1 h2 c5) (hav:(av=.sl [] true∧L=[])∨∃ g,c4≤g∧g<c5∧av=.row g 1 0 L.length∧h2 g=some (.row 1 (am L) .live none)) (name:ByteArray) (hL:(L.length:Int)≤1000) :
  ∃ g2 c6 h3,apI 1 16 .fz av (.sl [[.str name]] true) ⟨h2,c5⟩=some (.row g2 1 0 (L.length+1),⟨h3,c6⟩)∧h3 g2=some (.row 1 (am (L++[name])) .live none)∧Fr c4 h1 h3 c6∧c4≤g2:=by
 have hs:am (L++[name])=am L++[[.str name]]:=by simp [am]
 have hcc:=hF1.c
 rcases hav with ⟨rfl,rfl⟩ | ⟨g,hg,hgc,rfl,hh⟩
 ·have:=db (sz:=1) (bytes:=16) (md:=.fz) (es:=[]) (xs:=[[.str name]]) (b:=true) (s:=⟨h2,c5⟩) (by decide) (by decide) (by decide) (by simp) (fun e he=>by simp at he; subst he; rfl) (by simp) (.inr rfl)
  exact ⟨c5,c5+1,_,this,by simp [am],hF1.upd hcc (Nat.le_succ _),hcc⟩
 ·have:=cC (sz:=1) (bytes:=16) (len:=L.length) (md:=.fz) (x:=[.str name]) (b:=true) (s:=⟨h2,c5⟩) (by simp) hh (by simp [am]) (by decide) (by decide) (by decide) rfl (by omega)
  exact ⟨c5,c5+1,_,this,by rw [hs]; simp,(hF1.upd hg (Nat.le_refl _)).upd hcc (Nat.le_succ _),hcc⟩
theorem tU (A:List Wb.Array) (S:List Wb.Step) (gm:Nat) (g:Nat):∀ (Nf:Nat) (st:Wb.Step) (d:Int) (L N:List ByteArray) (m:List (ByteArray×Bool)) (n0:Int) (ver:Nat) (h0:Heap) (c0:Nat),14≤d+Nf→(L.length:Int)<d→d≤13 →
  dq h0 g A S gm n0→h0 gm=some (.map (kvs AV.str AV.bool m) ver)→Nm m N→g<c0→gm<c0→g≠gm→0≤n0→n0+count st<4611686018427387904 →
  ACalls Pg Fn165.n [.ptr g 0 0,st.av,.int d,row (am L)] ⟨h0,c0⟩ fun av s'=>av=.int (aD A L d N st).1∧∃ n' m',CkI c0 h0 g gm A S n' m' s'.h∧((aD A L d N st).1=0→n'=n0+count st∧Nm m' (aD A L d N st).2):=by
 intro Nf
 induction Nf with
 | zero=>intro st d L N m n0 ver h0 c0 hN hd hd'; omega
 | succ Nf ih=>
  intro st d L N m n0 ver h0 c0 hNf hd hd' hck hm hN hg hgm hgg hn0 hcnt
  obtain ⟨kind,name,low,high,conds,body,array,subs,expr⟩:=st
  have hform:=uk kind name low high conds body array subs expr
  have hloop:=fun n1 h0 c0 h1 h2=>ul A S gm n1 g kind name low high conds body array subs expr L h0 c0 h1 h2
  have hconds:=um (.ptr g 0 0) (.mk kind name low high conds body array subs expr) conds L rfl ⟨_,_,_,_,_,_,_,_,rfl⟩
  have hset:=fun n1 h0 c0 h1 h2 h3 h4=>uo A S gm ver n1 g m N kind name low high conds body array subs expr L h0 c0 h1 h2 hN h3 h4 hgg
  obtain ⟨op,n,form,ea,es,args⟩:=expr
  rw [Step.av_mk] at hform hconds ⊢
  simp only [Step.av_mk] at hloop hset
  refine ACalls.small fun hs=>?_
  have hlenb:body.length≤68719476736:=by simp at hs; omega
  refine Fn165.calls .frz ?_
  unfold Fn165.ac
  have hne:¬c0=g:=by omega
  have hne':¬g=c0:=by omega
  have hne2:¬c0=gm:=by omega
  have hne3:¬gm=c0:=by omega
  have hgg':¬gm=g:=Ne.symm hgg
  have hck0:=hck
  unfold dq at hck
  have hw0:=ah (x:=n0+1) (by omega) (by omega)
  obtain ⟨B,hB⟩:∃ B,B=some (Body.row 15 [[AV.int kind,.str name,row (low.map Bound.cells),row (high.map Bound.cells),row (conds.map Form.cells),row (body.map Step.cells),.str array,row (subs.map Form.cells),
   .int op,.int n,.int form.const,row (form.terms.map Term.cells),.str ea,row (es.map Form.cells),row (args.map Expr.cells)]] .live none):=⟨_,rfl⟩
  obtain ⟨h1,hh1⟩:∃ h1,h1=upd (upd h0 c0 B) g (some (.row 4 [[row (A.map Array.cells),row (S.map Step.cells),.map gm,.int (n0+1)]] .live none)):=⟨_,rfl⟩
  have hI1:CkI c0 h0 g gm A S (n0+1) m h1:=by
   refine ⟨?_,⟨ver,?_⟩,fun k hk a b=>?_⟩
   ·rw [hh1]; unfold dq; rw [af]
   ·rw [hh1,ad hgg',ad hne3]; exact hm
   ·rw [hh1,ad a,ad (by omega)]
  have hbox:h1 c0=B:=by rw [hh1,ad hne,af]
  have hend:∀ {e:Int} {N':List ByteArray} {n':Int} {m':List (ByteArray×Bool)} {h:Heap} (w:Int×List ByteArray),w=aD A L d N (.mk kind name low high conds body array subs (.mk op n form ea es args))→w.1=e→CkI c0 h0 g gm A S n' m' h→(e=0→n'=n0+count (.mk kind name low high conds body array subs (.mk op n form ea es args))∧Nm m' w.2) →
    e=(aD A L d N (.mk kind name low high conds body array subs (.mk op n form ea es args))).1∧∃ n' m',CkI c0 h0 g gm A S n' m' (retH c0 h0 h)∧((aD A L d N (.mk kind name low high conds body array subs (.mk op n form ea es args))).1=0→n'=n0+count (.mk kind name low high conds body array subs (.mk op n form ea es args))∧Nm m' (aD A L d N (.mk kind name low high conds body array subs (.mk op n form ea es args))).2):=by
   intro e N' n' m' h w hw he hi hz
   subst hw
   exact ⟨he.symm,n',m',hi.ret hg hgm,fun h0=>hz (by rw [←he]; exact h0)⟩
  simp [hck,hne,hne',hw0]
  rw [←hB,←hh1]
  by_cases g1:12<d
  ·simp [g1]
   exact hend (N':=N) (2,N) (by simp [aD,g1]) rfl hI1 (fun h=>by cases h)
  have hbox':=hbox.trans hB
  simp [g1,hbox']
  refine ACalls.pure (d6 _ _ _) fun c1 hc1=>?_
  by_cases g2:1≤kind∧kind≤3
  case neg=>
   simp [g2]
   exact hend (N':=N) (4,N) (by simp [aD,g1,g2]) rfl hI1 (fun h=>by cases h)
  simp [g2,hbox']
  refine ACalls.pure hform fun c2 hc2=>?_
  cases g3:bD kind name low high conds body array subs (.mk op n form ea es args)
  ·simp
   exact hend (N':=N) (3,N) (by simp [aD,g1,g2,g3]) rfl hI1 (fun h=>by cases h)
  simp [hbox']
  by_cases g4:kind=2
  ·subst g4
   simp [hbox']
   refine ACalls.pure hconds fun c3 hc3=>?_
   by_cases g5:bI L conds=0
   case neg=>
    simp [g5]
    exact hend (N':=N) (bI L conds,N) (by simp [aD,g1,g3,g5]) rfl hI1 (fun h=>absurd h g5)
   simp [g5,hbox']
   have hspec:aD A L d N (.mk 2 name low high conds body array subs (.mk op n form ea es args))=aC A L (d+1) N body:=by simp [aD,g1,g3,g5]
   have hc9:c0+1≤c3:=by omega
   have hI9:=hI1
   obtain ⟨Inv,hInv⟩:∃ Inv:Nat→List Wb.Step→Slots→St→Prop,Inv=fun i r sl s'=>∃ n' m' N',c0+1≤s'.c∧CkI c0 h0 g gm A S n' m' s'.h∧Nm m' N'∧n'=n0+1+aB (body.take i)∧aC A L (d+1) N body=aC A L (d+1) N' r:=⟨_,rfl⟩
   refine bz 72 Fn165.W0 body Inv (by rfl) (by rfl) ?_ ?_ ?_
   ·rw [hInv]; exact ⟨by simp,n0+1,m,N,hc9,hI9,hN,by simp [aB],rfl⟩
   ·intro v s' hv hI
    rw [hInv] at hI
    obtain ⟨n',m',N',hc,hI,hN',hn',hs'⟩:=hI
    simp [hv]
    refine hend (N':=N') (0,N') (by rw [hspec,hs']; rfl) rfl hI fun _=>⟨?_,hN'⟩
    rw [hn',List.take_length]; simp [count]; omega
   ·intro i x xs v s' hi hx hl hv hI
    rw [hInv] at hI
    obtain ⟨n',m',N',hc,hI,hN',hn',hs'⟩:=hI
    obtain ⟨h,c⟩:=s'
    simp only at hc hI
    obtain ⟨ver',hv'⟩:=hI.map_
    have hcut:=fy hl
    have htake:=gd hl hi
    have hw:=ah (x:=(i:Int)+1) (by omega) (by omega)
    have hw2:=ah (x:=d+1) (by omega) (by omega)
    have hc1':n0+(1+aB body:Nat)<4611686018427387904:=by simpa [count] using hcnt
    have hce:=fun B=>ih x (d+1) L N' m' n' ver' (upd h c B) (c+1) (by omega) (by omega) (by omega) (hI.upd hg hgm (by omega)).at_ (by rw [ad (by omega)]; exact hv') hN' (by omega) (by omega) hgg (by rw [hn']; omega) (by rw [hn']; omega)
    obtain ⟨kx,nx,lx,hx',cx,bx,ax,sx,⟨ox,n1,fx,ex,esx,argx⟩⟩:=x
    rw [Step.av_mk] at hce
    simp [hv,hi,hx,Step.cells_mk,hw2]
    refine (hce _).mono ?_
    rintro av s2 hc2 ⟨rfl,n2,m2,hI2,hz2⟩
    have hI3:=CkI.trans (hI.upd hg hgm (k:=c) (by omega)) hI2 (by omega)
    simp only at hc2
    by_cases g9:(aD A L (d+1) N' (.mk kx nx lx hx' cx bx ax sx (.mk ox n1 fx ex esx argx))).1=0
    ·obtain ⟨hz3,hz4⟩:=hz2 g9
     simp [g9,hw,hv]
     rw [hInv]
     refine ⟨n2,m2,_,by show c0+1≤s2.c; omega,hI3,hz4,by rw [hz3,hn',htake]; omega,?_⟩
     rw [hs']; simp only [aC,g9,if_true]
    ·simp [g9]
     refine hend (N':=N') (aD A L (d+1) N' (.mk kx nx lx hx' cx bx ax sx (.mk ox n1 fx ex esx argx))) (by rw [hspec,hs']; simp only [aC,g9,if_false]) rfl hI3 fun h=>absurd h g9
  simp [g4,hbox']
  refine ACalls.pure (ie name) fun c3 hc3=>?_
  cases g6:bh name
  ·simp
   exact hend (N':=N) (5,N) (by simp [aD,g1,g2,g3,g4,g6]) rfl hI1 (fun h=>by cases h)
  by_cases g7:kind=1
  ·subst g7
   simp [hbox']
   refine ACalls.at (hloop (n0+1) h1 c3 hI1.at_ (by omega)) fun c4 hc4=>?_
   simp [hbox',bsI,an]
   refine (eh L h1 c4).mono ?_
   rintro av s1 hc5 ⟨hF1,hav⟩
   obtain ⟨h2,c5⟩:=s1
   simp only at hc5 hF1 hav
   have hb2:h2 c0=h1 c0:=hF1.h c0 (by omega)
   have hbox2:=hb2.trans hbox'
   have happ:=dO hF1 hav name (by omega)
   obtain ⟨g2',c6,h3,hap,hg2,hF3,hg2c⟩:=happ
   have hsl:(am (L++[name])).length=L.length+1:=by simp [am]
   have hfz:=dx (s:=⟨h3,c6⟩) (z:=1) hg2 hsl
   have hF4:Fr c4 h1 (upd h3 g2' (some (.row 1 (am (L++[name])) .frz none))) c6:=hF3.upd hg2c (Nat.le_refl _)
   simp [hbox2,bsI,an,hap,hfz,-dK]
   have hI4:CkI c0 h0 g gm A S (n0+1) m (upd h3 g2' (some (.row 1 (am (L++[name])) .frz none))):=by
    obtain ⟨ver9,hv9⟩:=hI1.map_
    refine ⟨?_,⟨ver9,by rw [hF4.h gm (by omega)]; exact hv9⟩,fun k hk a b=>by rw [hF4.h k (by omega)]; exact hI1.fr k hk a b⟩
    unfold dq; rw [hF4.h g (by omega)]; exact hI1.at_
   have hbox4:upd h3 g2' (some (.row 1 (am (L++[name])) .frz none)) c0=_:=(hF4.h c0 (by omega)).trans hbox'
   by_cases g5:bu A L name low high=0
   case neg=>
    simp [g5]
    exact hend (N':=N) (bu A L name low high,N) (by simp [aD,g1,g3,g5,g6]) rfl hI4 (fun h=>absurd h g5)
   simp [g5,hbox4]
   have hspec:aD A L d N (.mk 1 name low high conds body array subs (.mk op n form ea es args))=aC A (L++[name]) (d+1) N body:=by simp [aD,g1,g3,g5,g6]
   have hc9:c0+1≤c6:=by have:=hF4.c; omega
   have hI9:=hI4
   obtain ⟨Inv,hInv⟩:∃ Inv:Nat→List Wb.Step→Slots→St→Prop,Inv=fun i r sl s'=>∃ n' m' N',c0+1≤s'.c∧CkI c0 h0 g gm A S n' m' s'.h∧Nm m' N'∧n'=n0+1+aB (body.take i)∧aC A (L++[name]) (d+1) N body=aC A (L++[name]) (d+1) N' r:=⟨_,rfl⟩
   refine bz 72 Fn165.W0 body Inv (by rfl) (by rfl) ?_ ?_ ?_
   ·rw [hInv]; exact ⟨by simp,n0+1,m,N,hc9,hI9,hN,by simp [aB],rfl⟩
   ·intro v s' hv hI
    rw [hInv] at hI
    obtain ⟨n',m',N',hc,hI,hN',hn',hs'⟩:=hI
    simp [hv]
    refine hend (N':=N') (0,N') (by rw [hspec,hs']; rfl) rfl hI fun _=>⟨?_,hN'⟩
    rw [hn',List.take_length]; simp [count]; omega
   ·intro i x xs v s' hi hx hl hv hI
    rw [hInv] at hI
    obtain ⟨n',m',N',hc,hI,hN',hn',hs'⟩:=hI
    obtain ⟨h,c⟩:=s'
    simp only at hc hI
    obtain ⟨ver',hv'⟩:=hI.map_
    have hcut:=fy hl
    have htake:=gd hl hi
    have hw:=ah (x:=(i:Int)+1) (by omega) (by omega)
    have hw2:=ah (x:=d+1) (by omega) (by omega)
    have hc1':n0+(1+aB body:Nat)<4611686018427387904:=by simpa [count] using hcnt
    have hce:=fun B=>ih x (d+1) (L++[name]) N' m' n' ver' (upd h c B) (c+1) (by omega) (by simp; omega) (by omega) (hI.upd hg hgm (by omega)).at_ (by rw [ad (by omega)]; exact hv') hN' (by omega) (by omega) hgg (by rw [hn']; omega) (by rw [hn']; omega)
    obtain ⟨kx,nx,lx,hx',cx,bx,ax,sx,⟨ox,n1,fx,ex,esx,argx⟩⟩:=x
    rw [Step.av_mk] at hce
    simp [hv,hi,hx,Step.cells_mk,hw2]
    refine (hce _).mono ?_
    rintro av s2 hc2 ⟨rfl,n2,m2,hI2,hz2⟩
    have hI3:=CkI.trans (hI.upd hg hgm (k:=c) (by omega)) hI2 (by omega)
    simp only at hc2
    by_cases g9:(aD A (L++[name]) (d+1) N' (.mk kx nx lx hx' cx bx ax sx (.mk ox n1 fx ex esx argx))).1=0
    ·obtain ⟨hz3,hz4⟩:=hz2 g9
     simp [g9,hw,hv]
     rw [hInv]
     refine ⟨n2,m2,_,by show c0+1≤s2.c; omega,hI3,hz4,by rw [hz3,hn',htake]; omega,?_⟩
     rw [hs']; simp only [aC,g9,if_true]
    ·simp [g9]
     refine hend (N':=N') (aD A (L++[name]) (d+1) N' (.mk kx nx lx hx' cx bx ax sx (.mk ox n1 fx ex esx argx))) (by rw [hspec,hs']; simp only [aC,g9,if_false]) rfl hI3 fun h=>absurd h g9
  have g8:kind=3:=by omega
  subst g8
  have hbody:body=[]:=by
   simp [bD] at g3
   exact g3.2
  subst hbody
  simp [hbox']
  have hm1:h1 gm=some (.map (kvs AV.str AV.bool m) ver):=by rw [hh1,ad hgg',ad hne3]; exact hm
  refine (hset (n0+1) h1 c3 hI1.at_ hm1 (by omega) (by omega)).mono ?_
  rintro av s2 hc2 ⟨rfl,m2,ver2,hm2,hfr2,hz2⟩
  obtain ⟨h2,c4⟩:=s2
  simp only at hm2 hfr2 hc2
  have hI2:CkI c0 h0 g gm A S (n0+1) m2 h2:=by
   refine ⟨?_,⟨ver2,hm2⟩,fun k hk a b=>by rw [hfr2 k b]; exact hI1.fr k hk a b⟩
   unfold dq; rw [hfr2 g hgg]; exact hI1.at_
  have hbox2:=(hfr2 c0 hne2).trans hbox'
  by_cases g5:cj A L N name array subs (.mk op n form ea es args)=0
  case neg=>
   simp [g5]
   exact hend (N':=N) (cj A L N name array subs (.mk op n form ea es args),N++[name]) (by simp [aD,g1,g3,g6]) rfl hI2 (fun h=>absurd h g5)
  simp [g5,hbox2]
  obtain ⟨Inv,hInv⟩:∃ Inv:Nat→List Wb.Step→Slots→St→Prop,Inv=fun i r sl s'=>CkI c0 h0 g gm A S (n0+1) m2 s'.h:=⟨_,rfl⟩
  refine bz 72 Fn165.W0 ([]:List Wb.Step) Inv (by rfl) (by rfl) ?_ ?_ ?_
  ·rw [hInv]; exact ⟨by simp,hI2⟩
  ·intro v s' hv hI
   rw [hInv] at hI
   simp at hv
   simp [hv]
   refine hend (N':=N) (0,N++[name]) (by simp [aD,g1,g3,g6,g5]) rfl hI fun _=>⟨by simp [count,aB],hz2 g5⟩
  ·intro i x xs v s' hi; simp at hi
end Go.Proofs.YtjhogglgkjcacaaGreat
set_option maxRecDepth 20000
set_option maxHeartbeats 4000000
namespace Go.Proofs.YtjhogglgkjcacaaGreat
open Go.AM Go.Wb
def cA:List Int→Int→Option Int
 | [],n=>some n
 | s::ss,n=>if 1≤s∧s≤20000 then cA ss (if 20001<n*s then 20001 else n*s) else none
def aU (a:Wb.Array) (before:List Wb.Array) (cells:Int):Int×Int:=
 if bh a.key=false then (5,cells) else if (before.any fun b=>decide (b.key=a.key))=true then (6,cells) else if a.sizes=[] then (8,cells) else if (4:Int)<a.sizes.length then (2,cells)
 else match cA a.sizes 1 with
  | none=>(1,cells)
  | some n=>if 20000<cells+n then (12,cells+n) else (0,cells+n)
def bJ (before:List Wb.Array):List Wb.Array→Int→Int
 | [],_=>0
 | a::l,cells=>if (aU a before cells).1=0 then bJ (before++[a]) l (aU a before cells).2 else (aU a before cells).1
def aW (p:Wb.Prog):Int:=
 if (20:Int)<p.arrays.length then 2 else if bJ [] p.arrays 0=0 then (if (aC p.arrays [] 1 [] p.steps).1=0 then (if (300:Int)<aB p.steps then 2 else 0) else (aC p.arrays [] 1 [] p.steps).1) else bJ [] p.arrays 0
theorem uj (x:Wb.Array) (key:ByteArray) (sz:AV) (h:Heap) (c g:Nat) (hg:h g=some (.row 2 [[.str key,sz]] .live none)) (hgc:g<c) :
  ACalls Pg Fn233.n [x.av,.ptr g 0 0] ⟨h,c⟩ fun av s'=>av=.bool (decide (x.key=key))∧s'.h=h:=by
 refine Fn233.calls .frz ?_
 unfold Fn233.ac
 have hne:g≠c:=by omega
 simp [Array.av,Array.cells,hg,hne]
theorem tT (a:Wb.Array) (before:List Wb.Array) (cells:Int) (hc1:0≤cells) (hc2:cells≤1000000) (gc:Nat) (h0:Heap) (c0:Nat) (hgc:h0 gc=some (.row 1 [[.int cells]] .live none)) (hg:gc<c0) :
  ACalls Pg Fn164.n [a.av,row (before.map Array.cells),.ptr gc 0 0] ⟨h0,c0⟩ fun av s'=>av=.int (aU a before cells).1∧s'.h gc=some (.row 1 [[.int (aU a before cells).2]] .live none)∧∀ k,k≠gc→s'.h k=h0 k:=by
 have hne:¬c0=gc:=by omega
 have hne':¬gc=c0:=by omega
 refine Fn164.calls .frz ?_
 unfold Fn164.ac
 simp [Array.av,Array.cells]
 refine ACalls.pure (ie a.key) fun c1 hc1=>?_
 cases h1:bh a.key
 ·simp [aU,h1,hgc]
 simp
 refine ACalls.at (ui before _ _ _ (fun b=>decide (b.key=a.key)) _ c1 ?_) fun c2 hc2=>?_
 ·intro x hx c' hc'
  exact uj x a.key _ _ c' c0 (by simp; rfl) (by omega)
 cases h2:before.any fun b=>decide (b.key=a.key)
 case true=>simp [aU,h1,h2,hgc]
 simp [be]
 by_cases h3:a.sizes=[]
 ·simp [aU,h1,h2,h3,hgc]
 simp [h3]
 by_cases h4:(4:Int)<a.sizes.length
 ·simp [aU,h1,h2,h3,h4,hgc]
 simp [h4]
 obtain ⟨Inv,hInv⟩:∃ Inv:Nat→List Int→Slots→Prop,Inv=fun i r sl=>∃ n,1≤n∧n≤20001∧sl 7=.int n∧cA a.sizes 1=cA r n:=⟨_,rfl⟩
 refine bK 32 Fn164.W0 a.sizes Inv (by rfl) (by rfl) ?_ ?_ ?_
 ·rw [hInv]; exact ⟨by simp,1,by omega,by omega,by simp,rfl⟩
 ·intro v c hv hc hI
  rw [hInv] at hI
  obtain ⟨n,hn1,hn2,h7,hI⟩:=hI
  simp at h7
  have hw:=ah (x:=cells+n) (by omega) (by omega)
  have hr:∀ {x:Option Body},retH c0 h0 (upd (upd h0 c0 x) gc (some (.row 1 [[.int (cells+n)]] .live none)))=upd h0 gc (some (.row 1 [[.int (cells+n)]] .live none)):=fun {x}=>by
   rw [jk hg,jW (Nat.le_refl _),kS]
  simp [hv,h7,hgc,hne,hne',hw]
  by_cases h5:20000<cells+n
  ·simp [h5,aU,h1,h2,h3,h4,hI,cA,hr]
   exact fun k hk=>ad hk
  ·simp [h5,aU,h1,h2,h3,h4,hI,cA,hr]
   exact fun k hk=>ad hk
 ·intro i x xs v c hi hx hl hv hc hI
  rw [hInv] at hI
  obtain ⟨n,hn1,hn2,h7,hI⟩:=hI
  simp at h7
  have hw:=ah (x:=(i:Int)+1) (by omega) (by omega)
  simp [hv,hi,hx]
  refine ACalls.pure (d6 _ _ _) fun c5 hc5=>?_
  by_cases h6:1≤x∧x≤20000
  case neg=>simp [h6,aU,h1,h2,h3,h4,hI,cA,hgc]
  have hm1:1≤n*x:=by have:=Int.mul_le_mul hn1 h6.1 (by omega) (by omega); simpa using this
  have hm2:n*x≤20001*20000:=Int.mul_le_mul hn2 h6.2 (by omega) (by omega)
  have hw2:=ah (x:=n*x) (by omega) (by omega)
  simp [h6,h7,hw2,hw,hv]
  refine ⟨by omega,?_⟩
  rw [hInv]
  refine ⟨if 20001<n*x then 20001 else n*x,by split <;> omega,by split <;> omega,by simp,by rw [hI]; simp [cA,h6]⟩
theorem j5:∀ {l:List Int} {n m:Int},cA l n=some m→1≤n→1≤m
 | [],n,m,h,hn=>by simp [cA] at h; omega
 | s::ss,n,m,h,hn=>by
  simp only [cA] at h
  split at h
  ·rename_i hs
   refine j5 h ?_
   split
   ·omega
   ·have:=Int.mul_le_mul hn hs.1 (by omega) (by omega); simpa using this
  ·cases h
theorem vW (p:Wb.Prog) (hcnt:aB p.steps<1000000000):aG Pg Fn96.n [p.av] (.int (aW p)):=by
 rintro ⟨h0,c0⟩
 refine ACalls.small fun hs=>?_
 have hlen:p.arrays.length≤68719476736∧p.steps.length≤68719476736:=by simp [Prog.av] at hs; omega
 refine Fn96.calls .frz ?_
 unfold Fn96.ac
 simp [Prog.av]
 by_cases h1:(20:Int)<p.arrays.length
 ·simp [h1,aW]
 simp [h1]
 obtain ⟨Inv,hInv⟩:∃ Inv:Nat→List Wb.Array→Slots→St→Prop,Inv=fun i r sl s'=>∃ cells,0≤cells∧cells≤20000∧c0+2≤s'.c∧s'.h (c0+1)=some (.row 1 [[.int cells]] .live none)∧s'.h c0=some (.row 2 [[row (p.arrays.map Array.cells),row (p.steps.map Step.cells)]] .live none)∧bJ [] p.arrays 0=bJ (p.arrays.take i) r cells:=⟨_,rfl⟩
 refine pV 18 Fn96.W0 p.arrays c0 h0 Inv (by rfl) (by rfl) ?_ ?_ ?_
 ·rw [hInv]
  refine ⟨by simp,⟨by omega,fun k hk=>?_⟩,0,by omega,by omega,by show c0+2≤c0+1+1; omega,by simp,?_,by simp⟩
  ·rw [ad (by omega),ad (by omega)]
  ·show upd _ _ _ c0=_
   rw [ad (by omega),af]
 ·intro v h c hv hF hI
  rw [hInv] at hI
  obtain ⟨cells,hc1,hc2,hcc,hcell,hbox,hI⟩:=hI
  simp only at hcc hcell hbox
  have hz:bJ [] p.arrays 0=0:=by rw [hI]; rfl
  have hne1:¬c0=c:=by omega
  have hne2:¬c0=c+1:=by omega
  have hne3:¬c=c+1:=by omega
  simp [hv,hbox,hne1,hne2,aI]
  obtain ⟨h9,hh9⟩:∃ h9,h9=upd (upd h c (some (.map [] c))) (c+1) (some (.row 4 [[row (p.arrays.map Array.cells),row (p.steps.map Step.cells),.map c,.int 0]] .live none)):=⟨_,rfl⟩
  rw [←hh9]
  have hck:dq h9 (c+1) p.arrays p.steps c 0:=by rw [hh9]; unfold dq; rw [af]
  have hmap:h9 c=some (.map (kvs AV.str AV.bool []) c):=by rw [hh9,ad (by omega),af]; rfl
  have hI9:CkI (c+2) h9 (c+1) c p.arrays p.steps 0 [] h9:=⟨hck,⟨c,hmap⟩,fun _ _ _ _=>rfl⟩
  have hlow:∀ k,k<c0→h9 k=h0 k:=fun k hk=>by rw [hh9,ad (by omega),ad (by omega)]; exact hF.h k hk
  have hbox9:h9 c0=some (.row 2 [[row (p.arrays.map Array.cells),row (p.steps.map Step.cells)]] .live none):=by rw [hh9,ad (by omega),ad (by omega)]; exact hbox
  have hret:∀ {n' m' h},CkI (c+2) h9 (c+1) c p.arrays p.steps n' m' h→retH c0 h0 h=h0:=fun hi=>ay fun k hk=>by rw [hi.fr k (by omega) (by omega) (by omega)]; exact hlow k hk
  obtain ⟨Inv2,hInv2⟩:∃ Inv:Nat→List Wb.Step→Slots→St→Prop,Inv=fun i r sl s'=>∃ n' m' N',c+2≤s'.c∧CkI (c+2) h9 (c+1) c p.arrays p.steps n' m' s'.h∧Nm m' N'∧n'=(aB (p.steps.take i):Int)∧aC p.arrays [] 1 [] p.steps=aC p.arrays [] 1 N' r:=⟨_,rfl⟩
  refine bz 40 Fn96.W1 p.steps Inv2 (by rfl) (by rfl) ?_ ?_ ?_
  ·rw [hInv2]; exact ⟨by simp,0,[],[],by show c+2≤c+1+1; omega,hI9,Nm.nil,by simp [aB],rfl⟩
  ·intro v s' hv hI
   rw [hInv2] at hI
   obtain ⟨n',m',N',hc',hI',hN',hn',hs'⟩:=hI
   rw [List.take_length] at hn'
   have hat:=hI'.at_
   unfold dq at hat
   have hr:=hret hI'
   simp [hv,hat]
   by_cases h3:(300:Int)<aB p.steps
   ·simp [hn',h3,aW,h1,hz,hs',aC,hr]
   ·simp [hn',h3,aW,h1,hz,hs',aC,hr]
  ·intro i x xs v s' hi hx hl hv hI
   rw [hInv2] at hI
   obtain ⟨n',m',N',hc',hI',hN',hn',hs'⟩:=hI
   obtain ⟨h,c3⟩:=s'
   simp only at hc' hI'
   obtain ⟨ver',hv'⟩:=hI'.map_
   have hcut:=fy hl
   have htake:=gd hl hi
   have hw:=ah (x:=(i:Int)+1) (by omega) (by omega)
   have hce:=fun B=>tU p.arrays p.steps c (c+1) 1000 x 1 [] N' m' n' ver' (upd h c3 B) (c3+1) (by omega) (by simp) (by omega) (hI'.upd (by omega) (by omega) (by omega)).at_ (by rw [ad (by omega)]; exact hv') hN' (by omega) (by omega) (by omega) (by rw [hn']; omega) (by rw [hn']; omega)
   obtain ⟨kx,nx,lx,hx',cx,bx,ax,sx,⟨ox,n1,fx,ex,esx,argx⟩⟩:=x
   rw [Step.av_mk] at hce
   simp [hv,hi,hx,Step.cells_mk]
   refine (hce _).mono ?_
   rintro av s2 hc2 ⟨rfl,n2,m2,hI2,hz2⟩
   have hI3:=CkI.trans (hI'.upd (by omega) (by omega) (k:=c3) (by omega)) hI2 (by omega)
   simp only at hc2
   by_cases g9:(aD p.arrays [] 1 N' (.mk kx nx lx hx' cx bx ax sx (.mk ox n1 fx ex esx argx))).1=0
   ·obtain ⟨hz3,hz4⟩:=hz2 g9
    simp [g9,hw,hv]
    rw [hInv2]
    refine ⟨n2,m2,_,by show c+2≤s2.c; omega,hI3,hz4,by rw [hz3,hn',htake]; omega,?_⟩
    rw [hs']; simp only [aC,g9,if_true]
   ·simp [g9,hret hI3,aW,h1,hz,hs',aC]
 ·intro i x xs v h c hi hx hl hv hF hI
  rw [hInv] at hI
  obtain ⟨cells,hc1,hc2,hcc,hcell,hbox,hI⟩:=hI
  simp only at hcc hcell hbox
  have hw:=ah (x:=(i:Int)+1) (by omega) (by omega)
  have hne1:¬c0=c:=by omega
  have htk:=vc (sz:=2) (n:=i) (es:=p.arrays.map Array.cells) (full:=false) (by simp; omega) (fun e he=>by obtain ⟨a,_,rfl⟩:=List.mem_map.1 he; rfl)
  have hnt:aP (List.take i (p.arrays.map Array.cells))=List.take i (p.arrays.map Array.cells):=by rw [←List.map_take]; exact qz _
  have hce:=fun B=>tT x (p.arrays.take i) cells hc1 (by omega) (c0+1) (upd h c B) (c+1) (by rw [ad (by omega)]; exact hcell) (by omega)
  simp only [List.map_take] at hce
  simp [hv,hi,hx,Array.cells,hbox,hne1,htk,hnt]
  refine (hce _).mono ?_
  rintro av ⟨h2,c2⟩ hc2' ⟨rfl,hcell2,hfr2⟩
  simp only at hcell2 hfr2 hc2'
  have hF2:Fr c0 h0 h2 c2:=⟨by have:=hF.c; omega,fun k hk=>by rw [hfr2 k (by omega),ad (by omega)]; exact hF.h k hk⟩
  have hb2:h2 c0=h c0:=by rw [hfr2 c0 (by omega),ad (by omega)]
  have hbd:(aU x (List.take i p.arrays) cells).1=0→0≤(aU x (List.take i p.arrays) cells).2∧(aU x (List.take i p.arrays) cells).2≤20000:=by
   unfold aU
   intro hz
   split at hz
   ·cases hz
   ·split at hz
    ·cases hz
    ·split at hz
     ·cases hz
     ·split at hz
      ·cases hz
      ·rename_i a1 a2 a3 a4
       simp only [a1,a2,a3,a4,if_false,Bool.false_eq_true]
       cases hsz:cA x.sizes 1 with
       | none=>simp [hsz] at hz
       | some n=>
        have hn:1≤n:=j5 hsz (by omega)
        simp only [hsz] at hz ⊢
        split at hz
        ·cases hz
        ·rename_i a5; simp only [a5,if_false]; show 0≤cells+n∧cells+n≤20000; omega
  by_cases g9:(aU x (List.take i p.arrays) cells).1=0
  ·obtain ⟨hb3,hb4⟩:=hbd g9
   simp [g9,hw,hv,hF2]
   rw [hInv]
   refine ⟨_,hb3,hb4,by show c0+2≤c2; omega,hcell2,hb2.trans hbox,?_⟩
   rw [hI]
   simp only [bJ,g9,if_true]
   rw [List.take_add_one,List.getElem?_eq_getElem hi,hx]; rfl
  ·simp [g9,hF2.retH,aW,h1]
   rw [hI]; simp [bJ,g9]
end Go.Proofs.YtjhogglgkjcacaaGreat
set_option maxRecDepth 20000
set_option maxHeartbeats 4000000
namespace Go.Proofs.YtjhogglgkjcacaaGreat
open Go.AM Go.Wb
theorem uu (A:List Wb.Array) (S:List Wb.Step) (ks:AV) (n0:Int) (g:Nat) (L:List ByteArray):∀ (N:Nat) (e:Wb.Expr) (d:Int) (h0:Heap) (c0:Nat),14≤d+N → -1000≤d→d≤13→dP h0 g A S ks n0→g<c0 →
  ACalls Pg Fn249.n [.ptr g 0 0,e.av,row (am L),.int d] ⟨h0,c0⟩ fun av s'=>av=.int (aE A L d e)∧s'.h=h0:=by
 intro N
 induction N with
 | zero=>intro e d h0 c0 hN hd hd'; omega
 | succ N ih=>
  intro e d h0 c0 hN hd hd' hck hg
  obtain ⟨op,n,form,array,subs,args⟩:=e
  rw [Expr.av_mk]
  refine ACalls.small fun hs=>?_
  have hlen:args.length≤68719476736∧subs.length≤68719476736:=by simp at hs; omega
  refine Fn249.calls .frz ?_
  unfold Fn249.ac
  have hne:¬c0=g:=by omega
  have hne':¬g=c0:=by omega
  by_cases h1:12<d
  ·by_cases h0:4≤op <;> simp [h0,h1,aE]
  by_cases h2:1≤op∧op≤6
  case neg=>
   by_cases h0:4≤op <;> simp [h0,h1]
   all_goals (refine ACalls.pure (co _ _ _) fun c1 hc1=>?_; simp [h1,h2,aE])
  have hck':∀ {h:Heap} {c c':Nat} {b:Option Body},Fr c (upd h0 c0 b) h c'→c0<c→dP h g A S ks n0:=by
   intro h c c' b hF hc
   unfold dP
   rw [hF.h g (by omega),ad (by omega)]
   exact hck
  have hops:op=1∨op=2∨op=3∨4≤op:=by omega
  rcases hops with rfl | rfl | rfl | h4
  ·
   simp [h1]
   refine ACalls.pure (co _ _ _) fun c1 hc1=>?_
   by_cases h6:args=[]
   case neg=>have:=List.length_pos_iff.2 h6; simp [h6,aE,h1,aN]
   simp [h6]
   refine ACalls.pure (jG form) fun c2 hc2=>?_
   cases h7:cU form
   ·simp [aE,h1,aN,h6,h7]
   simp [h6]
   by_cases h8:array=⟨#[]⟩
   case neg=>simp [h8,aE,h1,aN,h6,h7,bR]
   simp [h8]
   by_cases h9:subs=[]
   case neg=>have h9':=List.length_pos_iff.2 h9; simp [h9',h9,aE,h1,aN,h6,h7,bR]
   simp [h9]
   refine ACalls.pure (co _ _ _) fun c3 hc3=>?_
   have hx:aN 1 n form array subs args=true:=by simp [aN,h6,h7,h8,h9,bR]
   by_cases h10:0≤n∧n≤1000002
   case neg=>simp [h10,aE,h1,aN,h6,h7,h8,h9,bR]
   simp [h10,h6]
   obtain ⟨Inv,hInv⟩:∃ Inv:Nat→List Wb.Expr→Slots→St→Prop,Inv=fun i r sl s'=>True:=⟨_,rfl⟩
   refine bq 92 Fn249.W0 ([]:List Wb.Expr) Inv (by rfl) (by rfl) ?_ ?_ ?_
   ·rw [hInv]; simp
   ·intro v h c hv hF hI
    simp at hv
    simp [hv,aE,h1,aN,h6,h7,h8,h9,bR,h10,aY]
    exact ay fun k hk=>by rw [hF.h k (by omega),ad (by omega)]
   ·intro i e es v h c hi; simp at hi
  ·
   simp [h1]
   refine ACalls.pure (co _ _ _) fun c1 hc1=>?_
   by_cases h6:args=[]
   case neg=>simp [h6,aE,h1,aN]
   simp [h6]
   by_cases h7:n=0
   case neg=>simp [h7,aE,h1,aN,h6]
   simp [h7]
   by_cases h8:array=⟨#[]⟩
   case neg=>simp [h8,aE,h1,aN,h6,h7,bR]
   simp [h8]
   by_cases h9:subs=[]
   case neg=>have h9':=List.length_pos_iff.2 h9; simp [h9',h9,aE,h1,aN,h6,h7,bR]
   simp [h9]
   refine ACalls.pure (co _ _ _) fun c3 hc3=>?_
   simp
   refine ACalls.pure (jE form L) fun c4 hc4=>?_
   simp [aE,h1,aN,h6,h7,h8,h9,bR]
  ·
   simp [h1]
   refine ACalls.pure (co _ _ _) fun c1 hc1=>?_
   by_cases h6:args=[]
   case neg=>simp [h6,aE,h1,aN]
   simp [h6]
   by_cases h7:n=0
   case neg=>simp [h7,aE,h1,aN,h6]
   simp [h7]
   refine ACalls.pure (jG form) fun c2 hc2=>?_
   cases h8:cU form
   ·simp [aE,h1,aN,h6,h7,h8]
   simp
   refine ACalls.pure (co _ _ _) fun c3 hc3=>?_
   simp
   refine ACalls.at (pO A S ks n0 g array subs L _ c3 (hck' (c:=c3) (c':=c3) (Fr.le (Nat.le_refl _)) (by omega)) (by omega)) fun c4 hc4=>?_
   simp [aE,h1,aN,h6,h7,h8]
  ·have a1:¬op=1:=by omega
   have a2:¬op=2:=by omega
   have a3:¬op=3:=by omega
   simp [h4,h1]
   refine ACalls.pure (co _ _ _) fun c1 hc1=>?_
   simp [h2]
   by_cases h6:(args.length:Int)=2
   case neg=>simp [h6,aE,h1,aN,a1,a2,a3,h2]
   simp [h6,a1]
   by_cases h7:n=0
   case neg=>simp [h7,aE,h1,aN,a1,a2,a3,h2]
   simp [h7,a2]
   refine ACalls.pure (jG form) fun c2 hc2=>?_
   cases h8:cU form
   ·simp [aE,h1,aN,a1,a2,a3,h2,h8]
   simp [a3]
   by_cases h9:array=⟨#[]⟩
   case neg=>simp [h9,aE,h1,aN,a1,a2,a3,h2,h7,h8,bR]
   simp [h9]
   by_cases h10:subs=[]
   case neg=>have h10':=List.length_pos_iff.2 h10; simp [h10',h10,aE,h1,aN,a1,a2,a3,h2,h7,h8,bR]
   simp [h10]
   refine ACalls.pure (co _ _ _) fun c3 hc3=>?_
   simp [a2,a3,h6]
   have hfin:aE A L d (.mk op 0 form ⟨#[]⟩ [] args)=aY A L (d+1) args:=by simp [aE,h1,aN,a1,a2,a3,h2,h8,bR,h6]
   have h6':((2:Nat):Int)=2:=rfl
   refine bq 92 Fn249.W0 args (fun i r sl s'=>aY A L (d+1) args=aY A L (d+1) r) (by rfl) (by rfl) ?_ ?_ ?_
   ·simp
   ·intro v h c hv hF hI
    rw [h6] at hv
    simp [hv,h7,h9,h10,hfin,hI,aY]
    exact ay fun k hk=>by rw [hF.h k (by omega),ad (by omega)]
   ·intro i e es v h c hi hx hl hv hF hI
    have hi':(i:Int)<2:=by omega
    have hw:=ah (x:=(i:Int)+1) (by omega) (by omega)
    have hw2:=ah (x:=d+1) (by omega) (by omega)
    have hcc:=hF.c
    have hres:∀ {b},retH c0 h0 (upd h c b)=h0:=fun {b}=>ay fun k hk=>by rw [ad (by omega),hF.h k (by omega),ad (by omega)]
    have hce:=fun B=>ih e (d+1) (upd h c B) (c+1) (by omega) (by omega) (by omega) (hck' (hF.upd (b:=B) hcc (Nat.le_succ c)) (by omega)) (by omega)
    obtain ⟨op',n',form',array',subs',args'⟩:=e
    rw [Expr.av_mk] at hce
    simp [hv,hi,hi',hx,Expr.cells_mk,hw2]
    refine ACalls.at (hce _) fun c5 hc5=>?_
    by_cases h11:aE A L (d+1) (.mk op' n' form' array' subs' args')=0
    ·simp [h11,hw,hv,hI,aY]
     exact hF.upd hcc (by omega)
    ·simp [h11,h7,h9,h10,hfin,hI,aY,hres]
end Go.Proofs.YtjhogglgkjcacaaGreat
set_option maxRecDepth 20000
set_option maxHeartbeats 4000000
namespace Go.Proofs.YtjhogglgkjcacaaGreat
open Go.AM Go.Wb
theorem gT (l:List ByteArray) (x:ByteArray) (g:Nat) (h0:Heap) (c0:Nat) (hg:h0 g=some (.row 1 (am l) .live none)) (hlen:l.length≤68719476736) :
  ACalls Pg Fn104.n [.row g 1 0 l.length,.str x] ⟨h0,c0⟩ fun av s'=>av=.int (aK (fun y=>decide (x=y)) l 0)∧s'.h=h0:=by
 refine Fn104.calls .frz ?_
 unfold Fn104.ac
 simp
 refine bK 8 Fn104.W0 l (fun i r sl=>aK (fun y=>decide (x=y)) l 0=aK (fun y=>decide (x=y)) r i) (by rfl) (by rfl) ?_ ?_ ?_
 ·simp
 ·intro v c hv hc hI
  simp [hv,hI,aK]
 ·intro i y ys v c hi hx hl hv hc hI
  have hw:=ah (x:=(i:Int)+1) (by omega) (by omega)
  have hge:(am l)[i]?=some [.str y]:=by simp [am,hi,hx]
  simp [hv,hi,hx,hg,hge]
  by_cases h:x=y
  ·subst h
   simp [hI,aK]
  ·simp [h,hv,hw,hI,aK,hc]
def kq (h:Heap) (ks:AV) (N:List ByteArray):Prop:=(ks=.sl [] true∧N=[])∨∃ gk,ks=.row gk 1 0 N.length∧h gk=some (.row 1 (am N) .live none)
theorem mr (ks:AV) (N:List ByteArray) (x:ByteArray) (h0:Heap) (c0:Nat) (hk:kq h0 ks N) (hN:N.length≤1000000000) :
  ACalls Pg Fn33.n [norm ks,.str x] ⟨h0,c0⟩ fun av s'=>av=.bool (inL x N)∧s'.h=h0:=by
 rcases hk with ⟨rfl,rfl⟩ | ⟨gk,rfl,hg⟩
 ·exact er [] x ⟨h0,c0⟩
 ·refine Fn33.calls .frz ?_
  unfold Fn33.ac
  simp
  refine ACalls.at (gT N x gk h0 c0 hg (by omega)) fun c1 hc1=>?_
  have:=gp (fun y=>decide (x=y)) N 0 (Int.le_refl 0)
  by_cases h:inL x N=true
  ·have h':=this.2 h
   simp [h,h']
  ·have h':¬0≤aK (fun y=>decide (x=y)) N 0:=fun e=>h (this.1 e)
   simp [h,h']
theorem iP (L:List ByteArray):∀ (a b:List Wb.Bound),bv L (a++b)=if bv L a=0 then bv L b else bv L a
 | [],b=>by simp [bv]
 | x::a,b=>by
  have ih:=iP L a b
  simp only [List.cons_append,bv,ih]
  by_cases h1:bP x.form L=0
  ·by_cases h2:1≤x.div∧x.div≤1000 <;> simp [h1,h2]
  ·simp [h1]
theorem pN (l:List Wb.Bound) (L:List ByteArray):aG Pg Fn246.n [row (l.map Bound.cells),row (am L)] (.int (bv L l)):=by
 rintro ⟨h0,c0⟩
 refine ACalls.small fun hs=>?_
 have hlen:l.length≤68719476736:=by simp at hs; exact hs.1.1
 refine Fn246.calls .frz ?_
 unfold Fn246.ac
 simp
 refine bq 10 Fn246.W0 l (fun i r sl s'=>bv L l=bv L r) (by rfl) (by rfl) ?_ ?_ ?_
 ·simp
 ·intro v h c hv hF hI
  simp [hv,hI,bv,hF.retH]
 ·intro i b bs v h c hi hx hl hv hF hI
  have hw:=ah (x:=(i:Int)+1) (by omega) (by omega)
  have hcc:=hF.c
  have hres:∀ {b},retH c0 h0 (upd h c b)=h0:=fun {b}=>(hF.upd hcc (Nat.le_refl _)).retH
  simp [hv,hi,hx,Bound.cells]
  refine ACalls.pure (jE b.form L) fun c5 hc5=>?_
  by_cases h7:bP b.form L=0
  case neg=>simp [h7,hI,bv,hres]
  simp [h7]
  refine ACalls.pure (co _ _ _) fun c6 hc6=>?_
  by_cases h8:1≤b.div∧b.div≤1000
  ·simp [h7,h8,hw,hv,hI,bv]
   exact hF.upd hcc (by omega)
  ·simp [h7,h8,hI,bv,hres]
theorem vP (a b:Int):aG Pg Fn86.n [.sl [[.int a],[.int b]] false] (.int (if a=0 then b else a)):=by
 rintro ⟨h0,c0⟩
 refine Fn86.calls .frz ?_
 unfold Fn86.ac
 simp
 have hget:∀ (i:Nat) (x:Int) (hi:i<[a,b].length),[a,b][i]=x→([[.int a],[.int b]]:List (List AV))[i]?=some [.int x]:=by
  intro i x hi hx
  show ([a,b].map fun n=>[AV.int n])[i]?=_
  rw [List.getElem?_map,List.getElem?_eq_getElem hi,hx]; rfl
 refine bK 7 Fn86.W0 [a,b] (fun i r sl=>(if a=0 then b else a)=(r.find? (fun n=>decide (n≠0))).getD 0) (by rfl) (by rfl) ?_ ?_ ?_
 ·simp
  by_cases h1:a=0 <;> by_cases h2:b=0 <;> simp [h1,h2,List.find?]
 ·intro v c hv hc hI
  simp at hv
  simp [hv,hI]
 ·intro i x xs v c hi hx hl hv hc hI
  have hg:=hget i x hi hx
  have hi2:i<2:=hi
  have hi':(i:Int)<2:=by omega
  have hw:=ah (x:=(i:Int)+1) (by omega) (by omega)
  simp [hv,hi',hg]
  by_cases h8:x=0
  ·simp [h8,hw,hv,hc,hI]
  ·simp [h8,hI]
def aV (A:List Wb.Array) (L N:List ByteArray):Wb.Step→Int×List ByteArray
 | .mk kind name low high conds body array subs expr=>
  if ¬(1≤kind∧kind≤3) then (4,N) else if bD kind name low high conds body array subs expr=false then (3,N) else if kind≠2∧bh name=false then (5,N)
  else if kind=1 then (bu A L name low high,N) else if kind=2 then (bI L conds,N) else (cj A L N name array subs expr,N++[name])
structure RkI (c0:Nat) (h0:Heap) (g:Nat) (A:List Wb.Array) (S:List Wb.Step) (ks0:AV) (n:Int) (N:List ByteArray) (h:Heap) (c:Nat):Prop where
 at_:∃ ks,dP h g A S ks n∧kq h ks N∧∀ gk len,ks=.row gk 1 0 len→gk≠g∧gk<c∧(c0≤gk∨∃ len',ks0=.row gk 1 0 len')
 fr:∀ k,k<c0→k≠g→(∀ len,ks0≠.row k 1 0 len)→h k=h0 k
 c:c0≤c
end Go.Proofs.YtjhogglgkjcacaaGreat
set_option maxRecDepth 20000
set_option maxHeartbeats 4000000
namespace Go.Proofs.YtjhogglgkjcacaaGreat
open Go.AM Go.Wb
theorem RkI.ofFr {c0 c g:Nat} {h0 h:Heap} {A:List Wb.Array} {S:List Wb.Step} {ks:AV} {n:Int} {N:List ByteArray} (hF:Fr c0 h0 h c) (hck:dP h0 g A S ks n) (hk:kq h0 ks N) (hkg:∀ gk len,ks=.row gk 1 0 len→gk≠g∧gk<c0) (hg:g<c0):RkI c0 h0 g A S ks n N h c:=by
 refine ⟨⟨ks,?_,?_,fun gk len e=>⟨(hkg gk len e).1,Nat.lt_of_lt_of_le (hkg gk len e).2 hF.c,.inr ⟨len,e⟩⟩⟩,fun k hk1 _ _=>hF.h k hk1,hF.c⟩
 ·unfold dP; rw [hF.h g hg]; exact hck
 ·rcases hk with h1 | ⟨gk,h1,h2⟩
  ·exact .inl h1
  ·exact .inr ⟨gk,h1,by rw [hF.h gk (hkg gk _ h1).2]; exact h2⟩
theorem uP {h1:Heap} {c:Nat} {ks:AV} {N:List ByteArray} (hk:kq h1 ks N) (name:ByteArray) (hN:N.length≤1000000000) :
  ∃ h2,apI 1 16 .plain ks (.sl [[.str name]] true) ⟨h1,c⟩=some (.row c 1 0 (N.length+1),⟨h2,c+1⟩)∧h2 c=some (.row 1 (am (N++[name])) .live none)∧∀ k,k≠c→(∀ len,ks≠.row k 1 0 len)→h2 k=h1 k:=by
 have hs:am (N++[name])=am N++[[.str name]]:=by simp [am]
 rcases hk with ⟨rfl,rfl⟩ | ⟨g,rfl,hh⟩
 ·have:=db (sz:=1) (bytes:=16) (md:=.plain) (es:=[]) (xs:=[[.str name]]) (b:=true) (s:=⟨h1,c⟩) (by decide) (by decide) (by decide) (by simp) (fun e he=>by simp at he; subst he; rfl) (by simp) (.inr rfl)
  exact ⟨_,this,by simp [am],fun k hk _=>ad hk⟩
 ·have:=cC (sz:=1) (bytes:=16) (len:=N.length) (md:=.plain) (x:=[.str name]) (b:=true) (s:=⟨h1,c⟩) (by simp) hh (by simp [am]) (by decide) (by decide) (by decide) rfl (by omega)
  refine ⟨_,this,by rw [hs]; simp,fun k hk hn=>?_⟩
  have:k≠g:=fun e=>hn _ (by rw [e])
  rw [ad hk,ad this]
theorem ud (A:List Wb.Array) (S:List Wb.Step) (g:Nat) (st:Wb.Step) (L N:List ByteArray) (ks:AV) (n0:Int) (h0:Heap) (c0:Nat) (hck:dP h0 g A S ks n0) (hk:kq h0 ks N)
  (hkg:∀ gk len,ks=.row gk 1 0 len→gk≠g∧gk<c0) (hg:g<c0) (hN:N.length≤1000000000) :
  ACalls Pg Fn174.n [.ptr g 0 0,st.av,row (am L)] ⟨h0,c0⟩ fun av s'=>av=.int (aV A L N st).1∧∃ N',RkI c0 h0 g A S ks n0 N' s'.h s'.c∧((aV A L N st).1=0→N'=(aV A L N st).2):=by
 obtain ⟨kind,name,low,high,conds,body,array,subs,expr⟩:=st
 have hnoE:=ut expr
 have hex:=fun ks d h0 c0 h1 h2 h3 h4 h5=>uu A S ks n0 g L 1000 expr d h0 c0 h1 h2 h3 h4 h5
 obtain ⟨op,n,form,ea,es,args⟩:=expr
 rw [Expr.av_mk] at hnoE hex
 rw [Step.av_mk]
 refine ACalls.small fun hs=>?_
 have hlen:low.length≤68719476736∧high.length≤68719476736∧conds.length≤68719476736:=by simp at hs; omega
 obtain ⟨F,hFe⟩:∃ F,F=aV A L N (.mk kind name low high conds body array subs (.mk op n form ea es args)):=⟨_,rfl⟩
 rw [←hFe]
 refine Fn174.calls .keep ?_
 unfold Fn174.ac
 have hne:¬c0=g:=by omega
 have hne':¬g=c0:=by omega
 obtain ⟨B,hB⟩:∃ B,B=some (Body.row 15 [[AV.int kind,.str name,row (low.map Bound.cells),row (high.map Bound.cells),row (conds.map Form.cells),row (body.map Step.cells),.str array,row (subs.map Form.cells),
   .int op,.int n,.int form.const,row (form.terms.map Term.cells),.str ea,row (es.map Form.cells),row (args.map Expr.cells)]] .live none):=⟨_,rfl⟩
 have hend:∀ {c:Nat} {h:Heap} (w:Int×List ByteArray),w=aV A L N (.mk kind name low high conds body array subs (.mk op n form ea es args))→Fr c0 h0 h c→(w.1=0→w.2=N) →
   w.1=F.1∧∃ N',RkI c0 h0 g A S ks n0 N' h c∧(F.1=0→N'=F.2):=by
  intro c h w hw hF hz
  rw [←hFe] at hw
  subst hw
  exact ⟨rfl,N,RkI.ofFr hF hck hk hkg hg,fun e=>(hz e).symm⟩
 obtain ⟨h1,hh1⟩:∃ h1,h1=upd h0 c0 B:=⟨_,rfl⟩
 have hFB:∀ {c:Nat},c0≤c→Fr c0 h0 h1 c:=fun hc=>⟨hc,fun k hk=>by rw [hh1]; exact ad (by omega)⟩
 have hb:=(show h1 c0=B by rw [hh1]; exact af).trans hB
 have hg0:=(show h1 g=h0 g by rw [hh1]; exact ad hne').trans hck
 have hsum:=ah (x:=(low.length:Int)+high.length) (by omega) (by omega)
 by_cases k1:kind=1
 ·subst k1
  simp [hb]
  refine ACalls.pure (co _ _ _) fun c1 hc1=>?_
  rw [←hB,←hh1]
  simp [hb]
  by_cases a1:conds=[]
  case neg=>
   have a1':=List.length_pos_iff.2 a1
   simp [a1',hb]
   exact hend (3,N) (by simp [aV,bD,a1]) (hFB (by omega)) (fun h=>by cases h)
  simp [a1,hb]
  by_cases a2:array=⟨#[]⟩
  case neg=>
   simp [a2,hb]
   exact hend (3,N) (by simp [aV,bD,a1,a2,bR]) (hFB (by omega)) (fun h=>by cases h)
  simp [a2,hb]
  by_cases a3:subs=[]
  case neg=>
   have a3':=List.length_pos_iff.2 a3
   simp [a3',hb]
   exact hend (3,N) (by simp [aV,bD,a1,a2,a3,bR]) (hFB (by omega)) (fun h=>by cases h)
  simp [a3,hb]
  refine ACalls.pure hnoE fun c2 hc2=>?_
  cases a4:cH (.mk op n form ea es args)
  ·simp
   exact hend (3,N) (by simp [aV,bD,a1,a2,a3,a4,bR]) (hFB (by omega)) (fun h=>by cases h)
  simp [hb]
  refine ACalls.pure (fN name) fun c3 hc3=>?_
  cases a5:bh name
  ·simp
   exact hend (5,N) (by simp [aV,bD,a1,a2,a3,a4,a5,bR]) (hFB (by omega)) (fun h=>by cases h)
  simp [hb]
  have hspec:aV A L N (.mk 1 name low high conds body array subs (.mk op n form ea es args))=(bu A L name low high,N):=by simp [aV,bD,a1,a2,a3,a4,a5,bR]
  refine ACalls.pure (er L name) fun c4 hc4=>?_
  cases a6:inL name L
  case true=>
   simp [hb]
   exact hend (6,N) (by rw [hspec]; simp [bu,a6]) (hFB (by omega)) (fun h=>by cases h)
  simp [hg0,hb]
  refine ACalls.pure (oc ⟨A,S⟩ name) fun c5 hc5=>?_
  by_cases a7:0≤bX A name
  ·simp [a7]
   exact hend (6,N) (by rw [hspec]; simp [bu,a7]) (hFB (by omega)) (fun h=>by cases h)
  simp [a7,hb,hb]
  by_cases a8:low=[]
  ·simp [a8]
   exact hend (8,N) (by rw [hspec]; simp [bu,a6,a7,a8]) (hFB (by omega)) (fun h=>by cases h)
  simp [a8,hb]
  by_cases a9:high=[]
  ·simp [a9]
   exact hend (8,N) (by rw [hspec]; simp [bu,a6,a7,a8,a9]) (hFB (by omega)) (fun h=>by cases h)
  simp [a9,hb]
  by_cases a10:(6:Int)<low.length
  ·simp [a10]
   exact hend (2,N) (by rw [hspec]; simp [bu,a6,a7,a8,a9,a10]) (hFB (by omega)) (fun h=>by cases h)
  simp [a10,hb]
  by_cases a11:(6:Int)<high.length
  ·simp [a11]
   exact hend (2,N) (by rw [hspec]; simp [bu,a6,a7,a8,a9,a10,a11]) (hFB (by omega)) (fun h=>by cases h)
  simp [a11,hb,hb]
  refine ACalls.pure (pN low L) fun c6 hc6=>?_
  simp [hb]
  refine ACalls.pure (pN high L) fun c7 hc7=>?_
  simp [bsI,an,hb]
  refine ACalls.pure (vP _ _) fun c8 hc8=>?_
  simp [hb]
  exact hend ((if bv L low=0 then bv L high else bv L low),N) (by rw [hspec]; simp [bu,a6,a7,a8,a9,a10,a11,iP]) (hFB (by omega)) (fun h=>rfl)
 by_cases k2:kind=2
 ·subst k2
  simp [hb]
  refine ACalls.pure (co _ _ _) fun c1 hc1=>?_
  rw [←hB,←hh1]
  simp [hb]
  by_cases a0:name=⟨#[]⟩
  case neg=>
   simp [a0,hb]
   exact hend (3,N) (by simp [aV,bD,a0,bR]) (hFB (by omega)) (fun h=>by cases h)
  simp [a0,hsum,hb]
  by_cases a1:low=[]∧high=[]
  case neg=>
   have a1':(0:Int)<(low.length:Int)+high.length:=by
    rcases Classical.not_and_iff_not_or_not.1 a1 with h | h <;> have:=List.length_pos_iff.2 h <;> omega
   simp [a1',hb]
   exact hend (3,N) (by simp [aV,bD,a0,bR,a1]) (hFB (by omega)) (fun h=>by cases h)
  obtain ⟨a1,a1b⟩:=a1
  simp [a1,a1b,hb]
  by_cases a2:array=⟨#[]⟩
  case neg=>
   simp [a2,hb]
   exact hend (3,N) (by simp [aV,bD,a0,a1,a1b,a2,bR]) (hFB (by omega)) (fun h=>by cases h)
  simp [a2,hb]
  by_cases a3:subs=[]
  case neg=>
   have a3':=List.length_pos_iff.2 a3
   simp [a3',hb]
   exact hend (3,N) (by simp [aV,bD,a0,a1,a1b,a2,a3,bR]) (hFB (by omega)) (fun h=>by cases h)
  simp [a3,hb]
  refine ACalls.pure hnoE fun c2 hc2=>?_
  cases a4:cH (.mk op n form ea es args)
  ·simp
   exact hend (3,N) (by simp [aV,bD,a0,a1,a1b,a2,a3,a4,bR]) (hFB (by omega)) (fun h=>by cases h)
  simp [hb]
  have hspec:aV A L N (.mk 2 name low high conds body array subs (.mk op n form ea es args))=(bI L conds,N):=by simp [aV,bD,a0,a1,a1b,a2,a3,a4,bR]
  by_cases a5:conds=[]
  ·simp [a5,hb]
   exact hend (8,N) (by rw [hspec]; simp [bI,a5]) (hFB (by omega)) (fun h=>by cases h)
  simp [a5,hb]
  by_cases a6:(6:Int)<conds.length
  ·simp [a6,hb]
   exact hend (2,N) (by rw [hspec]; simp [bI,a5,a6]) (hFB (by omega)) (fun h=>by cases h)
  simp [a6,hb]
  refine bq 160 Fn174.W0 conds (fun i r sl s'=>bH L conds=bH L r) (by rfl) (by rfl) ?_ ?_ ?_
  ·simp
  ·intro v h c hv hF hI
   simp [hv]
   exact hend (0,N) (by rw [hspec]; simp [bI,a5,a6,hI,bH]) ⟨by have:=hF.c; omega,fun k hk=>by rw [hF.h k (by omega),hh1,ad (by omega)]⟩ (fun h=>rfl)
  ·intro i f fs v h c hi hx hl hv hF hI
   have hw:=ah (x:=(i:Int)+1) (by omega) (by omega)
   have hcc:=hF.c
   simp [hv,hi,hx,Form.cells]
   refine ACalls.pure (jE f L) fun c3 hc3=>?_
   by_cases h7:bP f L=0
   ·simp [h7,hw,hv,hI,bH]
    exact hF.upd hcc (by omega)
   ·simp [h7]
    exact hend (bP f L,N) (by rw [hspec]; simp [bI,a5,a6,hI,bH,h7]) ⟨by omega,fun k hk=>by rw [ad (by omega),hF.h k (by omega),hh1,ad (by omega)]⟩ (fun h=>rfl)
 by_cases k3:1≤kind∧kind≤3
 case neg=>
  simp [k1,k2]
  refine ACalls.pure (co _ _ _) fun c1 hc1=>?_
  rw [←hB,←hh1]
  simp [k3]
  exact hend (4,N) (by simp only [aV,k3,not_false_eq_true,if_true]) (hFB (by omega)) (fun h=>by cases h)
 have k3':kind=3:=by omega
 subst k3'
 simp
 refine ACalls.pure (co _ _ _) fun c1 hc1=>?_
 rw [←hB,←hh1]
 simp [hb,hsum]
 by_cases a1:low=[]∧high=[]
 case neg=>
  have a1':(0:Int)<(low.length:Int)+high.length:=by
   rcases Classical.not_and_iff_not_or_not.1 a1 with h | h <;> have:=List.length_pos_iff.2 h <;> omega
  simp [a1',hb]
  exact hend (3,N) (by simp [aV,bD,a1]) (hFB (by omega)) (fun h=>by cases h)
 obtain ⟨a1,a1b⟩:=a1
 simp [a1,a1b,hb]
 by_cases a2:conds=[]
 case neg=>
  have a2':=List.length_pos_iff.2 a2
  simp [a2',hb]
  exact hend (3,N) (by simp [aV,bD,a1,a1b,a2]) (hFB (by omega)) (fun h=>by cases h)
 simp [a2,hb]
 by_cases a3:body=[]
 case neg=>
  have a3':=List.length_pos_iff.2 a3
  simp [a3',hb]
  exact hend (3,N) (by simp [aV,bD,a1,a1b,a2,a3]) (hFB (by omega)) (fun h=>by cases h)
 simp [a3,hb]
 refine ACalls.pure (fN name) fun c3 hc3=>?_
 cases a5:bh name
 ·simp
  exact hend (5,N) (by simp [aV,bD,a1,a1b,a2,a3,a5]) (hFB (by omega)) (fun h=>by cases h)
 have hspec:aV A L N (.mk 3 name low high conds body array subs (.mk op n form ea es args))=(cj A L N name array subs (.mk op n form ea es args),N++[name]):=by simp [aV,bD,a1,a1b,a2,a3,a5]
 have hk1:kq h1 ks N:=by
  rcases hk with h | ⟨gk,h,h'⟩
  ·exact .inl h
  ·exact .inr ⟨gk,h,by rw [hh1,ad (by have:=(hkg gk _ h).2; omega)]; exact h'⟩
 simp [hg0,hb]
 refine ACalls.at (mr ks N name h1 c3 hk1 hN) fun c4 hc4=>?_
 cases a6:inL name N
 case true=>
  simp
  exact hend (6,N++[name]) (by rw [hspec]; simp [cj,a6]) (hFB (by omega)) (fun h=>by cases h)
 obtain ⟨h2,hap,hn2,hfr2⟩:=uP (c:=c4) hk1 name hN
 have hkg2:∀ k,k<c0→(∀ len,ks≠.row k 1 0 len)→h2 k=h0 k:=fun k hk hn=>by rw [hfr2 k (by omega) hn,hh1,ad (by omega)]
 have hg2:h2 g=h0 g:=hkg2 g hg fun len e=>(hkg g len e).1 rfl
 have hb2:h2 c0=h1 c0:=hfr2 c0 (by omega) fun len e=>by have:=(hkg c0 len e).2; omega
 obtain ⟨h3,hh3⟩:∃ h3,h3=upd h2 g (some (.row 4 [[row (A.map Array.cells),row (S.map Step.cells),.row c4 1 0 (N.length+1),.int n0]] .live none)):=⟨_,rfl⟩
 have hb3:h3 c0=_:=((show h3 c0=h2 c0 by rw [hh3,ad hne]).trans hb2).trans hb
 have hck3:dP h3 g A S (.row c4 1 0 (N.length+1)) n0:=by rw [hh3]; exact af
 have hI3:∀ {c:Nat},c4+1≤c→RkI c0 h0 g A S ks n0 (N++[name]) h3 c:=fun hc=>by
  refine ⟨⟨_,hck3,.inr ⟨c4,by simp,by rw [hh3,ad (by omega)]; exact hn2⟩,fun gk len e=>?_⟩,fun k hk a b=>by rw [hh3,ad a]; exact hkg2 k hk b,by omega⟩
  injection e with e1 e2 e3 e4
  subst e1
  exact ⟨by omega,by omega,.inl (by omega)⟩
 have hend2:∀ {c:Nat} (e:Int),e=cj A L N name array subs (.mk op n form ea es args)→c4+1≤c→e=F.1∧∃ N',RkI c0 h0 g A S ks n0 N' h3 c∧(F.1=0→N'=F.2):=by
  intro c e he hc
  rw [hspec] at hFe
  rw [hFe,he]
  exact ⟨rfl,N++[name],hI3 hc,fun _=>rfl⟩
 unfold dP at hck
 simp [hg0,hb,bsI,an,hap,hg2,hck]
 rw [←hh3]
 simp [hb3]
 refine ACalls.at (pO A S _ n0 g array subs L h3 _ hck3 (by omega)) fun c5 hc5=>?_
 by_cases a7:bF A array subs L=0
 case neg=>
  simp [a7]
  exact hend2 _ (by simp [cj,a6,a7]) (by omega)
 simp [a7,hb3]
 refine ACalls.at (hex _ 1 h3 c5 (by omega) (by omega) (by omega) hck3 (by omega)) fun c6 hc6=>?_
 simp
 exact hend2 _ (by simp [cj,a6,a7]) (by omega)
end Go.Proofs.YtjhogglgkjcacaaGreat
set_option maxRecDepth 20000
set_option maxHeartbeats 4000000
namespace Go.Proofs.YtjhogglgkjcacaaGreat
open Go.AM Go.Wb
structure RkJ (c0:Nat) (h0:Heap) (g:Nat) (A:List Wb.Array) (S:List Wb.Step) (ks0 ks:AV) (n:Int) (N:List ByteArray) (h:Heap) (c:Nat):Prop where
 at_:dP h g A S ks n
 keys:kq h ks N
 gen:∀ gk len,ks=.row gk 1 0 len→gk≠g∧gk<c∧(c0≤gk∨∃ len',ks0=.row gk 1 0 len')
 fr:∀ k,k<c0→k≠g→(∀ len,ks0≠.row k 1 0 len)→h k=h0 k
 c:c0≤c
section
variable {c0 c1 c g:Nat} {h0 h1 h:Heap} {A:List Wb.Array} {S:List Wb.Step} {ks0 ks1 ks:AV} {n n1:Int} {N N1:List ByteArray}
theorem RkI.j (i:RkI c0 h0 g A S ks0 n N h c):∃ ks,RkJ c0 h0 g A S ks0 ks n N h c:=by
 obtain ⟨⟨ks,h1,h2,h3⟩,h4,h5⟩:=i
 exact ⟨ks,h1,h2,h3,h4,h5⟩
theorem RkJ.i (j:RkJ c0 h0 g A S ks0 ks n N h c):RkI c0 h0 g A S ks0 n N h c:=⟨⟨ks,j.at_,j.keys,j.gen⟩,j.fr,j.c⟩
theorem RkJ.trans (j:RkJ c0 h0 g A S ks0 ks1 n1 N1 h1 c1) (k:RkI c1 h1 g A S ks1 n N h c):RkI c0 h0 g A S ks0 n N h c:=by
 obtain ⟨ks,k⟩:=k.j
 refine (RkJ.mk (ks:=ks) k.at_ k.keys (fun gk len e=>?_) (fun q hq a b=>?_) (Nat.le_trans j.c k.c)).i
 ·obtain ⟨h1,h2,h3⟩:=k.gen gk len e
  refine ⟨h1,h2,?_⟩
  rcases h3 with h3 | ⟨len',h3⟩
  ·exact .inl (Nat.le_trans j.c h3)
  ·exact (j.gen gk len' h3).2.2
 ·rw [k.fr q (Nat.lt_of_lt_of_le hq j.c) a fun len e=>?_,j.fr q hq a b]
  obtain ⟨_,_,h3⟩:=j.gen q len e
  rcases h3 with h3 | ⟨len',h3⟩
  ·omega
  ·exact b len' h3
theorem RkJ.upd (j:RkJ c0 h0 g A S ks0 ks n N h c) (hg:g<c0) {k c':Nat} {b:Option Body} (hk:c≤k) (hc:c≤c'):RkJ c0 h0 g A S ks0 ks n N (AM.upd h k b) c':=by
 have hc0:=j.c
 refine ⟨?_,?_,fun gk len e=>⟨(j.gen gk len e).1,Nat.lt_of_lt_of_le (j.gen gk len e).2.1 hc,(j.gen gk len e).2.2⟩,fun q hq a b'=>by rw [ad (by omega)]; exact j.fr q hq a b',by omega⟩
 ·unfold dP; rw [ad (by omega)]; exact j.at_
 ·rcases j.keys with h1 | ⟨gk,h1,h2⟩
  ·exact .inl h1
  ·exact .inr ⟨gk,h1,by rw [ad (by have:=(j.gen gk _ h1).2.1; omega)]; exact h2⟩
theorem RkJ.more (j:RkJ c0 h0 g A S ks0 ks n N h c) {c':Nat} (hc:c≤c'):RkJ c0 h0 g A S ks0 ks n N h c':=
 ⟨j.at_,j.keys,fun gk len e=>⟨(j.gen gk len e).1,Nat.lt_of_lt_of_le (j.gen gk len e).2.1 hc,(j.gen gk len e).2.2⟩,j.fr,Nat.le_trans j.c hc⟩
theorem RkJ.same (j:RkJ c0 h0 g A S ks0 ks n N h1 c1) (hg:g<c0) (hF:Fr c1 h1 h c):RkJ c0 h0 g A S ks0 ks n N h c:=by
 have hc0:=j.c
 have hcc:=hF.c
 refine ⟨?_,?_,fun gk len e=>⟨(j.gen gk len e).1,Nat.lt_of_lt_of_le (j.gen gk len e).2.1 hcc,(j.gen gk len e).2.2⟩,fun q hq a b=>by rw [hF.h q (by omega)]; exact j.fr q hq a b,by omega⟩
 ·unfold dP; rw [hF.h g (by omega)]; exact j.at_
 ·rcases j.keys with h1 | ⟨gk,h1,h2⟩
  ·exact .inl h1
  ·exact .inr ⟨gk,h1,by rw [hF.h gk (j.gen gk _ h1).2.1]; exact h2⟩
theorem RkJ.set (j:RkJ c0 h0 g A S ks0 ks n N h c) (m:Int):RkJ c0 h0 g A S ks0 ks m N (AM.upd h g (some (.row 4 [[row (A.map Array.cells),row (S.map Step.cells),ks,.int m]] .live none))) c:=by
 refine ⟨af,?_,j.gen,fun q hq a b=>by rw [ad a]; exact j.fr q hq a b,j.c⟩
 rcases j.keys with h1 | ⟨gk,h1,h2⟩
 ·exact .inl h1
 ·exact .inr ⟨gk,h1,by rw [ad (j.gen gk _ h1).1]; exact h2⟩
end
theorem pu (A:List Wb.Array) (L:List ByteArray) (d:Int) (N:List ByteArray) (kind:Int) (name:ByteArray) (low high:List Wb.Bound) (conds:List Wb.Form) (body:List Wb.Step) (array:ByteArray) (subs:List Wb.Form) (expr:Wb.Expr) (hd:¬12<d) :
  let s:=Wb.Step.mk kind name low high conds body array subs expr
  ((aV A L N s).1≠0→(aD A L d N s).1=(aV A L N s).1) ∧
  ((aV A L N s).1=0→aD A L d N s=aC A (if kind=1 then L++[name] else L) (d+1) (aV A L N s).2 body):=by
 intro s
 simp only [s,aD,aV,hd,if_false]
 by_cases h1:1≤kind∧kind≤3
 case neg=>simp [h1]
 cases h2:bD kind name low high conds body array subs expr
 ·simp [h1,h2]
 by_cases h3:kind≠2∧bh name=false
 ·obtain ⟨h3a,h3b⟩:=h3
  simp [h1,h2,h3a,h3b]
 simp only [h1,h2,h3,if_true,if_false,not_true,and_self,Bool.true_eq_false]
 by_cases h4:kind=1
 ·simp only [h4,if_true]
  by_cases h5:bu A L name low high=0 <;> simp [h5]
 ·simp only [h4,if_false]
  by_cases h5:kind=2
  ·simp only [h5,if_true]
   by_cases h6:bI L conds=0 <;> simp [h6]
  ·simp only [h5,if_false]
   have hb:body=[]:=by
    simp [bD,h4,h5] at h2
    exact h2.2
   subst hb
   constructor
   ·intro _; simp
   ·intro h; simp [aC,h]
theorem wj (A:List Wb.Array) (L N:List ByteArray) (s:Wb.Step):(aV A L N s).2.length≤N.length+1:=by
 obtain ⟨kind,name,low,high,conds,body,array,subs,expr⟩:=s
 simp only [aV]
 repeat' split
 all_goals simp
theorem tK (A:List Wb.Array) (S:List Wb.Step) (g:Nat):∀ (Nf:Nat) (l:List Wb.Step) (d:Int) (L N:List ByteArray) (ks:AV) (n0:Int) (h0:Heap) (c0:Nat),14≤d+Nf→(L.length:Int)<d→d≤13 →
  dP h0 g A S ks n0→kq h0 ks N→(∀ gk len,ks=.row gk 1 0 len→gk≠g∧gk<c0)→g<c0→0≤n0→n0+aB l<1000000000→N.length+aB l≤1000000000 →
  ACalls Pg Fn102.n [.ptr g 0 0,row (l.map Step.cells),row (am L),.int d] ⟨h0,c0⟩ fun av s'=>av=.int (aC A L d N l).1∧∃ n' N',RkI c0 h0 g A S ks n' N' s'.h s'.c∧((aC A L d N l).1=0→n'=n0+aB l∧N'=(aC A L d N l).2∧N'.length≤N.length+aB l):=by
 intro Nf
 induction Nf with
 | zero=>intro l d L N ks n0 h0 c0 hN hd hd'; omega
 | succ Nf ih=>
  intro l d L N ks n0 h0 c0 hNf hd hd' hck hk hkg hg hn0 hcnt hlenN
  refine ACalls.small fun hs=>?_
  have hlenl:l.length≤68719476736:=by simp at hs; exact hs.1.1
  obtain ⟨F,hF⟩:∃ F,F=aC A L d N l:=⟨_,rfl⟩
  rw [←hF]
  refine Fn102.calls .keep ?_
  unfold Fn102.ac
  simp
  have j0:RkJ c0 h0 g A S ks ks n0 N h0 c0:=⟨hck,hk,fun gk len e=>⟨(hkg gk len e).1,(hkg gk len e).2,.inr ⟨len,e⟩⟩,fun _ _ _ _=>rfl,Nat.le_refl _⟩
  obtain ⟨Inv,hInv⟩:∃ Inv:Nat→List Wb.Step→Slots→St→Prop,Inv=fun i r sl s'=>∃ n' N',RkI c0 h0 g A S ks n' N' s'.h s'.c∧n'=n0+aB (l.take i)∧N'.length≤N.length+aB (l.take i)∧F=aC A L d N' r:=⟨_,rfl⟩
  refine bz 16 Fn102.W0 l Inv (by rfl) (by rfl) ?_ ?_ ?_
  ·rw [hInv]; exact ⟨by simp,n0,N,j0.i,by simp [aB],by simp [aB],hF⟩
  ·intro v s' hv hI
   rw [hInv] at hI
   obtain ⟨n',N',hI,hn',hl',hF'⟩:=hI
   rw [List.take_length] at hn' hl'
   simp [hv]
   have h0F:F=(0,N'):=by rw [hF']; rfl
   refine ⟨by rw [h0F],n',N',hI,fun _=>⟨hn',by rw [h0F],hl'⟩⟩
  ·intro i x xs v s' hi hx hl hv hI
   rw [hInv] at hI
   obtain ⟨n',N',hI,hn',hl',hF'⟩:=hI
   obtain ⟨h,c⟩:=s'
   simp only at hI
   obtain ⟨ks1,j1⟩:=hI.j
   have hc0c:=j1.c
   have hcut:=fy hl
   have htake:=gd hl hi
   have hw:=ah (x:=(i:Int)+1) (by omega) (by omega)
   have hw2:=ah (x:=d+1) (by omega) (by omega)
   have hw3:=ah (x:=n'+1) (by omega) (by omega)
   have hone:=fun ks h0 c0 h1 h2 h3 h4 h5=>ud A S g x L N' ks (n'+1) h0 c0 h1 h2 h3 h4 h5
   obtain ⟨kind,name,low,high,conds,body,array,subs,⟨op,n,form,ea,es,args⟩⟩:=x
   rw [Step.av_mk] at hone
   have hcnt1:count (.mk kind name low high conds body array subs (.mk op n form ea es args))=1+aB body:=by simp [count]
   have hne:¬c=g:=by omega
   have hne':¬g=c:=by omega
   obtain ⟨B,hB⟩:∃ B,B=some (Body.row 15 [[AV.int kind,.str name,row (low.map Bound.cells),row (high.map Bound.cells),row (conds.map Form.cells),row (body.map Step.cells),.str array,row (subs.map Form.cells),
    .int op,.int n,.int form.const,row (form.terms.map Term.cells),.str ea,row (es.map Form.cells),row (args.map Expr.cells)]] .live none):=⟨_,rfl⟩
   obtain ⟨h2,hh2⟩:∃ h2,h2=upd (upd h c B) g (some (.row 4 [[row (A.map Array.cells),row (S.map Step.cells),ks1,.int (n'+1)]] .live none)):=⟨_,rfl⟩
   have j2:RkJ c0 h0 g A S ks ks1 (n'+1) N' h2 (c+1):=by rw [hh2]; exact (j1.upd hg (Nat.le_refl _) (Nat.le_succ _)).set (n'+1)
   have hbox:h2 c=B:=by rw [hh2,ad hne,af]
   have hbox':=hbox.trans hB
   have hat:=j1.at_
   unfold dP at hat
   have hcell:∀ (e:Int) (N2:List ByteArray),True:=fun _ _=>trivial
   simp [hv,hi,hx,Step.cells_mk,hat,hne,hne',hw3]
   rw [←hB,←hh2]
   have hFx:F.1=(if (aD A L d N' (.mk kind name low high conds body array subs (.mk op n form ea es args))).1=0 then (aC A L d (aD A L d N' (.mk kind name low high conds body array subs (.mk op n form ea es args))).2 xs).1 else (aD A L d N' (.mk kind name low high conds body array subs (.mk op n form ea es args))).1):=by
    rw [hF']; simp only [aC]; split <;> rfl
   have hFz:(aD A L d N' (.mk kind name low high conds body array subs (.mk op n form ea es args))).1=0→F=aC A L d (aD A L d N' (.mk kind name low high conds body array subs (.mk op n form ea es args))).2 xs:=fun h=>by
    rw [hF']; simp only [aC,h,if_true]
   have hFe:(aD A L d N' (.mk kind name low high conds body array subs (.mk op n form ea es args))).1≠0→F.1=(aD A L d N' (.mk kind name low high conds body array subs (.mk op n form ea es args))).1:=fun h=>by
    rw [hFx,if_neg h]
   by_cases g1:12<d
   ·have hsf:(aD A L d N' (.mk kind name low high conds body array subs (.mk op n form ea es args))).1=2:=by simp [aD,g1]
    have hF1:F.1=2:=by rw [hFe (by rw [hsf]; decide),hsf]
    simp [g1]
    exact ⟨hF1.symm,_,_,j2.i,fun h=>by rw [hF1] at h; cases h⟩
   obtain ⟨hs1,hs2⟩:=pu A L d N' kind name low high conds body array subs (.mk op n form ea es args) g1
   simp [g1,hbox']
   refine (hone ks1 h2 (c+1) j2.at_ j2.keys (fun gk len e=>⟨(j2.gen gk len e).1,(j2.gen gk len e).2.1⟩) (by omega) (by omega)).mono ?_
   rintro av ⟨h3,c3⟩ hc3 ⟨rfl,N3,hI3,hz3⟩
   simp only at hI3 hc3
   have hI3':=j2.trans hI3
   by_cases e1:(aV A L N' (.mk kind name low high conds body array subs (.mk op n form ea es args))).1=0
   case neg=>
    have hF1:F.1=(aV A L N' (.mk kind name low high conds body array subs (.mk op n form ea es args))).1:=by rw [hFe (by rw [hs1 e1]; exact e1),hs1 e1]
    simp [e1]
    exact ⟨hF1.symm,_,_,hI3',fun h=>by rw [hF1] at h; exact absurd h e1⟩
   have hN3:=hz3 e1
   have hN3l:N3.length≤N'.length+1:=by rw [hN3]; exact wj _ _ _ _
   have hb3:h3 c=h2 c:=hI3.fr c (by omega) hne fun len e=>by have:=(j1.gen c len e).2.1; omega
   have hbox3:=hb3.trans hbox'
   have hc3':=hI3.c
   simp [e1,hbox3]
   by_cases k1:kind=1
   ·subst k1
    simp [hbox3,bsI,an]
    refine (eh L h3 c3).mono ?_
    rintro av ⟨h9,c9⟩ hc9 ⟨hF1,hav⟩
    simp only at hF1 hav hc9
    obtain ⟨g2',c6,h6,hap,hg2,hF3,hg2c⟩:=dO hF1 hav name (by omega)
    have hsl:(am (L++[name])).length=L.length+1:=by simp [am]
    have hfz:=dx (s:=⟨h6,c6⟩) (z:=1) hg2 hsl
    obtain ⟨h7,hh7⟩:∃ h7,h7=upd h6 g2' (some (.row 1 (am (L++[name])) .frz none)):=⟨_,rfl⟩
    have hF4:Fr c3 h3 h7 c6:=by rw [hh7]; exact hF3.upd hg2c (Nat.le_refl _)
    have hF4c:=hF4.c
    have hbox4:=((hF1.h c (by omega)).trans hbox3)
    have hbox7:=((hF4.h c (by omega)).trans hbox3)
    simp [hbox4,hap,hfz,-dK]
    rw [←hh7]
    simp [hbox7,hw2]
    have hI4:RkI c0 h0 g A S ks (n'+1) N3 h7 c6:=by obtain ⟨ks9,j9⟩:=hI3'.j; exact (j9.same hg hF4).i
    have hspec:aD A L d N' (.mk 1 name low high conds body array subs (.mk op n form ea es args))=aC A (L++[name]) (d+1) N3 body:=by
     rw [hs2 e1,hN3]; rfl
    obtain ⟨ks4,j4⟩:=hI4.j
    refine (ih body (d+1) (L++[name]) N3 ks4 (n'+1) h7 c6 (by omega) (by simp; omega) (by omega) j4.at_ j4.keys (fun gk len e=>⟨(j4.gen gk len e).1,(j4.gen gk len e).2.1⟩) (by omega) (by rw [hn']; omega) (by rw [hn']; omega) (by omega)).mono ?_
    rintro av ⟨h5,c5⟩ hc5 ⟨rfl,n5,N5,hI5,hz5⟩
    simp only at hI5 hc5
    have hI5':=j4.trans hI5
    by_cases e2:(aC A (L++[name]) (d+1) N3 body).1=0
    ·obtain ⟨q1,q2,q3⟩:=hz5 e2
     simp [e2,hw,hv]
     rw [hInv]
     exact ⟨n5,N5,hI5',by rw [q1,hn',htake,hcnt1]; omega,by rw [htake,hcnt1]; omega,by rw [hFz (by rw [hspec]; exact e2),hspec,q2]⟩
    ·simp [e2]
     refine ⟨by rw [hFe (by rw [hspec]; exact e2),hspec],n5,N5,hI5',fun h=>absurd h ?_⟩
     rw [hFe (by rw [hspec]; exact e2),hspec]; exact e2
   simp [k1,hbox3,hw2]
   have hI4:=hI3'
   have hspec:aD A L d N' (.mk kind name low high conds body array subs (.mk op n form ea es args))=aC A L (d+1) N3 body:=by
    rw [hs2 e1,hN3]; simp [k1]
   obtain ⟨ks4,j4⟩:=hI4.j
   refine (ih body (d+1) L N3 ks4 (n'+1) h3 c3 (by omega) (by omega) (by omega) j4.at_ j4.keys (fun gk len e=>⟨(j4.gen gk len e).1,(j4.gen gk len e).2.1⟩) (by omega) (by rw [hn']; omega) (by rw [hn']; omega) (by omega)).mono ?_
   rintro av ⟨h5,c5⟩ hc5 ⟨rfl,n5,N5,hI5,hz5⟩
   simp only at hI5 hc5
   have hI5':=j4.trans hI5
   by_cases e2:(aC A L (d+1) N3 body).1=0
   ·obtain ⟨q1,q2,q3⟩:=hz5 e2
    simp [e2,hw,hv]
    rw [hInv]
    exact ⟨n5,N5,hI5',by rw [q1,hn',htake,hcnt1]; omega,by rw [htake,hcnt1]; omega,by rw [hFz (by rw [hspec]; exact e2),hspec,q2]⟩
   ·simp [e2]
    refine ⟨by rw [hFe (by rw [hspec]; exact e2),hspec],n5,N5,hI5',fun h=>absurd h ?_⟩
    rw [hFe (by rw [hspec]; exact e2),hspec]; exact e2
end Go.Proofs.YtjhogglgkjcacaaGreat
set_option maxRecDepth 20000
set_option maxHeartbeats 4000000
namespace Go.Proofs.YtjhogglgkjcacaaGreat
open Go.AM Go.Wb
theorem rN {α:Type} (p:α→Bool):∀ (l:List α) (i k:Int),0≤i→∀ (n:Nat) (x:α) (hn:n<l.length),l[n]=x→p x=true→(aK p l i<i+n↔(l.take n).any p=true)
 | [],i,k,hi,n,x,hn,_,_=>by simp at hn
 | y::ys,i,k,hi,0,x,hn,hx,hp=>by
  simp at hx; subst hx
  simp [aK,hp]
 | y::ys,i,k,hi,n+1,x,hn,hx,hp=>by
  have ih:=rN p ys (i+1) k (by omega) n x (by simpa using hn) (by simpa using hx) hp
  by_cases hy:p y=true
  ·simp [aK,hy]; omega
  ·simp only [aK,hy,List.take_succ_cons,List.any_cons,Bool.false_or]
   simp only [Bool.false_eq_true,if_false]
   rw [←ih]
   constructor <;> intro h <;> omega
theorem vI (p:Wb.Prog) (hcnt:aB p.steps<100000000):aG Pg Fn30.n [p.av] (.int (aW p)):=by
 rintro ⟨h0,c0⟩
 refine ACalls.small fun hs=>?_
 have hlen:p.arrays.length≤68719476736∧p.steps.length≤68719476736:=by simp [Prog.av] at hs; omega
 refine Fn30.calls .frz ?_
 unfold Fn30.ac
 simp [Prog.av]
 by_cases h1:(20:Int)<p.arrays.length
 ·simp [h1,aW]
 simp [h1]
 obtain ⟨Inv,hInv⟩:∃ Inv:Nat→List Wb.Array→Slots→St→Prop,Inv=fun i r sl s'=>∃ cells,0≤cells∧cells≤20000∧sl 3=.int cells∧bJ [] p.arrays 0=bJ (p.arrays.take i) r cells:=⟨_,rfl⟩
 refine bq 18 Fn30.W0 p.arrays Inv (by rfl) (by rfl) ?_ ?_ ?_
 ·rw [hInv]; exact ⟨by simp,0,by omega,by omega,by simp,by simp⟩
 ·intro v h c hv hF hI
  rw [hInv] at hI
  obtain ⟨cells,hc1,hc2,h3,hI⟩:=hI
  have hz:bJ [] p.arrays 0=0:=by rw [hI]; rfl
  have hcc:=hF.c
  have hbox:h c0=some (.row 2 [[row (p.arrays.map Array.cells),row (p.steps.map Step.cells)]] .live none):=by rw [hF.h c0 (by omega)]; simp
  have hne1:¬c0=c:=by omega
  simp [hv,hbox,hne1,aI]
  obtain ⟨h9,hh9⟩:∃ h9,h9=upd h c (some (.row 4 [[row (p.arrays.map Array.cells),row (p.steps.map Step.cells),.sl [] true,.int 0]] .live none)):=⟨_,rfl⟩
  rw [←hh9]
  have hck:dP h9 c p.arrays p.steps (.sl [] true) 0:=by rw [hh9]; unfold dP; rw [af]
  refine (tK p.arrays p.steps c 1000 p.steps 1 [] [] (.sl [] true) 0 h9 (c+1) (by omega) (by simp) (by omega) hck (.inl ⟨rfl,rfl⟩) (fun gk len e=>by cases e) (by omega) (by omega) (by omega) (by simp; omega)).mono ?_
  rintro av ⟨h5,c5⟩ hc5 ⟨rfl,n5,N5,hI5,hz5⟩
  simp only at hI5
  have hr:retH c0 h0 h5=h0:=ay fun k hk=>by
   rw [hI5.fr k (by omega) (by omega) (fun len e=>by cases e),hh9,ad (by omega),hF.h k (by omega),ad (by omega)]
  by_cases e1:(aC p.arrays [] 1 [] p.steps).1=0
  case neg=>simp [e1,hr,aW,h1,hz]
  obtain ⟨q1,_,_⟩:=hz5 e1
  obtain ⟨⟨ks,hat,_⟩,_,_⟩:=hI5
  unfold dP at hat
  simp [e1,hat]
  by_cases e2:(300:Int)<aB p.steps
  ·simp [q1,e2,hr,aW,h1,hz,e1]
  ·simp [q1,e2,hr,aW,h1,hz,e1]
 ·intro i x xs v h c hi hx hl hv hF hI
  rw [hInv] at hI
  obtain ⟨cells,hc1,hc2,h3,hI⟩:=hI
  simp at h3
  have hw:=ah (x:=(i:Int)+1) (by omega) (by omega)
  have hcc:=hF.c
  have hbox:h c0=some (.row 2 [[row (p.arrays.map Array.cells),row (p.steps.map Step.cells)]] .live none):=by rw [hF.h c0 (by omega)]; simp
  have hne1:¬c0=c:=by omega
  have hres:∀ {b},retH c0 h0 (upd h c b)=h0:=fun {b}=>ay fun k hk=>by rw [ad (by omega),hF.h k (by omega),ad (by omega)]
  have herr:∀ (e:Int),(aU x (p.arrays.take i) cells).1=e→e≠0→aW p=e:=fun e h1' h2'=>by
   have:bJ [] p.arrays 0=e:=by rw [hI]; simp only [bJ,h1']; rw [if_neg h2']
   simp [aW,h1,this,h2']
  have htw:bX p.arrays x.key<(i:Int)↔((p.arrays.take i).any fun b=>decide (b.key=x.key))=true:=by
   have:=rN (fun a:Wb.Array=>decide (a.key=x.key)) p.arrays 0 0 (by omega) i x hi hx (by simp)
   simpa [bX] using this
  simp [hv,hi,hx,Array.cells]
  refine ACalls.pure (fN x.key) fun c1 hc1'=>?_
  cases a1:bh x.key
  ·simp [hres,herr 5 (by simp [aU,a1]) (by decide)]
  simp [hbox,hne1]
  refine ACalls.pure (oc p x.key) fun c2 hc2'=>?_
  by_cases a2:bX p.arrays x.key<(i:Int)
  ·simp [a2,hres,herr 6 (by simp only [aU,a1,htw.1 a2]; rfl) (by decide)]
  have a2':((p.arrays.take i).any fun b=>decide (b.key=x.key))=false:=by
   cases h:((p.arrays.take i).any fun b=>decide (b.key=x.key))
   ·rfl
   ·exact absurd (htw.2 h) a2
  simp [a2,be]
  by_cases a3:x.sizes=[]
  ·simp [a3,hres,herr 8 (by simp only [aU,a1,a2',a3]; rfl) (by decide)]
  simp [a3]
  by_cases a4:(4:Int)<x.sizes.length
  ·simp [a4,hres,herr 2 (by simp only [aU,a1,a2',a3,a4]; rfl) (by decide)]
  simp [a4]
  obtain ⟨Inv2,hInv2⟩:∃ Inv:Nat→List Int→Slots→Prop,Inv=fun i r sl=>∃ n,1≤n∧n≤20001∧sl 6=.int n∧cA x.sizes 1=cA r n:=⟨_,rfl⟩
  refine bK 48 Fn30.W1 x.sizes Inv2 (by rfl) (by rfl) ?_ ?_ ?_
  ·rw [hInv2]; exact ⟨by simp,1,by omega,by omega,by simp,rfl⟩
  ·intro v2 c3 hv2 hc3 hI2
   rw [hInv2] at hI2
   obtain ⟨n,hn1,hn2,h7,hI2⟩:=hI2
   simp at h7
   have hw2:=ah (x:=cells+n) (by omega) (by omega)
   have haf:aU x (p.arrays.take i) cells=if 20000<cells+n then (12,cells+n) else (0,cells+n):=by
    simp only [aU,a1,a2',a3,a4,hI2,cA]; simp
   simp [hv2,h7,h3,hw2]
   by_cases a5:20000<cells+n
   ·simp [a5,hres,herr 12 (by rw [haf]; simp [a5]) (by decide)]
   ·simp [a5,hw,hv]
    refine ⟨hF.upd hcc (by omega),?_⟩
    rw [hInv]
    refine ⟨cells+n,by omega,by omega,by simp,?_⟩
    rw [hI]; simp only [bJ,haf,if_neg a5,if_true]
    rw [List.take_add_one,List.getElem?_eq_getElem hi,hx]; rfl
  ·intro i2 y ys v2 c3 hi2 hx2 hl2 hv2 hc3 hI2
   rw [hInv2] at hI2
   obtain ⟨n,hn1,hn2,h7,hI2⟩:=hI2
   simp at h7
   have hlen2:x.sizes.length≤4:=by omega
   have hw2:=ah (x:=(i2:Int)+1) (by omega) (by omega)
   simp [hv2,hi2,hx2]
   refine ACalls.pure (co _ _ _) fun c5 hc5=>?_
   by_cases h6:1≤y∧y≤20000
   case neg=>simp [h6,hres,herr 1 (by simp only [aU,a1,a2',a3,a4,hI2,cA,h6]; rfl) (by decide)]
   have hm1:1≤n*y:=by have:=Int.mul_le_mul hn1 h6.1 (by omega) (by omega); simpa using this
   have hm2:n*y≤20001*20000:=Int.mul_le_mul hn2 h6.2 (by omega) (by omega)
   have hw3:=ah (x:=n*y) (by omega) (by omega)
   simp [h6,h7,hw3,hw2,hv2]
   refine ⟨by omega,?_⟩
   rw [hInv2]
   refine ⟨if 20001<n*y then 20001 else n*y,by split <;> omega,by split <;> omega,by simp,by rw [hI2]; simp [cA,h6]⟩
end Go.Proofs.YtjhogglgkjcacaaGreat
set_option maxRecDepth 20000
set_option maxHeartbeats 4000000
namespace Go.Proofs.YtjhogglgkjcacaaGreat
open Go.AM Go.Wb
def bub {α:Type} (lt:α→α→Bool) (l:List α):Nat→List α
 | 0=>l
 | j+1=>match l[j+1]?,l[j]? with
  | some a,some b=>if lt a b=true then bub lt ((l.set (j+1) b).set j a) j else l
  | _,_=>l
def eP {α:Type} (lt:α→α→Bool) (l:List α):Nat→List α
 | 0=>l
 | i+1=>bub lt (eP lt l i) (i+1)
def iT {α:Type} (lt:α→α→Bool) (l:List α):List α:=eP lt l (l.length-1)
theorem rJ {α:Type} (lt:α→α→Bool):∀ (j:Nat) (l:List α),(bub lt l j).length=l.length
 | 0,l=>rfl
 | j+1,l=>by
  simp only [bub]
  split
  ·split
   ·rw [rJ lt j]; simp
   ·rfl
  ·rfl
theorem rK {α:Type} (lt:α→α→Bool):∀ (j:Nat) (l:List α) (x:α),x∈bub lt l j→x∈l
 | 0,l,x,h=>h
 | j+1,l,x,h=>by
  simp only [bub] at h
  split at h
  ·rename_i a b ha hb
   split at h
   ·have:=rK lt j _ x h
    rcases List.mem_or_eq_of_mem_set this with h1 | h1
    ·rcases List.mem_or_eq_of_mem_set h1 with h2 | h2
     ·exact h2
     ·rw [h2]; exact List.mem_of_getElem? hb
    ·rw [h1]; exact List.mem_of_getElem? ha
   ·exact h
  ·exact h
theorem gX {α:Type} (lt:α→α→Bool) (l:List α):∀ i,(eP lt l i).length=l.length
 | 0=>rfl
 | i+1=>by simp only [eP]; rw [rJ,gX lt l i]
theorem gY {α:Type} (lt:α→α→Bool) (l:List α):∀ i x,x∈eP lt l i→x∈l
 | 0,x,h=>h
 | i+1,x,h=>gY lt l i x (rK lt _ _ x h)
def tI (f:Nat) (lt:List AV→List AV→Bool) (l:List (List AV)):Prop:=
 ∀ x∈l,∀ y∈l,∀ h c,ACalls Pg f [norm (.agg x),norm (.agg y)] ⟨h,c⟩ fun r s'=>(∃ n:Int,r=.int n∧lt x y=decide (n<0))∧s'.h=h
theorem jx (l:List (List AV)) (hl:l.length≤12) (hok:∀ e∈l,aA 2 e=true) (f:Nat) (lt:List AV→List AV→Bool) (gx:Nat) (h0:Heap) (c0:Nat)
  (hx:h0 gx=some (.row 2 l .live none)) (hg:gx<c0) (hc:tI f lt l) :
  ACalls Pg Fn294.n [.row gx 2 0 l.length,.int 0,.int l.length,.fn (.func f) [] []] ⟨h0,c0⟩ fun av s'=>s'.h gx=some (.row 2 (iT lt l) .live none)∧∀ k,k≠gx→s'.h k=h0 k:=by
 refine Fn294.calls .frz ?_
 unfold Fn294.ac
 have hw0:IntKind.i64.wrap 1=1:=by decide
 simp [hw0]
 obtain ⟨Inv,hInv⟩:∃ Inv:Nat→Slots→St→Prop,Inv=fun n sl s'=>∃ i:Nat,1≤i∧i+n=max l.length 1∧sl 8=.int i∧s'.h gx=some (.row 2 (eP lt l (i-1)) .live none)∧(∀ k,k≠gx→s'.h k=h0 k)∧c0≤s'.c:=⟨_,rfl⟩
 refine di Fn294.W0 (by rfl) Inv (max l.length 1-1) ?_ ?_
 ·rw [hInv]; exact ⟨1,by omega,by omega,by simp,by simpa [eP] using hx,fun k hk=>rfl,Nat.le_refl _⟩
 ·intro n v s' hI
  rw [hInv] at hI
  obtain ⟨i,hi1,hin,h8,hgx,hfr,hcc⟩:=hI
  obtain ⟨h,c⟩:=s'
  simp at h8
  simp only at hgx hfr hcc
  by_cases hlt:i<l.length
  case neg=>
   have hlt':¬(i:Int)<l.length:=by omega
   have hil:i-1=l.length-1:=by omega
   have hfin:retH c0 h0 h gx=some (.row 2 (iT lt l) .live none):=by
    unfold retH; rw [if_pos hg,hgx,hil]; rfl
   have hfin2:∀ k,k≠gx→retH c0 h0 h k=h0 k:=fun k hk=>by
    unfold retH; split
    ·exact hfr k hk
    ·rfl
   simp [h8,hlt,hfin]
   exact hfin2
  have hlt':(i:Int)<l.length:=by omega
  simp [h8,hlt]
  obtain ⟨Inv2,hInv2⟩:∃ Inv:Nat→Slots→St→Prop,Inv=fun j sl s'=>∃ l',j≤i∧sl 9=.int j∧sl 8=.int i∧l'.length=l.length∧(∀ e∈l',e∈l)∧bub lt (eP lt l (i-1)) i=bub lt l' j∧s'.h gx=some (.row 2 l' .live none)∧(∀ k,k≠gx→s'.h k=h0 k)∧c0≤s'.c:=⟨_,rfl⟩
  refine di Fn294.W1 (by rfl) Inv2 i ?_ ?_
  ·rw [hInv2]; exact ⟨_,Nat.le_refl _,by simp,by simp [h8],gX lt l _,gY lt l _,rfl,hgx,hfr,hcc⟩
  ·intro j v2 s2 hI2
   rw [hInv2] at hI2
   obtain ⟨l',hji,h9,h8',hl',hmem,hbub,hgx2,hfr2,hcc2⟩:=hI2
   obtain ⟨h2,c2⟩:=s2
   simp at h9 h8'
   simp only at hgx2 hfr2 hcc2
   have hw2:=ah (x:=(i:Int)+1) (by omega) (by omega)
   have hnext:∀ (hb:bub lt l' j=l') (sl:Slots) (c':Nat),c0≤c'→sl 8=.int ((i:Int)+1)→∃ m,m<n∧Inv m sl ⟨h2,c'⟩:=by
    intro hb sl c' hcc' hsl
    rw [hInv]
    refine ⟨n-1,by omega,i+1,by omega,by omega,by rw [hsl]; rfl,?_,hfr2,hcc'⟩
    show h2 gx=_
    have:eP lt l (i+1-1)=l':=by
     have e:i+1-1=(i-1)+1:=by omega
     rw [e]; simp only [eP]; rw [show i-1+1=i by omega,hbub,hb]
    rw [this]; exact hgx2
   cases j with
   | zero=>
    simp [h9,h8',hw2]
    exact hnext rfl _ _ hcc2 (by simp)
   | succ j=>
    have hj1:j+1<l'.length:=by omega
    have hj0:j<l'.length:=by omega
    have hw3:IntKind.i64.wrap ((j:Int)+1-1)=j:=by rw [ah (by omega) (by omega)]; omega
    have hw3':IntKind.i64.wrap (j:Int)=j:=ah (by omega) (by omega)
    have hp:(0:Int)<(j:Int)+1:=by omega
    have hp':(0:Int)≤(j:Int)+1:=by omega
    have hjl:(j:Int)+1<l.length:=by omega
    have hjl0:(j:Int)<l.length:=by omega
    obtain ⟨x,hxe⟩:∃ x,l'[j+1]=x:=⟨_,rfl⟩
    obtain ⟨y,hye⟩:∃ y,l'[j]=y:=⟨_,rfl⟩
    have hxm:x∈l':=by rw [←hxe]; exact List.getElem_mem hj1
    have hym:y∈l':=by rw [←hye]; exact List.getElem_mem hj0
    have hxok:=bT (hok x (hmem x hxm))
    have hyok:=bT (hok y (hmem y hym))
    have htn:((j:Int)+1).toNat=j+1:=by omega
    have hcx:x.take 2=x:=List.take_of_length_le (by omega)
    have hcy:y.take 2=y:=List.take_of_length_le (by omega)
    have hx?:l'[j+1]?=some x:=by rw [List.getElem?_eq_getElem hj1,hxe]
    have hy?:l'[j]?=some y:=by rw [List.getElem?_eq_getElem hj0,hye]
    simp [h9,h8',hw3,hw3',hp,hp',hjl,hjl0,hgx2,htn,hx?,hy?,hxok.1,hyok.1,hcx,hcy]
    refine ACalls.quiet (R:=fun r=>∃ n:Int,r=.int n∧lt x y=decide (n<0)) (hc x (hmem x hxm) y (hmem y hym) h2 c2) fun r c3 hr hc3=>?_
    obtain ⟨m,rfl,hm⟩:=hr
    by_cases hneg:m<0
    ·have hltt:lt x y=true:=by rw [hm]; simpa using hneg
     have hb2:bub lt l' (j+1)=bub lt ((l'.set (j+1) y).set j x) j:=by simp only [bub,hx?,hy?,hltt,if_true]
     have hjj:¬j+1=j:=by omega
     have hxc:=hxok.2
     have hyc:=hyok.2
     have hdx:x.drop 2=[]:=List.drop_of_length_le (by omega)
     have hdy:y.drop 2=[]:=List.drop_of_length_le (by omega)
     simp [-AV.cell,hneg,h9,h8',hw3,hw3',hp',hjl,hjl0,hgx2,htn,hx?,hy?,hxok.1,hyok.1,hcx,hcy,hxc,hyc,hdx,hdy,hj0,hj1,hxe,hye]
     refine ⟨j,Nat.lt_succ_self _,?_⟩
     rw [hInv2]
     refine ⟨(l'.set (j+1) y).set j x,by omega,by simp,by simp [h8'],by simp [hl'],fun e he=>?_,by rw [hbub,hb2],by simp,fun k hk=>by show upd _ _ _ k=_; rw [ad hk]; exact hfr2 k hk,by show c0≤c3; omega⟩
     rcases List.mem_or_eq_of_mem_set he with h1 | h1
     ·rcases List.mem_or_eq_of_mem_set h1 with h2 | h2
      ·exact hmem e h2
      ·rw [h2]; exact hmem y hym
     ·rw [h1]; exact hmem x hxm
    ·have hltf:lt x y=false:=by rw [hm]; simpa using hneg
     have hb2:bub lt l' (j+1)=l':=by simp [bub,hx?,hy?,hltf]
     simp [hneg,h8',hw2]
     exact hnext hb2 _ _ (by omega) (by simp)
theorem uS:∀ n:Nat,n<13→∃ b,(⟨#[0,1,2,2,3,3,3,3,4,4,4,4,4,4,4,4,5,5,5,5,5,5,5,5,5,5,5,5,5,5,5,5,6,6,6,6,6,6,6,6,6,6,6,6,6,6,6,6,6,6,6,6,6,6,6,6,6,6,6,6,6,6,6,6,7,7,7,7,7,7,7,7,7,7,7,7,7,7,7,7,7,7,7,7,7,7,7,7,7,7,7,7,7,7,7,7,7,7,7,7,7,7,7,7,7,7,7,7,7,7,7,7,7,7,7,7,7,7,7,7,7,7,7,7,7,7,7,7,8,8,8,8,8,8,8,8,8,8,8,8,8,8,8,8,8,8,8,8,8,8,8,8,8,8,8,8,8,8,8,8,8,8,8,8,8,8,8,8,8,8,8,8,8,8,8,8,8,8,8,8,8,8,8,8,8,8,8,8,8,8,8,8,8,8,8,8,8,8,8,8,8,8,8,8,8,8,8,8,8,8,8,8,8,8,8,8,8,8,8,8,8,8,8,8,8,8,8,8,8,8,8,8,8,8,8,8,8,8,8,8,8,8,8,8,8,8,8,8,8,8,8,8,8,8,8,8]⟩:ByteArray)[n]?=some b:=by
 intro n hn
 have h:∀ n<13,((bs ⟨#[0,1,2,2,3,3,3,3,4,4,4,4,4,4,4,4,5,5,5,5,5,5,5,5,5,5,5,5,5,5,5,5,6,6,6,6,6,6,6,6,6,6,6,6,6,6,6,6,6,6,6,6,6,6,6,6,6,6,6,6,6,6,6,6,7,7,7,7,7,7,7,7,7,7,7,7,7,7,7,7,7,7,7,7,7,7,7,7,7,7,7,7,7,7,7,7,7,7,7,7,7,7,7,7,7,7,7,7,7,7,7,7,7,7,7,7,7,7,7,7,7,7,7,7,7,7,7,7,8,8,8,8,8,8,8,8,8,8,8,8,8,8,8,8,8,8,8,8,8,8,8,8,8,8,8,8,8,8,8,8,8,8,8,8,8,8,8,8,8,8,8,8,8,8,8,8,8,8,8,8,8,8,8,8,8,8,8,8,8,8,8,8,8,8,8,8,8,8,8,8,8,8,8,8,8,8,8,8,8,8,8,8,8,8,8,8,8,8,8,8,8,8,8,8,8,8,8,8,8,8,8,8,8,8,8,8,8,8,8,8,8,8,8,8,8,8,8,8,8,8,8,8,8,8,8,8]⟩)[n]?).isSome=true:=by decide +kernel
 obtain ⟨b,hb⟩:=Option.isSome_iff_exists.1 (h n hn)
 exact ⟨b,by rw [iy]; exact hb⟩
theorem qX {x:Int} (h:0≤x) (h':x<18446744073709551616):IntKind.u64.wrap x=x:=by
 simp [IntKind.wrap,IntKind.bits,IntKind.signed]; omega
theorem wx {x:Int} (h:0≤x) (h':x<256):IntKind.u8.wrap x=x:=by
 simp [IntKind.wrap,IntKind.bits,IntKind.signed]; omega
theorem mj (n:Nat) (hn:n<13):∃ k,aG Pg Fn151.n [.sc (.int .u64 n)] (.int k):=by
 obtain ⟨b,hb⟩:=uS n hn
 have h1:¬(4294967296:Int)≤n:=by omega
 have h2:¬(65536:Int)≤n:=by omega
 have h3:¬(256:Int)≤n:=by omega
 have hw:=wx (x:=(n:Int)) (by omega) (by omega)
 refine ⟨IntKind.i64.wrap (0+IntKind.i64.wrap b.toNat),fun s=>?_⟩
 refine Fn151.calls .frz ?_
 unfold Fn151.ac
 simp
 refine ACalls.pure (v:=.int (IntKind.i64.wrap (0+IntKind.i64.wrap b.toNat))) (fun s=>?_) fun c1 hc1=>by simp
 refine Fn226.calls .frz ?_
 unfold Fn226.ac
 simp [h1,h2,h3,hw,hb]
theorem ip (l:List (List AV)) (hl:l.length≤12) (hok:∀ e∈l,aA 2 e=true) (f:Nat) (lt:List AV→List AV→Bool) (gx:Nat) (h0:Heap) (c0:Nat)
  (hx:h0 gx=some (.row 2 l .live none)) (hg:gx<c0) (hc:tI f lt l) :
  ACalls Pg Fn160.n [.row gx 2 0 l.length,.fn (.func f) [] []] ⟨h0,c0⟩ fun av s'=>s'.h gx=some (.row 2 (iT lt l) .live none)∧∀ k,k≠gx→s'.h k=h0 k:=by
 refine Fn160.calls .frz ?_
 unfold Fn160.ac
 have hw:=qX (x:=(l.length:Int)) (by omega) (by omega)
 have hw2:=ah (x:=(l.length:Int)) (by omega) (by omega)
 have h12:(l.length:Int)≤12:=by omega
 obtain ⟨k,hk⟩:=mj l.length (by omega)
 simp [hw]
 refine ACalls.pure hk fun c1 hc1=>?_
 simp
 have hpdq:ACalls Pg Fn231.n [.row gx 2 0 l.length,.int 0,.int l.length,.int k,.fn (.func f) [] []] ⟨h0,c1⟩ fun av s'=>s'.h gx=some (.row 2 (iT lt l) .live none)∧∀ k,k≠gx→s'.h k=h0 k:=by
  refine Fn231.calls .frz ?_
  unfold Fn231.ac
  simp
  obtain ⟨Inv,hInv⟩:∃ Inv:Nat→Slots→St→Prop,Inv=fun n sl s'=>sl 0=.row gx 2 0 l.length∧sl 1=.int 0∧sl 2=.int l.length∧sl 4=.fn (.func f) [] []∧s'=⟨h0,c1⟩:=⟨_,rfl⟩
  refine fP Inv 0 ?_ ?_
  ·rw [hInv]; simp
  ·intro n sl s' hI
   rw [hInv] at hI
   obtain ⟨e0,e1,e2,e4,rfl⟩:=hI
   simp [e0,e1,e2,e4,hw2,h12]
   refine (jx l hl hok f lt gx h0 c1 hx (by omega) hc).mono ?_
   rintro av ⟨h2,c2⟩ hc2 ⟨q1,q2⟩
   simp only at q1 q2
   simp
   refine ⟨by unfold retH; rw [if_pos (by omega)]; exact q1,fun k hk=>?_⟩
   unfold retH; split
   ·exact q2 k hk
   ·rfl
 refine hpdq.mono ?_
 rintro av ⟨h2,c2⟩ hc2 ⟨q1,q2⟩
 simp only at q1 q2
 simp
 refine ⟨by unfold retH; rw [if_pos (by omega)]; exact q1,fun k hk=>?_⟩
 unfold retH; split
 ·exact q2 k hk
 ·rfl
end Go.Proofs.YtjhogglgkjcacaaGreat
set_option maxRecDepth 20000
set_option maxHeartbeats 4000000
namespace Go.Proofs.YtjhogglgkjcacaaGreat
open Go.AM Go.Wb
end Go.Proofs.YtjhogglgkjcacaaGreat
set_option maxRecDepth 20000
set_option maxHeartbeats 4000000
namespace Go.Proofs.YtjhogglgkjcacaaGreat
open Go.AM Go.Wb
def eN (x n:Int):Int:=if n<1 then 0 else if x.tmod n<0 then x.tmod n+n else x.tmod n
theorem iw (x n:Int):0≤eN x n∧(1≤n→eN x n<n)∧(n<1→eN x n=0):=by
 unfold eN
 by_cases h:n<1
 ·simp [h]; omega
 ·have h1:0<n:=by omega
  have h2:=Int.tmod_lt_of_pos x h1
  have h3:-n<x.tmod n:=by
   have:=Int.tmod_lt_of_pos (-x) h1
   rw [Int.neg_tmod] at this
   omega
  rw [if_neg h]
  split
  ·exact ⟨by omega,fun _=>by omega,fun h'=>absurd h' h⟩
  ·exact ⟨by omega,fun _=>by omega,fun h'=>absurd h' h⟩
theorem mh (x n:Int) (hn:n<9223372036854775808):aG Pg Fn146.n [.int x,.int n] (.int (eN x n)):=by
 intro s
 refine Fn146.calls .frz ?_
 unfold Fn146.ac
 by_cases h:n<1
 ·simp [h,eN]
 have hn0:n≠0:=by omega
 have hr:=iw x n
 by_cases h2:x.tmod n<0
 ·have hb:eN x n=x.tmod n+n:=by simp [eN,h,h2]
  have hw:IntKind.i64.wrap (x.tmod n+n)=x.tmod n+n:=ah (by omega) (by omega)
  simp [h,hn0,h2,hw,hb]
 ·simp [h,hn0,h2,eN]
def SM (h:Heap) (g:Nat) (L:List Int) (a:Int):Prop:=h g=some (.row 2 [[row (be L),.int a]] .live none)
def SMI (h0:Heap) (g:Nat) (L:List Int) (a K:Int) (h:Heap):Prop:=∃ a',a≤a'∧a'≤a+K∧SM h g L a'∧∀ k,k≠g→h k=h0 k
theorem cm (L:List Int) (a n:Int) (g:Nat) (h0:Heap) (c0:Nat) (hn:n<9223372036854775808) (hs:SM h0 g L a) (ha:0≤a) (ha':a<1000000000) (hL:L.length≤1048576) (hg:g<c0) :
  ACalls Pg Fn57.n [.ptr g 0 0,.int n] ⟨h0,c0⟩ fun av s'=>(∃ k,av=.int k∧0≤k∧(1≤n→k<n)∧(n<1→k=0))∧SMI h0 g L a 1 s'.h:=by
 refine Fn57.calls .frz ?_
 unfold Fn57.ac
 have hw:=ah (x:=a+1) (by omega) (by omega)
 have hw2:=ah (x:=a+1-1) (by omega) (by omega)
 unfold SM at hs
 simp [hs,hw]
 obtain ⟨h1,hh1⟩:∃ h1,h1=upd h0 g (some (.row 2 [[row (be L),.int (a+1)]] .live none)):=⟨_,rfl⟩
 have hg1:h1 g=some (.row 2 [[row (be L),.int (a+1)]] .live none):=by rw [hh1,af]
 have hsmi:SMI h0 g L a 1 h1:=⟨a+1,by omega,by omega,hg1,fun k hk=>by rw [hh1,ad hk]⟩
 have hr:retH c0 h0 h1=h1:=by rw [hh1,jk hg,kS]
 rw [←hh1]
 by_cases h2:L=[]
 ·subst h2
  simp [be,hg1]
  refine ACalls.pure (mh _ n hn) fun c1 hc1=>?_
  have hb:=iw (IntKind.i64.wrap ((a+1)*7919)) n
  simp [hr]
  exact ⟨hb,hsmi⟩
 have hpos:=List.length_pos_iff.2 h2
 have hlen0:(L.length:Int)≠0:=by omega
 have hq1:0≤a.tmod L.length:=Int.tmod_nonneg _ ha
 have hq2:a.tmod L.length<L.length:=Int.tmod_lt_of_pos _ (by omega)
 have hi:(a.tmod L.length).toNat<L.length:=by omega
 have hw3:IntKind.i64.wrap a=a:=ah (by omega) (by omega)
 simp [be,hg1,h2,hw3,hlen0,hq1,hi]
 refine ACalls.pure (mh _ _ (by omega)) fun c1 hc1=>?_
 simp
 refine ACalls.pure (mh _ n hn) fun c2 hc2=>?_
 simp [hr]
 obtain ⟨z,hz⟩:∃ z,z=IntKind.i64.wrap (eN L[(a.tmod L.length).toNat] 1073741824+IntKind.i64.wrap (IntKind.i64.wrap (a.tdiv L.length)*IntKind.i64.wrap (7919+a.tmod L.length))):=⟨_,rfl⟩
 have hb:=iw z n
 rw [←hz]
 exact ⟨hb,hsmi⟩
theorem SMI.refl {h:Heap} {g:Nat} {L:List Int} {a:Int} (hs:SM h g L a):SMI h g L a 0 h:=⟨a,by omega,by omega,hs,fun _ _=>rfl⟩
theorem SMI.trans {h0 h1 h:Heap} {g:Nat} {L:List Int} {a a1 K K1:Int} (i:SM h1 g L a1∧(∀ k,k≠g→h1 k=h0 k)∧a≤a1∧a1≤a+K) (j:SMI h1 g L a1 K1 h):SMI h0 g L a (K+K1) h:=by
 obtain ⟨_,h2,h3,h4⟩:=i
 obtain ⟨a',q1,q2,q3,q4⟩:=j
 exact ⟨a',by omega,by omega,q3,fun k hk=>by rw [q4 k hk]; exact h2 k hk⟩
theorem SMI.weak {h0 h:Heap} {g:Nat} {L:List Int} {a K K1:Int} (i:SMI h0 g L a K h) (hk:K≤K1):SMI h0 g L a K1 h:=by
 obtain ⟨a',q1,q2,q3⟩:=i
 exact ⟨a',q1,by omega,q3⟩
theorem SMI.ret {h0 h:Heap} {c0 g:Nat} {L:List Int} {a K:Int} (hg:g<c0) (i:∃ a',a≤a'∧a'≤a+K∧SM h g L a'∧∀ k,k<c0→k≠g→h k=h0 k):SMI h0 g L a K (retH c0 h0 h):=by
 obtain ⟨a',q1,q2,q3,q4⟩:=i
 refine ⟨a',q1,q2,?_,fun k hk=>?_⟩
 ·unfold SM retH; rw [if_pos hg]; exact q3
 ·unfold retH; split
  ·exact q4 k ‹_› hk
  ·rfl
theorem jq (L:List Int) (a lo hi:Int) (g:Nat) (h0:Heap) (c0:Nat) (hlo:-2000000000000≤lo) (hlo':lo≤2000000000000) (hhi:hi≤2000000000000) (hs:SM h0 g L a) (ha:0≤a) (ha':a<1000000000) (hL:L.length≤1048576) (hg:g<c0) :
  ACalls Pg Fn78.n [.ptr g 0 0,.int lo,.int hi] ⟨h0,c0⟩ fun av s'=>(∃ k,av=.int k∧lo≤k∧(lo≤hi→k≤hi)∧(hi<lo→k=lo))∧SMI h0 g L a 1 s'.h:=by
 refine Fn78.calls .frz ?_
 unfold Fn78.ac
 by_cases h1:hi<lo
 ·simp [h1]
  exact (SMI.refl hs).weak (by omega)
 have hw:=ah (x:=hi-lo) (by omega) (by omega)
 have hw2:=ah (x:=hi-lo+1) (by omega) (by omega)
 simp [h1,hw,hw2]
 refine (cm L a (hi-lo+1) g h0 c0 (by omega) hs ha ha' hL hg).mono ?_
 rintro av ⟨h2,c2⟩ hc2 ⟨⟨k,rfl,hk1,hk2,hk3⟩,hI⟩
 simp only at hI
 have hk2':=hk2 (by omega)
 have hw3:=ah (x:=lo+k) (by omega) (by omega)
 obtain ⟨a',q1,q2,q3,q4⟩:=hI
 simp [hw3]
 exact ⟨⟨by omega,fun _=>by omega⟩,SMI.ret hg ⟨a',q1,q2,q3,fun k _ hk=>q4 k hk⟩⟩
theorem eu (L:List Int) (a n:Int) (g:Nat) (h0:Heap) (c0:Nat) (hn:n<9223372036854775808) (hs:SM h0 g L a) (ha:0≤a) (ha':a<1000000000) (hL:L.length≤1048576) (hg:g<c0) :
  ACalls Pg Fn36.n [.ptr g 0 0,.int n] ⟨h0,c0⟩ fun av s'=>(∃ b,av=.bool b)∧SMI h0 g L a 1 s'.h:=by
 refine Fn36.calls .frz ?_
 unfold Fn36.ac
 simp
 refine (cm L a n g h0 c0 hn hs ha ha' hL hg).mono ?_
 rintro av ⟨h2,c2⟩ hc2 ⟨⟨k,rfl,hk1,hk2,hk3⟩,hI⟩
 simp only at hI
 obtain ⟨a',q1,q2,q3,q4⟩:=hI
 simp
 exact ⟨by omega,SMI.ret hg ⟨a',q1,q2,q3,fun k _ hk=>q4 k hk⟩⟩
theorem bS (l:List Int) (L:List Int) (a:Int) (g:Nat) (h0:Heap) (c0:Nat) (hl:0<l.length) (hl':l.length<1000000) (hs:SM h0 g L a) (ha:0≤a) (ha':a<1000000000) (hL:L.length≤1048576) (hg:g<c0) :
  ACalls Pg Fn9.n [.ptr g 0 0,row (be l)] ⟨h0,c0⟩ fun av s'=>(∃ k,av=.int k∧k∈l)∧SMI h0 g L a 1 s'.h:=by
 refine Fn9.calls .frz ?_
 unfold Fn9.ac
 simp [be]
 refine (cm L a l.length g h0 c0 (by omega) hs ha ha' hL hg).mono ?_
 rintro av ⟨h2,c2⟩ hc2 ⟨⟨k,rfl,hk1,hk2,hk3⟩,hI⟩
 simp only at hI
 have hk2':=hk2 (by omega)
 have hkn:k.toNat<l.length:=by omega
 obtain ⟨a',q1,q2,q3,q4⟩:=hI
 simp [hk1,hkn]
 exact SMI.ret hg ⟨a',q1,q2,q3,fun k _ hk=>q4 k hk⟩
theorem ep (l:List ByteArray) (L:List Int) (a:Int) (g:Nat) (h0:Heap) (c0:Nat) (hl:0<l.length) (hl':l.length<1000000) (hs:SM h0 g L a) (ha:0≤a) (ha':a<1000000000) (hL:L.length≤1048576) (hg:g<c0) :
  ACalls Pg Fn28.n [.ptr g 0 0,row (am l)] ⟨h0,c0⟩ fun av s'=>(∃ k,av=.str k∧k∈l)∧SMI h0 g L a 1 s'.h:=by
 refine Fn28.calls .frz ?_
 unfold Fn28.ac
 simp [am]
 refine (cm L a l.length g h0 c0 (by omega) hs ha ha' hL hg).mono ?_
 rintro av ⟨h2,c2⟩ hc2 ⟨⟨k,rfl,hk1,hk2,hk3⟩,hI⟩
 simp only at hI
 have hk2':=hk2 (by omega)
 have hkn:k.toNat<l.length:=by omega
 obtain ⟨a',q1,q2,q3,q4⟩:=hI
 simp [hk1,hkn]
 exact SMI.ret hg ⟨a',q1,q2,q3,fun k _ hk=>q4 k hk⟩
theorem mg (L:List Int) (a lo hi:Int) (g:Nat) (h0:Heap) (c0:Nat) (hlo:-1000000000000≤lo) (hlo':lo≤1000000000000) (hhi0:-1000000000000≤hi) (hhi:hi≤1000000000000) (hs:SM h0 g L a) (ha:0≤a) (ha':a<900000000) (hL:L.length≤1048576) (hg:g<c0) :
  ACalls Pg Fn144.n [.ptr g 0 0,.int lo,.int hi] ⟨h0,c0⟩ fun av s'=>(∃ k,av=.int k)∧SMI h0 g L a 2 s'.h:=by
 refine Fn144.calls .frz ?_
 unfold Fn144.ac
 simp
 refine (eu L a 12 g h0 c0 (by omega) hs ha (by omega) hL hg).mono ?_
 rintro av ⟨h2,c2⟩ hc2 ⟨⟨b,rfl⟩,hI⟩
 simp only at hI hc2
 obtain ⟨a',q1,q2,q3,q4⟩:=hI
 have hw:=ah (x:=lo-1) (by omega) (by omega)
 have hw2:=ah (x:=hi+1) (by omega) (by omega)
 cases b
 ·simp
  refine (jq L a' lo hi g h2 c2 (by omega) (by omega) (by omega) q3 (by omega) (by omega) hL (by omega)).mono ?_
  rintro av ⟨h3,c3⟩ hc3 ⟨⟨k,rfl,hk1,hk2,hk3⟩,hI⟩
  simp only at hI hc3
  have:=SMI.trans ⟨q3,q4,q1,q2⟩ hI
  obtain ⟨a2,r1,r2,r3,r4⟩:=this
  simp
  exact SMI.ret hg ⟨a2,r1,by omega,r3,fun k _ hk=>r4 k hk⟩
 ·simp [bsI,an,hw,hw2]
  refine (bS [lo-1,hi+1,lo,hi,-1099511627776,1099511627776] L a' g h2 c2 (by simp) (by simp) q3 (by omega) (by omega) hL (by omega)).mono ?_
  rintro av ⟨h3,c3⟩ hc3 ⟨⟨k,rfl,hk1⟩,hI⟩
  simp only at hI hc3
  have:=SMI.trans ⟨q3,q4,q1,q2⟩ hI
  obtain ⟨a2,r1,r2,r3,r4⟩:=this
  simp
  exact SMI.ret hg ⟨a2,r1,by omega,r3,fun k _ hk=>r4 k hk⟩
end Go.Proofs.YtjhogglgkjcacaaGreat
set_option maxRecDepth 20000
set_option maxHeartbeats 4000000
namespace Go.Proofs.YtjhogglgkjcacaaGreat
open Go.AM Go.Wb
def aF (l:List Wb.Term):List (List AV):=l.map Term.cells
theorem jc (l:List Wb.Term):∀ e∈aF l,aA 2 e=true:=fun e he=>by
 obtain ⟨t,_,rfl⟩:=List.mem_map.1 he; rfl
def pU (c0:Nat) (x:AV) (l:List Wb.Term) (h:Heap) (c:Nat):Prop:=(∃ b,x=.sl [] b∧l=[])∨∃ g,c0≤g∧g<c∧x=.row g 2 0 l.length∧h g=some (.row 2 (aF l) .live none)
theorem fJ (l:List Wb.Term) (h0:Heap) (c0:Nat):ACalls Pg Fn158.n [row (l.map Term.cells)] ⟨h0,c0⟩ fun av s'=>Fr c0 h0 s'.h s'.c∧pU c0 av l s'.h s'.c:=by
 refine ACalls.small fun hs=>?_
 have hlen:l.length≤68719476736:=by simpa using hs.1.1
 refine Fn158.calls .keep ?_
 unfold Fn158.ac
 simp
 refine oI (fun h=>?_) ?_
 ·have hL:l=[]:=by simpa using h
  simp [hL,pU]
  exact Fr.refl _ _
 ·simp [bsI,an]
  have hap:=db (sz:=2) (bytes:=24) (md:=.plain) (es:=[]) (xs:=l.map Term.cells) (b:=false) (s:=⟨h0,c0⟩) (by decide) (by decide) (by decide) (by simp) (jc l) (by simpa using hlen) (.inr rfl)
  simp at hap
  simp [hap,pU]
  exact ⟨(Fr.refl h0 c0).upd (Nat.le_refl _) (Nat.le_succ _),c0,Nat.le_refl _,Nat.lt_succ_self _,rfl,by simp [aF]⟩
theorem mo (t:Wb.Term) (s:St):ACalls Pg Fn159.n [.agg t.cells] s fun av s'=>av=.bool (decide (t.coef=0))∧s'.h=s.h:=by
 refine Fn159.calls .frz ?_
 unfold Fn159.ac
 simp [Term.cells]
theorem ib (l:List Wb.Term) (hl:l.length≤12) (hnz:∀ t∈l,t.coef≠0) (cb:Nat) (x:AV) (h0:Heap) (c0:Nat) (hx:pU cb x l h0 c0) :
  ACalls Pg Fn157.n [x,.fn (.func Fn159.n) [] []] ⟨h0,c0⟩ fun av s'=>av=x∧s'.h=h0:=by
 have hidx:ACalls Pg Fn163.n [norm x,.fn (.func Fn159.n) [] []] ⟨h0,c0⟩ fun av s'=>av=.int (-1)∧s'.h=h0:=by
  refine Fn163.calls .frz ?_
  unfold Fn163.ac
  rcases hx with ⟨b,rfl,rfl⟩ | ⟨g,hg1,hg2,rfl,hg⟩
  ·simp
   refine bK 8 Fn163.W0 ([]:List Wb.Term) (fun i r sl=>True) (by rfl) (by rfl) ?_ ?_ ?_
   ·simp
   ·intro v c hv hc hI
    simp at hv
    simp [hv]
   ·intro i y ys v c hi; simp at hi
  ·simp
   refine bK 8 Fn163.W0 l (fun i r sl=>True) (by rfl) (by rfl) ?_ ?_ ?_
   ·simp
   ·intro v c hv hc hI
    simp [hv]
   ·intro i y ys v c hi hy hl2 hv hc hI
    have hw:=ah (x:=(i:Int)+1) (by omega) (by omega)
    have hge:(aF l)[i]?=some [.str y.name,.int y.coef]:=by simp [aF,hi,hy,Term.cells]
    have hyn:=hnz y (aR hl2)
    simp [hv,hi,hg,hge]
    refine ACalls.at (mo y ⟨h0,c⟩) fun c2 hc2=>?_
    simp [hyn,hv,hw]
    omega
 refine Fn157.calls .keep ?_
 unfold Fn157.ac
 rcases hx with ⟨b,rfl,rfl⟩ | ⟨g,hg1,hg2,rfl,hg⟩
 ·simp
  refine ACalls.at hidx fun c2 hc2=>?_
  simp
 ·simp
  refine ACalls.at hidx fun c2 hc2=>?_
  simp
def tlt (x y:List AV):Bool:=match x,y with
 | .sc (.string a)::_,.sc (.string b)::_=>decide (Lib.compareBytes (bs a) (bs b)<0)
 | _,_=>false
theorem tR (x y:Wb.Term) (s:St):ACalls Pg Fn161.n [.agg x.cells,.agg y.cells] s fun av s'=>av=.int (Lib.compareBytes (bs x.name) (bs y.name))∧s'.h=s.h:=by
 refine Fn161.calls .frz ?_
 unfold Fn161.ac
 have hne:¬s.c=s.c+1:=by omega
 simp [Term.cells,hne]
 refine ACalls.pure (vM _ _) fun c1 hc1=>?_
 simp
theorem pr (l:List Wb.Term):tI Fn161.n tlt (aF l):=by
 intro x hx y hy h c
 obtain ⟨a,_,rfl⟩:=List.mem_map.1 hx
 obtain ⟨b,_,rfl⟩:=List.mem_map.1 hy
 refine (tR a b ⟨h,c⟩).mono fun r s' _ hr=>?_
 exact ⟨⟨_,hr.1,rfl⟩,hr.2⟩
theorem ka:∀ (m:List (List AV)) (l:List Wb.Term),(∀ e∈m,e∈aF l)→∃ l',m=aF l'
 | [],l,_=>⟨[],rfl⟩
 | e::m,l,h=>by
  obtain ⟨l',h'⟩:=ka m l fun x hx=>h x (List.mem_cons_of_mem _ hx)
  obtain ⟨t,_,ht⟩:=List.mem_map.1 (h e (List.mem_cons_self))
  exact ⟨t::l',by rw [h',←ht]; rfl⟩
theorem lG (b:Bool) (f:Nat) (s:St):ACalls Pg Fn160.n [.sl [] b,.fn (.func f) [] []] s fun av s'=>s'.h=s.h:=by
 have hw1:IntKind.i64.wrap 1=1:=by decide
 have hw0:IntKind.i64.wrap 0=0:=by decide
 have hu0:IntKind.u64.wrap 0=0:=by decide
 have hins:∀ s:St,ACalls Pg Fn294.n [.sl [] false,.int 0,.int 0,.fn (.func f) [] []] s fun av s'=>s'.h=s.h:=fun s=>by
  refine Fn294.calls .frz ?_
  unfold Fn294.ac
  simp [hw1]
  refine fP (fun n sl s'=>sl 2=.int 0∧sl 8=.int 1∧s'.h=s.h) 0 ?_ ?_
  ·simp
  ·rintro n sl s' ⟨h2,h8,hh⟩
   simp [h2,h8,hh]
 obtain ⟨k,hk⟩:=mj 0 (by decide)
 refine Fn160.calls .frz ?_
 unfold Fn160.ac
 simp [hu0]
 refine ACalls.pure hk fun c1 hc1=>?_
 simp
 have hpdq:∀ s:St,ACalls Pg Fn231.n [.sl [] false,.int 0,.int 0,.int k,.fn (.func f) [] []] s fun av s'=>s'.h=s.h:=fun s=>by
  refine Fn231.calls .frz ?_
  unfold Fn231.ac
  simp
  refine fP (fun n sl s'=>sl 0=.sl [] false∧sl 1=.int 0∧sl 2=.int 0∧sl 4=.fn (.func f) [] []∧s'=s) 0 ?_ ?_
  ·simp
  ·rintro n sl s' ⟨e0,e1,e2,e4,rfl⟩
   simp [e0,e1,e2,e4,hw0]
   refine (hins _).mono ?_
   rintro av ⟨h2,c2⟩ hc2 hh
   simp only at hh
   simp [hh]
 refine (hpdq _).mono ?_
 rintro av ⟨h2,c2⟩ hc2 hh
 simp only at hh
 simp [hh]
theorem bw (n:Int) (l:List Wb.Term) (hl:l.length≤12) (hnz:∀ t∈l,t.coef≠0) (s:St) :
  ACalls Pg Fn76.n [.int n,row (l.map Term.cells)] s fun av s'=>(∃ f:Wb.Form,av=f.av)∧s'.h=s.h:=by
 obtain ⟨h0,c0⟩:=s
 refine Fn76.calls .frz ?_
 unfold Fn76.ac
 simp
 refine (fJ l _ _).mono ?_
 rintro x ⟨h1,c1⟩ hc1 ⟨hF1,hx⟩
 simp only at hF1 hx hc1
 have hx':pU (c0+1) (norm x) l h1 c1:=by
  rcases hx with ⟨b,rfl,rfl⟩ | ⟨g,q1,q2,rfl,q4⟩
  ·exact .inl ⟨false,rfl,rfl⟩
  ·exact .inr ⟨g,q1,q2,rfl,q4⟩
 simp
 refine ACalls.at (ib l hl hnz (c0+1) (norm x) h1 c1 hx') fun c2 hc2=>?_
 have hb0:h1 c0=some (.row 2 [[.int 0,.sl [] true]] .live none):=by rw [hF1.h c0 (by omega)]; simp
 rcases hx with ⟨b,rfl,rfl⟩ | ⟨g,q1,q2,rfl,q4⟩
 ·simp
  refine (lG false _ ⟨h1,c2⟩).mono ?_
  rintro av ⟨h3,c3⟩ hc3 hh
  simp only at hh
  subst hh
  simp [aI,hb0]
  refine ⟨⟨⟨n,[]⟩,rfl⟩,?_⟩
  exact ay fun k hk=>by rw [hF1.h k (by omega),ad (by omega)]
 ·simp
  have:=ip (aF l) (by simp [aF]; omega) (jc l) Fn161.n tlt g h1 c2 q4 (by omega) (pr l)
  rw [show (aF l).length=l.length by simp [aF]] at this
  refine this.mono ?_
  rintro av ⟨h3,c3⟩ hc3 ⟨hg3,hfr3⟩
  simp only at hg3 hfr3 hc3
  obtain ⟨l',hl'⟩:=ka (iT tlt (aF l)) l fun e he=>gY tlt _ _ e he
  have hll:l'.length=l.length:=by
   have h1:(iT tlt (aF l)).length=(aF l).length:=gX tlt _ _
   rw [hl'] at h1; simpa [aF] using h1
  have hb3:h3 c0=some (.row 2 [[.int 0,.sl [] true]] .live none):=by rw [hfr3 c0 (by omega)]; exact hb0
  have hgc:¬g=c0:=by omega
  have hcg:¬c0=g:=by omega
  rw [hl'] at hg3
  simp [aI,hb3,hg3,hgc,hcg,hll,aF]
  refine ⟨⟨⟨n,l'⟩,?_⟩,?_⟩
  ·rw [List.take_of_length_le (by simp; omega),eQ]; rfl
  ·exact ay fun k hk=>by rw [ad (by omega),ad (by omega),hfr3 k (by omega),hF1.h k (by omega),ad (by omega)]
end Go.Proofs.YtjhogglgkjcacaaGreat
set_option maxRecDepth 20000
set_option maxHeartbeats 4000000
namespace Go.Proofs.YtjhogglgkjcacaaGreat
open Go.AM Go.Wb
theorem _root_.Go.AM.ACalls.draw {P:Program} {f:FuncId} {args:List AV} {R:AV→Prop} {g:Nat} {L:List Int} {a Kd:Int} {h:Heap} {c:Nat} {K:AV→St→Prop} (hp:ACalls P f args ⟨h,c⟩ fun av s'=>R av∧SMI h g L a Kd s'.h)
  (hk:∀ v h' c' a',R v→c≤c'→a≤a'→a'≤a+Kd→SM h' g L a'→(∀ k,k≠g→h' k=h k)→K v ⟨h',c'⟩):ACalls P f args ⟨h,c⟩ K:=by
 refine hp.mono fun av s' hc hr=>?_
 obtain ⟨hr,a',q1,q2,q3,q4⟩:=hr
 exact hk av s'.h s'.c a' hr hc q1 q2 q3 q4
theorem fM (loops:List ByteArray) (hloops:loops.length≤100) (L:List Int) (a:Int) (g:Nat) (h0:Heap) (c0:Nat) (hs:SM h0 g L a) (ha:0≤a) (ha':a<900000000) (hL:L.length≤1048576) (hg:g<c0) :
  ACalls Pg Fn199.n [.ptr g 0 0,row (am loops)] ⟨h0,c0⟩ fun av s'=>(∃ f:Wb.Form,av=f.av)∧SMI h0 g L a 4 s'.h:=by
 refine Fn199.calls .frz ?_
 unfold Fn199.ac
 have hgc:¬g=c0:=by omega
 have hcg:¬c0=g:=by omega
 have hfin:∀ {h:Heap} {c:Nat} {a':Int} (f:Wb.Form),(∀ k,k≠g→k<c0→h k=h0 k)→SM h g L a'→a≤a'→a'≤a+4→True∧SMI h0 g L a 4 (retH c0 h0 h):=
  fun f hfr hsm q1 q2=>⟨trivial,SMI.ret hg ⟨_,q1,q2,hsm,fun k hk hkg=>hfr k hkg hk⟩⟩
 simp
 by_cases hl:loops=[]
 ·subst hl
  simp [am]
  refine ACalls.draw (R:=fun v=>∃ k,v=.int k∧0≤k∧(0≤(5:Int)→k≤5)∧((5:Int)<0→k=0)) (jq L a 0 5 g _ _ (by omega) (by omega) (by omega) (by unfold SM; rw [ad hgc]; exact hs) ha (by omega) hL (by omega)) fun v h1 c1 a1 hv hc q1 q2 q3 q4=>?_
  obtain ⟨k,rfl,_⟩:=hv
  simp
  refine (bw k [] (by simp) (by simp) ⟨h1,c1⟩).mono ?_
  rintro av ⟨h2,c2⟩ hc2 ⟨⟨f,rfl⟩,hh⟩
  simp only at hh
  subst hh
  have hb:h2 c0=some (.row 2 [[.int 0,.sl [] true]] .live none):=by rw [q4 c0 hcg]; simp
  simp [Form.av,Form.cells,hb]
  have:=hfin (c:=c2) f (fun k hk hk2=>by rw [q4 k hk,ad (by omega)]) q3 q1 (by omega)
  exact ⟨⟨f,rfl,rfl⟩,this.2⟩
 ·have hlp:=List.length_pos_iff.2 hl
  have hl0:¬(loops.length:Int)=0:=by omega
  have hsl:(am loops).length=loops.length:=by simp [am]
  have hsn:¬am loops=[]:=fun e=>by rw [e] at hsl; simp at hsl; omega
  simp [hsn]
  refine ACalls.draw (eu L a 8 g _ _ (by omega) (by unfold SM; rw [ad hgc]; exact hs) ha (by omega) hL (by omega)) fun v h1 c1 a1 hv hc1 q1 q2 q3 q4=>?_
  obtain ⟨b,rfl⟩:=hv
  have hb1:h1 c0=some (.row 2 [[.int 0,.sl [] true]] .live none):=by rw [q4 c0 hcg]; simp
  cases b
  case true=>
   simp
   refine ACalls.draw (R:=fun v=>∃ k,v=.int k∧0≤k∧(0≤(5:Int)→k≤5)∧((5:Int)<0→k=0)) (jq L a1 0 5 g h1 c1 (by omega) (by omega) (by omega) q3 (by omega) (by omega) hL (by omega)) fun v h2 c2 a2 hv hc2 p1 p2 p3 p4=>?_
   obtain ⟨k,rfl,_⟩:=hv
   simp
   refine (bw k [] (by simp) (by simp) ⟨h2,c2⟩).mono ?_
   rintro av ⟨h3,c3⟩ hc3 ⟨⟨f,rfl⟩,hh⟩
   simp only at hh
   subst hh
   have hb:h3 c0=some (.row 2 [[.int 0,.sl [] true]] .live none):=by rw [p4 c0 hcg]; exact hb1
   simp [Form.av,Form.cells,hb]
   exact ⟨⟨f,rfl,rfl⟩,(hfin (c:=c3) f (fun k hk hk2=>by rw [p4 k hk,q4 k hk,ad (by omega)]) p3 (by omega) (by omega)).2⟩
  simp [hsl]
  refine ACalls.draw (cm L a1 loops.length g h1 c1 (by omega) q3 (by omega) (by omega) hL (by omega)) fun v h3 c3 a3 hv hc3 p1 p2 p3 p4=>?_
  obtain ⟨k1,rfl,hk1,hk2,_⟩:=hv
  have hk2':=hk2 (by omega)
  have hkn1:k1.toNat<loops.length:=by omega
  obtain ⟨x,hx⟩:∃ x,(am loops)[k1.toNat]?=some [.str x]:=⟨loops[k1.toNat],by simp [am,hkn1]⟩
  simp [hk1,hx,hsl]
  refine ACalls.draw (cm L a3 loops.length g h3 c3 (by omega) p3 (by omega) (by omega) hL (by omega)) fun v h4 c4 a4 hv hc4 r1 r2 r3 r4=>?_
  obtain ⟨k3,rfl,hk3,hk4,_⟩:=hv
  have hk4':=hk4 (by omega)
  have hkn3:k3.toNat<loops.length:=by omega
  obtain ⟨y,hy⟩:∃ y,(am loops)[k3.toNat]?=some [.str y]:=⟨loops[k3.toNat],by simp [am,hkn3]⟩
  simp [hk3,hy]
  refine ACalls.draw (cm L a4 7 g h4 c4 (by omega) r3 (by omega) (by omega) hL (by omega)) fun v h5 c5 a5 hv hc5 s1 s2 s3 s4=>?_
  obtain ⟨k5,rfl,hk5,hk6,_⟩:=hv
  have hb:h5 c0=some (.row 2 [[.int 0,.sl [] true]] .live none):=by rw [s4 c0 hcg,r4 c0 hcg,p4 c0 hcg]; exact hb1
  by_cases e0:k5=0
  ·simp [e0,bsI,an,aI]
   refine (bw 1 [⟨x,1⟩] (by simp) (by simp) ⟨h5,c5⟩).mono ?_
   rintro av ⟨h6,c6⟩ hc6 ⟨⟨f,rfl⟩,hh⟩
   simp only at hh
   subst hh
   simp [Form.av,Form.cells,hb]
   exact ⟨⟨f,rfl,rfl⟩,(hfin (c:=c6) f (fun k hk hk2=>by rw [s4 k hk,r4 k hk,p4 k hk,q4 k hk,ad (by omega)]) s3 (by omega) (by omega)).2⟩
  by_cases e1:k5=1
  ·simp [e0,e1,bsI,an,aI]
   refine (bw 2 [⟨x,2⟩] (by simp) (by simp) ⟨h5,c5⟩).mono ?_
   rintro av ⟨h6,c6⟩ hc6 ⟨⟨f,rfl⟩,hh⟩
   simp only at hh
   subst hh
   simp [Form.av,Form.cells,hb]
   exact ⟨⟨f,rfl,rfl⟩,(hfin (c:=c6) f (fun k hk hk2=>by rw [s4 k hk,r4 k hk,p4 k hk,q4 k hk,ad (by omega)]) s3 (by omega) (by omega)).2⟩
  by_cases e2:k5=2
  ·simp [e0,e1,e2,bsI,an,aI]
   refine (bw 4 [⟨x,-1⟩] (by simp) (by simp) ⟨h5,c5⟩).mono ?_
   rintro av ⟨h6,c6⟩ hc6 ⟨⟨f,rfl⟩,hh⟩
   simp only at hh
   subst hh
   simp [Form.av,Form.cells,hb]
   exact ⟨⟨f,rfl,rfl⟩,(hfin (c:=c6) f (fun k hk hk2=>by rw [s4 k hk,r4 k hk,p4 k hk,q4 k hk,ad (by omega)]) s3 (by omega) (by omega)).2⟩
  by_cases exy:x=y
  ·by_cases e3:k5=3
   ·simp [e0,e1,e2,e3,exy,bsI,an,aI]
    refine (bw 0 [⟨y,1⟩] (by simp) (by simp) ⟨h5,c5⟩).mono ?_
    rintro av ⟨h6,c6⟩ hc6 ⟨⟨f,rfl⟩,hh⟩
    simp only at hh
    subst hh
    simp [Form.av,Form.cells,hb]
    exact ⟨⟨f,rfl,rfl⟩,(hfin (c:=c6) f (fun k hk hk2=>by rw [s4 k hk,r4 k hk,p4 k hk,q4 k hk,ad (by omega)]) s3 (by omega) (by omega)).2⟩
   by_cases e4:k5=4
   ·simp [e0,e1,e2,e3,e4,exy,bsI,an,aI]
    refine (bw 0 [⟨y,1⟩] (by simp) (by simp) ⟨h5,c5⟩).mono ?_
    rintro av ⟨h6,c6⟩ hc6 ⟨⟨f,rfl⟩,hh⟩
    simp only at hh
    subst hh
    simp [Form.av,Form.cells,hb]
    exact ⟨⟨f,rfl,rfl⟩,(hfin (c:=c6) f (fun k hk hk2=>by rw [s4 k hk,r4 k hk,p4 k hk,q4 k hk,ad (by omega)]) s3 (by omega) (by omega)).2⟩
   simp [e0,e1,e2,e3,e4,exy,bsI,an,aI]
   refine (bw 0 [⟨y,1⟩] (by simp) (by simp) ⟨h5,c5⟩).mono ?_
   rintro av ⟨h6,c6⟩ hc6 ⟨⟨f,rfl⟩,hh⟩
   simp only at hh
   subst hh
   simp [Form.av,Form.cells,hb]
   exact ⟨⟨f,rfl,rfl⟩,(hfin (c:=c6) f (fun k hk hk2=>by rw [s4 k hk,r4 k hk,p4 k hk,q4 k hk,ad (by omega)]) s3 (by omega) (by omega)).2⟩
  by_cases e3:k5=3
  ·simp [e0,e1,e2,e3,exy,bsI,an,aI]
   refine (bw 0 [⟨x,1⟩,⟨y,1⟩] (by simp) (by simp) ⟨h5,c5⟩).mono ?_
   rintro av ⟨h6,c6⟩ hc6 ⟨⟨f,rfl⟩,hh⟩
   simp only at hh
   subst hh
   simp [Form.av,Form.cells,hb]
   exact ⟨⟨f,rfl,rfl⟩,(hfin (c:=c6) f (fun k hk hk2=>by rw [s4 k hk,r4 k hk,p4 k hk,q4 k hk,ad (by omega)]) s3 (by omega) (by omega)).2⟩
  by_cases e4:k5=4
  ·simp [e0,e1,e2,e3,e4,exy,bsI,an,aI]
   refine (bw 4 [⟨x,1⟩,⟨y,-1⟩] (by simp) (by simp) ⟨h5,c5⟩).mono ?_
   rintro av ⟨h6,c6⟩ hc6 ⟨⟨f,rfl⟩,hh⟩
   simp only at hh
   subst hh
   simp [Form.av,Form.cells,hb]
   exact ⟨⟨f,rfl,rfl⟩,(hfin (c:=c6) f (fun k hk hk2=>by rw [s4 k hk,r4 k hk,p4 k hk,q4 k hk,ad (by omega)]) s3 (by omega) (by omega)).2⟩
  simp [e0,e1,e2,e3,e4,exy,bsI,an,aI]
  refine (bw 0 [⟨x,1⟩] (by simp) (by simp) ⟨h5,c5⟩).mono ?_
  rintro av ⟨h6,c6⟩ hc6 ⟨⟨f,rfl⟩,hh⟩
  simp only at hh
  subst hh
  simp [Form.av,Form.cells,hb]
  exact ⟨⟨f,rfl,rfl⟩,(hfin (c:=c6) f (fun k hk hk2=>by rw [s4 k hk,r4 k hk,p4 k hk,q4 k hk,ad (by omega)]) s3 (by omega) (by omega)).2⟩
theorem SMI.fin {h0 h:Heap} {c0 g:Nat} {L:List Int} {a a' K:Int} (hg:g<c0) (hfr:∀ k,k≠g→k<c0→h k=h0 k) (hsm:SM h g L a') (q1:a≤a') (q2:a'≤a+K):SMI h0 g L a K (retH c0 h0 h):=
 SMI.ret hg ⟨_,q1,q2,hsm,fun k hk hkg=>hfr k hkg hk⟩
theorem jD (loops:List ByteArray) (hloops:loops.length≤100) (L:List Int) (a:Int) (g:Nat) (h0:Heap) (c0:Nat) (hs:SM h0 g L a) (ha:0≤a) (ha':a<800000000) (hL:L.length≤1048576) (hg:g<c0) :
  ACalls Pg Fn141.n [.ptr g 0 0,row (am loops)] ⟨h0,c0⟩ fun av s'=>(∃ (key:ByteArray) (fs:List Wb.Form),av=.tup [.str key,row (fs.map Form.cells)])∧SMI h0 g L a 9 s'.h:=by
 refine Fn141.calls .frz ?_
 unfold Fn141.ac
 simp
 refine ACalls.draw (cm L a 5 g h0 c0 (by omega) hs ha (by omega) hL (by omega)) fun v h1 c1 a1 hv hc1 q1 q2 q3 q4=>?_
 obtain ⟨k1,rfl,hk1,hk2,_⟩:=hv
 by_cases e0:k1=0
 ·simp [e0]
  refine ACalls.draw (fM loops hloops L a1 g h1 c1 q3 (by omega) (by omega) hL (by omega)) fun v h2 c2 a2 hv hc2 p1 p2 p3 p4=>?_
  obtain ⟨f,rfl⟩:=hv
  simp
  refine ACalls.draw (fM loops hloops L a2 g h2 c2 p3 (by omega) (by omega) hL (by omega)) fun v h3 c3 a3 hv hc3 r1 r2 r3 r4=>?_
  obtain ⟨f',rfl⟩:=hv
  simp [bsI,an,Form.av,Form.cells]
  exact ⟨⟨[f,f'],rfl⟩,SMI.fin hg (fun k hk hk2=>by rw [r4 k hk,p4 k hk,q4 k hk]) r3 (by omega) (by omega)⟩
 by_cases e1:k1=1
 ·simp [e0,e1,bsI,an]
  refine ACalls.draw (R:=fun v=>∃ k,v=.int k∧k∈[0,0,0,1]) (bS [0,0,0,1] L a1 g h1 c1 (by simp) (by simp) q3 (by omega) (by omega) hL (by omega)) fun v h2 c2 a2 hv hc2 p1 p2 p3 p4=>?_
  obtain ⟨k,rfl,_⟩:=hv
  simp
  refine (bw k [] (by simp) (by simp) ⟨h2,c2⟩).mono ?_
  rintro av ⟨h3,c3⟩ hc3 ⟨⟨f,rfl⟩,hh⟩
  simp only at hh
  subst hh
  simp [bsI,an,Form.av,Form.cells]
  exact ⟨⟨[f],rfl⟩,SMI.fin hg (fun k hk hk2=>by rw [p4 k hk,q4 k hk]) p3 (by omega) (by omega)⟩
 simp [e0,e1]
 refine ACalls.draw (fM loops hloops L a1 g h1 c1 q3 (by omega) (by omega) hL (by omega)) fun v h2 c2 a2 hv hc2 p1 p2 p3 p4=>?_
 obtain ⟨f,rfl⟩:=hv
 simp [bsI,an,Form.av,Form.cells]
 exact ⟨⟨[f],rfl⟩,SMI.fin hg (fun k hk hk2=>by rw [p4 k hk,q4 k hk]) p3 (by omega) (by omega)⟩
theorem dC (f:Wb.Form) (d:Int):aG Pg Fn139.n [f.av,.int d] (Wb.Bound.mk f d).av:=by
 rintro ⟨h0,c0⟩
 refine Fn139.calls .frz ?_
 unfold Fn139.ac
 have hne:¬c0=c0+1:=by omega
 simp [Form.av,Form.cells,Bound.av,Bound.cells,aI,hne]
def eW:Nat→Int
 | 0=>11
 | n+1=>2+2*eW n+11
theorem oR:∀ n,11≤eW n
 | 0=>by simp [eW]
 | n+1=>by have:=oR n; simp [eW]; omega
theorem tP (loops:List ByteArray) (hloops:loops.length≤100) (L:List Int) (hL:L.length≤1048576) (g:Nat):∀ (n:Nat) (d:Int) (a:Int) (h0:Heap) (c0:Nat),d≤n+1 → -10≤d→n≤10→SM h0 g L a→0≤a→a+eW n<800000000→g<c0 →
  ACalls Pg Fn143.n [.ptr g 0 0,row (am loops),.int d] ⟨h0,c0⟩ fun av s'=>(∃ e:Wb.Expr,av=e.av)∧SMI h0 g L a (eW n) s'.h:=by
 intro n
 induction n with
 | zero=>
  intro d a h0 c0 hd hd' hn hs ha ha' hg
  have hgc:¬g=c0:=by omega
  have hcg:¬c0=g:=by omega
  have hK0:eW 0=11:=rfl
  refine Fn143.calls .frz ?_
  unfold Fn143.ac
  have d2:d<2:=by omega
  simp [d2]
  refine ACalls.draw (cm L a 5 g _ _ (by omega) (by unfold SM; rw [ad hgc]; exact hs) (by omega) (by omega) hL (by omega)) fun v h5 c5 a5 hv hc5 u1 u2 u3 u4=>?_
  obtain ⟨k5,rfl,hk5,hk6,_⟩:=hv
  have hb5:h5 c0=some (.row 7 [[.int 0,.int 0,.int 0,.sl [] true,.str ⟨#[]⟩,.sl [] true,.sl [] true]] .live none):=by rw [u4 c0 hcg]; simp
  by_cases e0:k5=0
  ·simp [e0,bsI,an]
   refine ACalls.draw (R:=fun v=>∃ k,v=.int k∧k∈[0,1,2,5,1000002]) (bS [0,1,2,5,1000002] L a5 g h5 c5 (by simp) (by simp) u3 (by omega) (by omega) hL (by omega)) fun v h6 c6 a6 hv hc6 w1 w2 w3 w4=>?_
   obtain ⟨k,rfl,_⟩:=hv
   have hb6:h6 c0=some (.row 7 [[.int 0,.int 0,.int 0,.sl [] true,.str ⟨#[]⟩,.sl [] true,.sl [] true]] .live none):=by rw [w4 c0 hcg]; exact hb5
   simp [aI,hb6]
   exact ⟨⟨.mk 1 k ⟨0,[]⟩ ⟨#[]⟩ [] [],by simp [Expr.av_mk]⟩,SMI.fin hg (fun k hk hk2=>by rw [w4 k hk,u4 k hk]; rw [ad (by omega)]) w3 (by omega) (by omega)⟩
  by_cases e1:k5=1
  ·simp [e0,e1]
   refine ACalls.draw (fM loops hloops L a5 g h5 c5 u3 (by omega) (by omega) hL (by omega)) fun v h6 c6 a6 hv hc6 w1 w2 w3 w4=>?_
   obtain ⟨f,rfl⟩:=hv
   have hb6:h6 c0=some (.row 7 [[.int 0,.int 0,.int 0,.sl [] true,.str ⟨#[]⟩,.sl [] true,.sl [] true]] .live none):=by rw [w4 c0 hcg]; exact hb5
   simp [Form.av,Form.cells,aI,hb6]
   exact ⟨⟨.mk 2 0 f ⟨#[]⟩ [] [],by simp [Expr.av_mk]⟩,SMI.fin hg (fun k hk hk2=>by rw [w4 k hk,u4 k hk]; rw [ad (by omega)]) w3 (by omega) (by omega)⟩
  simp [e0,e1]
  refine ACalls.draw (jD loops hloops L a5 g h5 c5 u3 (by omega) (by omega) hL (by omega)) fun v h6 c6 a6 hv hc6 w1 w2 w3 w4=>?_
  obtain ⟨key,fs,rfl⟩:=hv
  have hb6:h6 c0=some (.row 7 [[.int 0,.int 0,.int 0,.sl [] true,.str ⟨#[]⟩,.sl [] true,.sl [] true]] .live none):=by rw [w4 c0 hcg]; exact hb5
  simp [aI,hb6]
  exact ⟨⟨.mk 3 0 ⟨0,[]⟩ key fs [],by simp [Expr.av_mk]⟩,SMI.fin hg (fun k hk hk2=>by rw [w4 k hk,u4 k hk]; rw [ad (by omega)]) w3 (by omega) (by omega)⟩
 | succ n ih=>
  intro d a h0 c0 hd hd' hn hs ha ha' hg
  have hgc:¬g=c0:=by omega
  have hcg:¬c0=g:=by omega
  have hp:=oR n
  have hKe:eW (n+1)=2+2*eW n+11:=rfl
  refine Fn143.calls .frz ?_
  unfold Fn143.ac
  by_cases d2:d<2
  ·simp [d2]
   refine ACalls.draw (cm L a 5 g _ _ (by omega) (by unfold SM; rw [ad hgc]; exact hs) (by omega) (by omega) hL (by omega)) fun v h5 c5 a5 hv hc5 u1 u2 u3 u4=>?_
   obtain ⟨k5,rfl,hk5,hk6,_⟩:=hv
   have hb5:h5 c0=some (.row 7 [[.int 0,.int 0,.int 0,.sl [] true,.str ⟨#[]⟩,.sl [] true,.sl [] true]] .live none):=by rw [u4 c0 hcg]; simp
   by_cases e0:k5=0
   ·simp [e0,bsI,an]
    refine ACalls.draw (R:=fun v=>∃ k,v=.int k∧k∈[0,1,2,5,1000002]) (bS [0,1,2,5,1000002] L a5 g h5 c5 (by simp) (by simp) u3 (by omega) (by omega) hL (by omega)) fun v h6 c6 a6 hv hc6 w1 w2 w3 w4=>?_
    obtain ⟨k,rfl,_⟩:=hv
    have hb6:h6 c0=some (.row 7 [[.int 0,.int 0,.int 0,.sl [] true,.str ⟨#[]⟩,.sl [] true,.sl [] true]] .live none):=by rw [w4 c0 hcg]; exact hb5
    simp [aI,hb6]
    exact ⟨⟨.mk 1 k ⟨0,[]⟩ ⟨#[]⟩ [] [],by simp [Expr.av_mk]⟩,SMI.fin hg (fun k hk hk2=>by rw [w4 k hk,u4 k hk]; rw [ad (by omega)]) w3 (by omega) (by omega)⟩
   by_cases e1:k5=1
   ·simp [e0,e1]
    refine ACalls.draw (fM loops hloops L a5 g h5 c5 u3 (by omega) (by omega) hL (by omega)) fun v h6 c6 a6 hv hc6 w1 w2 w3 w4=>?_
    obtain ⟨f,rfl⟩:=hv
    have hb6:h6 c0=some (.row 7 [[.int 0,.int 0,.int 0,.sl [] true,.str ⟨#[]⟩,.sl [] true,.sl [] true]] .live none):=by rw [w4 c0 hcg]; exact hb5
    simp [Form.av,Form.cells,aI,hb6]
    exact ⟨⟨.mk 2 0 f ⟨#[]⟩ [] [],by simp [Expr.av_mk]⟩,SMI.fin hg (fun k hk hk2=>by rw [w4 k hk,u4 k hk]; rw [ad (by omega)]) w3 (by omega) (by omega)⟩
   simp [e0,e1]
   refine ACalls.draw (jD loops hloops L a5 g h5 c5 u3 (by omega) (by omega) hL (by omega)) fun v h6 c6 a6 hv hc6 w1 w2 w3 w4=>?_
   obtain ⟨key,fs,rfl⟩:=hv
   have hb6:h6 c0=some (.row 7 [[.int 0,.int 0,.int 0,.sl [] true,.str ⟨#[]⟩,.sl [] true,.sl [] true]] .live none):=by rw [w4 c0 hcg]; exact hb5
   simp [aI,hb6]
   exact ⟨⟨.mk 3 0 ⟨0,[]⟩ key fs [],by simp [Expr.av_mk]⟩,SMI.fin hg (fun k hk hk2=>by rw [w4 k hk,u4 k hk]; rw [ad (by omega)]) w3 (by omega) (by omega)⟩
  simp [d2]
  refine ACalls.draw (eu L a 3 g _ _ (by omega) (by unfold SM; rw [ad hgc]; exact hs) ha (by omega) hL (by omega)) fun v h1 c1 a1 hv hc1 q1 q2 q3 q4=>?_
  obtain ⟨b,rfl⟩:=hv
  have hb1:h1 c0=some (.row 7 [[.int 0,.int 0,.int 0,.sl [] true,.str ⟨#[]⟩,.sl [] true,.sl [] true]] .live none):=by rw [q4 c0 hcg]; simp
  cases b
  ·simp [bsI,an]
   refine ACalls.draw (R:=fun v=>∃ k,v=.int k∧k∈[4,4,5,6]) (bS [4,4,5,6] L a1 g h1 c1 (by simp) (by simp) q3 (by omega) (by omega) hL (by omega)) fun v h2 c2 a2 hv hc2 p1 p2 p3 p4=>?_
   obtain ⟨k,rfl,_⟩:=hv
   have hw:=ah (x:=d-1) (by omega) (by omega)
   simp [hw]
   refine ACalls.draw (ih (d-1) a2 h2 c2 (by omega) (by omega) (by omega) p3 (by omega) (by omega) (by omega)) fun v h3 c3 a3 hv hc3 r1 r2 r3 r4=>?_
   obtain ⟨e1,rfl⟩:=hv
   simp [hw]
   refine ACalls.draw (ih (d-1) a3 h3 c3 (by omega) (by omega) (by omega) r3 (by omega) (by omega) (by omega)) fun v h4 c4 a4 hv hc4 s1 s2 s3 s4=>?_
   obtain ⟨e2,rfl⟩:=hv
   have hb4:h4 c0=some (.row 7 [[.int 0,.int 0,.int 0,.sl [] true,.str ⟨#[]⟩,.sl [] true,.sl [] true]] .live none):=by rw [s4 c0 hcg,r4 c0 hcg,p4 c0 hcg]; exact hb1
   have hfin:=SMI.fin (K:=eW (n+1)) (a:=a) hg (fun k hk hk2=>by rw [s4 k hk,r4 k hk,p4 k hk,q4 k hk,ad (by omega)]:∀ k,k≠g→k<c0→h4 k=h0 k) s3 (by omega) (by simp only [eW]; omega)
   obtain ⟨o1,n1,f1,x1,y1,z1⟩:=e1
   obtain ⟨o2,n2,f2,x2,y2,z2⟩:=e2
   simp [Expr.av_mk,bsI,an,aI,hb4]
   refine ⟨⟨.mk k 0 ⟨0,[]⟩ ⟨#[]⟩ [] [.mk o1 n1 f1 x1 y1 z1,.mk o2 n2 f2 x2 y2 z2],?_⟩,hfin⟩
   simp [Expr.av_mk,Expr.cells_mk]
  ·simp
   refine ACalls.draw (cm L a1 5 g h1 c1 (by omega) (q3) (by omega) (by omega) hL (by omega)) fun v h5 c5 a5 hv hc5 u1 u2 u3 u4=>?_
   obtain ⟨k5,rfl,hk5,hk6,_⟩:=hv
   have hb5:h5 c0=some (.row 7 [[.int 0,.int 0,.int 0,.sl [] true,.str ⟨#[]⟩,.sl [] true,.sl [] true]] .live none):=by rw [u4 c0 hcg]; exact hb1
   by_cases e0:k5=0
   ·simp [e0,bsI,an]
    refine ACalls.draw (R:=fun v=>∃ k,v=.int k∧k∈[0,1,2,5,1000002]) (bS [0,1,2,5,1000002] L a5 g h5 c5 (by simp) (by simp) u3 (by omega) (by omega) hL (by omega)) fun v h6 c6 a6 hv hc6 w1 w2 w3 w4=>?_
    obtain ⟨k,rfl,_⟩:=hv
    have hb6:h6 c0=some (.row 7 [[.int 0,.int 0,.int 0,.sl [] true,.str ⟨#[]⟩,.sl [] true,.sl [] true]] .live none):=by rw [w4 c0 hcg]; exact hb5
    simp [aI,hb6]
    exact ⟨⟨.mk 1 k ⟨0,[]⟩ ⟨#[]⟩ [] [],by simp [Expr.av_mk]⟩,SMI.fin hg (fun k hk hk2=>by rw [w4 k hk,u4 k hk]; rw [q4 k hk,ad (by omega)]) w3 (by omega) (by omega)⟩
   by_cases e1:k5=1
   ·simp [e0,e1]
    refine ACalls.draw (fM loops hloops L a5 g h5 c5 u3 (by omega) (by omega) hL (by omega)) fun v h6 c6 a6 hv hc6 w1 w2 w3 w4=>?_
    obtain ⟨f,rfl⟩:=hv
    have hb6:h6 c0=some (.row 7 [[.int 0,.int 0,.int 0,.sl [] true,.str ⟨#[]⟩,.sl [] true,.sl [] true]] .live none):=by rw [w4 c0 hcg]; exact hb5
    simp [Form.av,Form.cells,aI,hb6]
    exact ⟨⟨.mk 2 0 f ⟨#[]⟩ [] [],by simp [Expr.av_mk]⟩,SMI.fin hg (fun k hk hk2=>by rw [w4 k hk,u4 k hk]; rw [q4 k hk,ad (by omega)]) w3 (by omega) (by omega)⟩
   simp [e0,e1]
   refine ACalls.draw (jD loops hloops L a5 g h5 c5 u3 (by omega) (by omega) hL (by omega)) fun v h6 c6 a6 hv hc6 w1 w2 w3 w4=>?_
   obtain ⟨key,fs,rfl⟩:=hv
   have hb6:h6 c0=some (.row 7 [[.int 0,.int 0,.int 0,.sl [] true,.str ⟨#[]⟩,.sl [] true,.sl [] true]] .live none):=by rw [w4 c0 hcg]; exact hb5
   simp [aI,hb6]
   exact ⟨⟨.mk 3 0 ⟨0,[]⟩ key fs [],by simp [Expr.av_mk]⟩,SMI.fin hg (fun k hk hk2=>by rw [w4 k hk,u4 k hk]; rw [q4 k hk,ad (by omega)]) w3 (by omega) (by omega)⟩
end Go.Proofs.YtjhogglgkjcacaaGreat
set_option maxRecDepth 20000
set_option maxHeartbeats 4000000
namespace Go.Proofs.YtjhogglgkjcacaaGreat
open Go.AM Go.Wb
def CondAt (h:Heap) (S:Nat→Prop) (x:AV) (fs:List Wb.Form):Prop:=x=.sl (fs.map Form.cells) true∨∃ g,S g∧x=.row g 2 0 fs.length∧h g=some (.row 2 (fs.map Form.cells) .live none)
def BodyAt (h:Heap) (S:Nat→Prop) (x:AV) (es:List (List AV)):Prop:=(∃ b,x=.sl [] b∧es=[])∨∃ g,S g∧x=.row g 15 0 es.length∧h g=some (.row 15 es .live none)
inductive Tr (B:Nat) (h:Heap):(Nat→Prop)→List (List AV)→Nat→Prop
 | nil (S):Tr B h S [] 0
 | cons (S So Sb Sr:Nat→Prop) (kind:Int) (name:ByteArray) (lo hi cv body:AV) (array:ByteArray) (subs:AV) (ex:List AV) (los his:List Wb.Bound) (fs:List Wb.Form) (ss:List Wb.Form) (e:Wb.Expr) (bes es:List (List AV)) (n m:Nat)
   (hlo:norm lo=row (los.map Bound.cells)) (hhi:norm hi=row (his.map Bound.cells)) (hsub:norm subs=row (ss.map Form.cells)) (hex:aQ ex=e.cells) (hlc:lo.cell=true∧hi.cell=true∧subs.cell=true∧ex.all AV.cell=true∧fs.length≤B)
   (hc:CondAt h So cv fs) (hb:BodyAt h So body bes) (ht:Tr B h Sb bes n) (hr:Tr B h Sr es m)
   (h1:∀ k,So k→S k) (h2:∀ k,Sb k→S k) (h3:∀ k,Sr k→S k) (d1:∀ k,So k→Sb k→False) (d2:∀ k,So k→Sr k→False) (d3:∀ k,Sb k→Sr k→False) :
   Tr B h S ((.int kind::.str name::lo::hi::cv::body::.str array::subs::ex)::es) (1+n+m)
theorem CondAt.frame {h h':Heap} {S S':Nat→Prop} {x:AV} {fs:List Wb.Form} (c:CondAt h S x fs) (hS:∀ k,S k→S' k) (hh:∀ k,S k→h' k=h k):CondAt h' S' x fs:=by
 rcases c with c | ⟨g,h1,h2,h3⟩
 ·exact .inl c
 ·exact .inr ⟨g,hS g h1,h2,(hh g h1).trans h3⟩
theorem BodyAt.frame {h h':Heap} {S S':Nat→Prop} {x:AV} {fs:List (List AV)} (c:BodyAt h S x fs) (hS:∀ k,S k→S' k) (hh:∀ k,S k→h' k=h k):BodyAt h' S' x fs:=by
 rcases c with c | ⟨g,h1,h2,h3⟩
 ·exact .inl c
 ·exact .inr ⟨g,hS g h1,h2,(hh g h1).trans h3⟩
theorem Tr.frame {B:Nat} {h h':Heap} {S:Nat→Prop} {es:List (List AV)} {n:Nat} (t:Tr B h S es n):(∀ k,S k→h' k=h k)→Tr B h' S es n:=by
 induction t with
 | nil S=>intro _; exact .nil S
 | cons S So Sb Sr kind name lo hi cv body array subs ex los his fs ss e bes es n m hlo hhi hsub hex hlc hc hb ht hr h1 h2 h3 d1 d2 d3 ih1 ih2=>
  intro hh
  exact .cons S So Sb Sr kind name lo hi cv body array subs ex los his fs ss e bes es n m hlo hhi hsub hex hlc (hc.frame (fun _ h=>h) fun k hk=>hh k (h1 k hk)) (hb.frame (fun _ h=>h) fun k hk=>hh k (h1 k hk)) (ih1 fun k hk=>hh k (h2 k hk)) (ih2 fun k hk=>hh k (h3 k hk)) h1 h2 h3 d1 d2 d3
theorem Tr.mono {B:Nat} {h:Heap} {S S':Nat→Prop} {es:List (List AV)} {n:Nat} (t:Tr B h S es n) (hS:∀ k,S k→S' k):Tr B h S' es n:=by
 cases t with
 | nil S=>exact .nil S'
 | cons S So Sb Sr kind name lo hi cv body array subs ex los his fs ss e bes es n m hlo hhi hsub hex hlc hc hb ht hr h1 h2 h3 d1 d2 d3=>
  exact .cons S' So Sb Sr kind name lo hi cv body array subs ex los his fs ss e bes es n m hlo hhi hsub hex hlc hc hb ht hr (fun k hk=>hS k (h1 k hk)) (fun k hk=>hS k (h2 k hk)) (fun k hk=>hS k (h3 k hk)) d1 d2 d3
theorem Tr.app {B:Nat} {h:Heap} {S S2:Nat→Prop} {es es2:List (List AV)} {n m:Nat} (t:Tr B h S es n) (t2:Tr B h S2 es2 m):(∀ k,S k→S2 k→False)→Tr B h (fun k=>S k∨S2 k) (es++es2) (n+m):=by
 induction t with
 | nil S=>intro _; rw [List.nil_append,Nat.zero_add]; exact t2.mono fun k hk=>.inr hk
 | cons S So Sb Sr kind name lo hi cv body array subs ex los his fs ss e bes es n m' hlo hhi hsub hex hlc hc hb ht hr h1 h2 h3 d1 d2 d3 ih1 ih2=>
  intro hd
  have:=Tr.cons (fun k=>S k∨S2 k) So Sb (fun k=>Sr k∨S2 k) kind name lo hi cv body array subs ex los his fs ss e bes (es++es2) n (m'+m) hlo hhi hsub hex hlc hc hb ht (ih2 fun k hk=>hd k (h3 k hk)) (fun k hk=>.inl (h1 k hk)) (fun k hk=>.inl (h2 k hk)) (fun k hk=>hk.imp (h3 k) id) d1
   (fun k hk h=>h.elim (d2 k hk) (hd k (h1 k hk))) (fun k hk h=>h.elim (d3 k hk) (hd k (h2 k hk)))
  rw [←Nat.add_assoc] at this
  exact this
theorem Tr.more {B B':Nat} (hB:B≤B') {h:Heap} {S:Nat→Prop} {es:List (List AV)} {n:Nat} (t:Tr B h S es n):Tr B' h S es n:=by
 induction t with
 | nil S=>exact .nil S
 | cons S So Sb Sr kind name lo hi cv body array subs ex los his fs ss e bes es n m hlo hhi hsub hex hlc hc hb ht hr h1 h2 h3 d1 d2 d3 ih1 ih2=>
  exact .cons S So Sb Sr kind name lo hi cv body array subs ex los his fs ss e bes es n m hlo hhi hsub hex ⟨hlc.1,hlc.2.1,hlc.2.2.1,hlc.2.2.2.1,Nat.le_trans hlc.2.2.2.2 hB⟩ hc hb ih1 ih2 h1 h2 h3 d1 d2 d3
theorem Tr.len {B:Nat} {h:Heap} {S:Nat→Prop} {es:List (List AV)} {n:Nat} (t:Tr B h S es n):∀ e∈es,aA 15 e=true:=by
 induction t with
 | nil S=>simp
 | cons S So Sb Sr kind name lo hi cv body array subs ex los his fs ss e bes es n m hlo hhi hsub hex hlc hc hb ht hr h1 h2 h3 d1 d2 d3 ih1 ih2=>
  intro x hx
  rcases List.mem_cons.1 hx with rfl | hx
  ·have hl:ex.length=7:=by
    have:=congrArg List.length hex
    rw [ft] at this
    obtain ⟨_,_,_,_,_,_⟩:=e
    simpa [Expr.cells] using this
   have hcv:cv.cell=true:=by rcases hc with rfl | ⟨g,_,rfl,_⟩ <;> rfl
   have hbd:body.cell=true:=by rcases hb with ⟨b,rfl,_⟩ | ⟨g,_,rfl,_⟩ <;> rfl
   obtain ⟨c1,c2,c3,c4,_⟩:=hlc
   simp only [aA,List.length_cons,hl,List.all_cons,c1,c2,c3,c4,hcv,hbd,Bool.and_true]
   rfl
  ·exact ih2 x hx
theorem _root_.Go.AM.Frz.of_norm {h:Heap} {D:Nat→Prop} {v w:AV} (e:norm v=w):Frz h D v w:=e▸.leaf v
theorem Tr.frz {B:Nat} {h:Heap} {S D:Nat→Prop} {es:List (List AV)} {n:Nat} (t:Tr B h S es n):(∀ k,S k→D k)→∃ l:List Wb.Step,aB l=n∧l.length=es.length ∧
  ∀ (i:Nat) (e y:List AV),es[i]?=some e→(Step.list l)[i]?=some y→e.length=y.length∧∀ (j:Nat) (c d:AV),e[j]?=some c→y[j]?=some d→Frz h D c d:=by
 induction t with
 | nil S=>intro _; exact ⟨[],rfl,rfl,fun i e y he=>by simp at he⟩
 | cons S So Sb Sr kind name lo hi cv body array subs ex los his fs ss e bes es n m hlo hhi hsub hex hlc hc hb ht hr h1 h2 h3 d1 d2 d3 ih1 ih2=>
  intro hD
  obtain ⟨lb,b1,b2,b3⟩:=ih1 fun k hk=>hD k (h2 k hk)
  obtain ⟨lr,r1,r2,r3⟩:=ih2 fun k hk=>hD k (h3 k hk)
  have hcf:Frz h D cv (row (fs.map Form.cells)):=by
   rcases hc with rfl | ⟨g,g1,rfl,g2⟩
   ·exact .of_norm (by show AV.sl (aP _) false=_; rw [rj])
   ·refine .row g 2 0 fs.length _ .live _ g2 (.inl rfl) (hD g (h1 g g1)) (by simp) (by simp) ?_ ?_
    ·intro i e y he hy
     rw [Nat.zero_add] at he; rw [he] at hy; cases hy; rfl
    ·intro i j e y c d he hy hc hd
     rw [Nat.zero_add] at he; rw [he] at hy; cases hy; rw [hc] at hd; cases hd
     obtain ⟨f,_,hf⟩:=List.mem_map.1 (List.mem_of_getElem? he)
     refine .of_norm ?_
     have:=gH hc
     rw [←hf,nC,hf,hc] at this
     exact (Option.some.inj this).symm
  have hbf:Frz h D body (row (Step.list lb)):=by
   have hl:(Step.list lb).length=bes.length:=by rw [Step.list_map]; simpa using b2
   rcases hb with ⟨b,rfl,rfl⟩ | ⟨g,g1,rfl,g2⟩
   ·have:Step.list lb=[]:=List.length_eq_zero_iff.1 hl
    rw [this]
    exact .of_norm rfl
   ·refine .row g 15 0 bes.length _ .live _ g2 (.inl rfl) (hD g (h1 g g1)) (by simp) hl ?_ ?_
    ·intro i e y he hy
     rw [Nat.zero_add] at he
     exact (b3 i e y he hy).1
    ·intro i j e y c d he hy hc hd
     rw [Nat.zero_add] at he
     exact (b3 i e y he hy).2 j c d hc hd
  refine ⟨.mk kind name los his fs lb array ss e::lr,by simp [aB,count,b1,r1],by simp [r2],fun i x y hx hy=>?_⟩
  cases i with
  | zero=>
   simp only [List.getElem?_cons_zero,Option.some.injEq,Step.list] at hx hy
   subst hx; subst hy
   have hxl:ex.length=e.cells.length:=by rw [←hex,ft]
   refine ⟨by simp [Step.cells,hxl],fun j c d hc hd=>?_⟩
   match j with
   | 0=>simp [Step.cells] at hc hd; subst hc; subst hd; exact .leaf _
   | 1=>simp [Step.cells] at hc hd; subst hc; subst hd; exact .leaf _
   | 2=>simp [Step.cells] at hc hd; subst hc; subst hd; exact .of_norm hlo
   | 3=>simp [Step.cells] at hc hd; subst hc; subst hd; exact .of_norm hhi
   | 4=>simp [Step.cells] at hc hd; subst hc; subst hd; exact hcf
   | 5=>simp [Step.cells] at hc hd; subst hc; subst hd; exact hbf
   | 6=>simp [Step.cells] at hc hd; subst hc; subst hd; exact .leaf _
   | 7=>simp [Step.cells] at hc hd; subst hc; subst hd; exact .of_norm hsub
   | j+8=>
    simp [Step.cells] at hc hd
    refine .of_norm ?_
    have:=gH hc
    rw [hex,hd] at this
    exact (Option.some.inj this).symm
  | succ i=>exact r3 i x y (by simpa using hx) (by simpa [Step.list] using hy)
end Go.Proofs.YtjhogglgkjcacaaGreat
set_option maxRecDepth 20000
set_option maxHeartbeats 4000000
namespace Go.Proofs.YtjhogglgkjcacaaGreat
open Go.AM Go.Wb
theorem _root_.Go.AM.srI_row_from {sz g off len l:Nat} (h:l≤len):srI sz (.row g sz off len) (some (.int (l:Int))) none none=some (.row g sz (off+l) (len-l)):=by
 have h2:(l:Int)≤len:=by omega
 simp [srI,bnd,h2]
theorem _root_.Go.AM.srI_row_to {sz g off len l:Nat} (h:l≤len):srI sz (.row g sz off len) none (some (.int (l:Int))) none=some (.row g sz off l):=by
 have h2:(l:Int)≤len:=by omega
 simp [srI,bnd,h2]
theorem _root_.Go.AM.clI_row {sz g off len:Nat} {zs:List AV} {es:List (List AV)} {s:St} (hg:s.h g=some (.row sz es .live none)) (h0:0<sz) (hz:aA sz zs=true) (h:off+len≤es.length) :
  clI sz zs (.row g sz off len) s=some { s with h:=upd s.h g (some (.row sz (es.take off++List.replicate len zs++es.drop (off+len)) .live none)) }:=by
 unfold clI
 simp only [hg]
 rw [if_pos ⟨h0,trivial,trivial,hz,h⟩]
theorem tN (around:List ByteArray) (x:ByteArray) (g:Nat) (h:Heap) (c:Nat) (hg:h g=some (.row 1 [[row (am around)]] .live none)) :
  ACalls Pg Fn138.n [.str x,.ptr g 0 0] ⟨h,c⟩ fun av s'=>av=.bool (inL x around)∧s'.h=h:=by
 refine Fn138.calls .frz ?_
 unfold Fn138.ac
 simp [hg]
 refine ACalls.pure (er around x) fun c1 hc1=>?_
 simp
def vo (f:Nat) (a b:List AV) (h:Heap) (g:Nat) (c:Nat) (p:ByteArray→Bool):Prop:=
 ∀ x h' c',(∀ k,k≠g→h' k=h k)→c≤c'→ACalls Pg f (a++.str x::b) ⟨h',c'⟩ fun r s'=>r=.bool (p x)∧s'.h=h'
theorem fK (l:List ByteArray) (f:Nat) (a b:List AV) (p:ByteArray→Bool) (h:Heap) (g c:Nat) (hg:h g=some (.row 1 (am l) .live none)) (hl:l.length≤68719476736) (hp:vo f a b h g c p) :
  ACalls Pg Fn198.n [.row g 1 0 l.length,.fn (.func f) a b] ⟨h,c⟩ fun av s'=>av=.int (aK p l 0)∧s'.h=h:=by
 refine Fn198.calls .frz ?_
 unfold Fn198.ac
 simp
 refine bK 8 Fn198.W0 l (fun i r sl=>aK p l 0=aK p r i) (by rfl) (by rfl) ?_ ?_ ?_
 ·simp
 ·intro v c1 hv hc hI
  simp [hv,hI,aK]
 ·intro i x xs v c1 hi hx hl2 hv hc hI
  have hw:=ah (x:=(i:Int)+1) (by omega) (by omega)
  have hge:(am l)[i]?=some [.str x]:=by simp [am,hi,hx]
  simp [hv,hi,hg,hge]
  refine ACalls.at (hp x h c1 (fun _ _=>rfl) hc) fun c2 hc2=>?_
  by_cases hpx:p x=true
  ·simp [hpx,hI,aK]
  ·simp [hpx,hv,hw,hI,aK]; omega
theorem mt {α:Type} (p:α→Bool):∀ (l:List α) (i:Int),aK p l i = -1∨(i≤aK p l i∧aK p l i<i+l.length)
 | [],i=>.inl rfl
 | x::l,i=>by
  unfold aK
  by_cases h:p x=true
  ·simp [h]; omega
  ·simp [h]
   rcases mt p l (i+1) with e | e
   ·exact .inl e
   ·exact .inr (by omega)
theorem tM (l:List ByteArray) (f:Nat) (a b:List AV) (p:ByteArray→Bool) (h0:Heap) (g c0:Nat) (hg:h0 g=some (.row 1 (am l) .live none)) (hl:l.length≤1000000) (hp:vo f a b h0 g c0 p) :
  ACalls Pg Fn137.n [.row g 1 0 l.length,.fn (.func f) a b] ⟨h0,c0⟩ fun av s'=>∃ l' k,av=.row g 1 0 k∧k≤l'.length∧l'.length=l.length∧s'.h g=some (.row 1 (am l') .live none)∧∀ k,k≠g→s'.h k=h0 k:=by
 refine Fn137.calls .keep ?_
 unfold Fn137.ac
 simp
 refine ACalls.at (fK l f a b p h0 g c0 hg (by omega) hp) fun c1 hc1=>?_
 simp
 rcases mt p l 0 with e | ⟨e1,e2⟩
 ·simp [e]
  exact ⟨l,by omega,rfl,hg⟩
 ·obtain ⟨i,hi⟩:∃ i:Nat,aK p l 0=i:=⟨(aK p l 0).toNat,by omega⟩
  have hi1:¬(i:Int) = -1:=by omega
  have hw:=ah (x:=(i:Int)+1) (by omega) (by omega)
  simp [hi,hi1,hw]
  obtain ⟨Inv,hInv⟩:∃ Inv:Nat→Slots→St→Prop,Inv=fun n sl s'=>∃ (l':List ByteArray) (i j:Nat),i<j∧j+n=l.length∧sl 5=.int i∧sl 6=.int j∧l'.length=l.length∧s'.h g=some (.row 1 (am l') .live none)∧(∀ k,k≠g→s'.h k=h0 k)∧c0≤s'.c:=⟨_,rfl⟩
  refine di Fn137.W0 (by rfl) Inv (l.length-(i+1)) ?_ ?_
  ·rw [hInv]; exact ⟨l,i,i+1,by omega,by omega,by simp,by simp,rfl,hg,fun _ _=>rfl,hc1⟩
  ·intro n v s' hI
   rw [hInv] at hI
   obtain ⟨l',i,j,hij,hj,h5,h6,hl',hg',hfr,hcc⟩:=hI
   obtain ⟨h,c⟩:=s'
   simp at h5 h6
   simp only at hg' hfr hcc
   by_cases hlt:j<l.length
   case neg=>
    have hlt':¬(j:Int)<l.length:=by omega
    have hjl:i≤l.length:=by omega
    have hsl:(am l').length=l.length:=by simp [am,hl']
    have hs1:=srI_row_from (sz:=1) (g:=g) (off:=0) hjl
    have hs2:=srI_row_to (sz:=1) (g:=g) (off:=0) hjl
    have hcl:=clI_row (sz:=1) (zs:=[.str ⟨#[]⟩]) (off:=i) (len:=l.length-i) (s:=⟨h,c⟩) hg' (by decide) (by decide) (by omega)
    simp [h5,h6,hlt,hs1,hs2,hcl]
    have hli:i≤l'.length:=by omega
    refine ⟨l'.take i++List.replicate (l.length-i) ⟨#[]⟩,?_,?_,?_,fun k hk=>by rw [ad hk]; exact hfr k hk⟩
    ·simp; omega
    ·simp; omega
    ·rw [List.drop_of_length_le (by omega)]; simp [am,List.map_take]
   have hlt':(j:Int)<l.length:=by omega
   have hjl':j<l'.length:=by omega
   have hge:(am l')[j]?=some [.str l'[j]]:=by simp [am,hjl']
   simp [h6,hlt,hg',hge]
   refine ACalls.at (hp l'[j] h c hfr hcc) fun c2 hc2=>?_
   have hw1:=ah (x:=(j:Int)+1) (by omega) (by omega)
   have hw2:=ah (x:=(i:Int)+1) (by omega) (by omega)
   by_cases hpx:p l'[j]=true
   ·simp [hpx,h6,hw1,hInv]
    exact ⟨n-1,by omega,l',i,j+1,by omega,by omega,h5,by simp,hl',hg',hfr,by omega⟩
   ·have hil:i<l'.length:=by omega
    have hge2:(am l')[i]?=some [.str l'[i]]:=by simp [am,hil]
    have hil2:i<l.length:=by omega
    simp [hpx,h5,h6,hw1,hw2,hInv,hil2,hg',hge2]
    refine ⟨n-1,by omega,l'.set i l'[j],i+1,j+1,by omega,by omega,by simp,by simp,by simp [hl'],?_,fun k hk=>by rw [ad hk]; exact hfr k hk,by omega⟩
    simp [am]
end Go.Proofs.YtjhogglgkjcacaaGreat
