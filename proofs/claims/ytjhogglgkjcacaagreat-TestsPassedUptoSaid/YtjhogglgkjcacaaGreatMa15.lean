/- Part of the claim: see its last text. -/
import Derived.Test.YtjhogglgkjcacaaGreatMa14
set_option linter.all false
namespace Go.AM
structure PE where
 i:Nat
 anc:List Nat
 re:List Nat
def reads (cs:List AO) (l:List Nat):List (Nat×Option (Nat×Bool)×I):=
 l.filterMap fun j=>(cs[j]?).bind fun c=>c.dst.map fun d=>(d,c.grd,c.i)
def gU (cs:List AO) (i:Nat):AO:=(cs[i]?).getD ⟨none,none,.plain,.mm,[]⟩
def az (cs:List AO) (e:PE):AO:={ gU cs e.i with re:=reads cs e.re }
def dh (ops:Array Oper) (i:Nat):List Nat:=match ops[i]? with
 | some o=>(o.after.toList.filter (Region.binds .any)).map (·.on)
 | none=>[]
def cg (cs:List AO) (e f:PE):Bool:=
 (az cs e).quiet&&jY (az cs e)&&gV (az cs e) (az cs f)&&((az cs f).quiet||cO (az cs e).i||(f.re.contains e.i&&(az cs e).dst.isSome))
def gJ (ops:Array Oper) (cs:List AO) (e f:PE):Bool:=
 e.i != f.i&&!(dh ops e.i).contains f.i&&(f.anc.contains e.i||cg cs e f)&&(!(az cs e).quiet||dj (az cs e) (az cs f))
def ir {α:Type} (r:α→α→Bool):List α→Bool
 | []=>true
 | a::l=>l.all (r a)&&ir r l
theorem jg {α:Type} {r:α→α→Bool}:∀ {l:List α},ir r l=true→l.Pairwise fun x y=>r x y=true
 | [],_=>.nil
 | a::l,h=>by
  simp only [ir,Bool.and_eq_true,List.all_eq_true] at h
  exact .cons h.1 (jg h.2)
def fv (ops:Array Oper) (pl:List PE) (e:PE):Bool:=
 decide (e.i<ops.size)&&!(dh ops e.i).contains e.i&&(dh ops e.i).all (fun j=>decide (j<ops.size))&&e.anc.all fun j=>(dh ops e.i).contains j||pl.any fun f=>(dh ops e.i).contains f.i&&f.anc.contains j
def qD (ops:Array Oper) (cs:List AO) (pl:List PE):Bool:=
 ir (gJ ops cs) pl&&pl.all (fv ops pl)&&decide (pl.length≤ops.size)&&(List.range ops.size).all fun i=>pl.any fun e=>e.i==i
structure DInv (ops:Array Oper) (cs:List AO) (pl L:List PE) (listed:Array Bool):Prop where
 size:listed.size=ops.size
 open_:∀ e∈L,listed.getD e.i true=false
 done:∀ i,i<ops.size→(∀ e∈L,e.i≠i)→listed.getD i false=true
 pair:L.Pairwise fun x y=>gJ ops cs x y=true
 sub:∀ e∈L,e∈pl
 shut:∀ e∈pl,listed.getD e.i false=true→∀ j∈e.anc,listed.getD j false=true
theorem gG {md:Region.Mode} {ops:Array Oper} {listed:Array Bool} {i:Nat}:i∈Region.ready md ops listed↔i<ops.size∧listed.getD i true=false∧((ops[i]?).map (·.after.all fun e=>!Region.binds md e||listed.getD e.on false)).getD false=true:=by
 simp [Region.ready]
theorem gz {ops:Array Oper} {listed:Array Bool} {i:Nat} (h:i<ops.size):((ops[i]?).map (·.after.all fun e=>!Region.binds .any e||listed.getD e.on false)).getD false=true↔∀ j∈dh ops i,listed.getD j false=true:=by
 unfold dh
 rw [Array.getElem?_eq_getElem h]
 simp only [Option.map_some,Option.getD_some,←Array.all_toList,List.all_eq_true,List.mem_map,List.mem_filter]
 constructor
 ·rintro hh j ⟨e,⟨h1,h2⟩,rfl⟩
  have:=hh e h1
  simpa [h2] using this
 ·intro hh e he
  cases hb:Region.binds .any e
  ·simp
  ·simp [hh e.on ⟨e,⟨he,hb⟩,rfl⟩]
theorem jv {listed:Array Bool} {i:Nat} (hi:i<listed.size) (d e:Bool):listed.getD i d=listed.getD i e:=by
 rw [Array.getD_eq_getD_getElem?,Array.getD_eq_getD_getElem?,Array.getElem?_eq_getElem hi]; rfl
theorem fU {listed:Array Bool} {i j:Nat} {d:Bool} (hi:i<listed.size):(listed.setIfInBounds i true).getD j d=if j=i then true else listed.getD j d:=by
 rw [Array.getD_eq_getD_getElem?,Array.getD_eq_getD_getElem?,Array.getElem?_setIfInBounds]
 by_cases h:j=i
 ·subst h; simp [hi]
 ·simp [h,Ne.symm h]
theorem kR {cs:List AO} {l:List Nat} {j d:Nat} (h1:j∈l) (h2:(gU cs j).dst=some d):(d,(gU cs j).grd,(gU cs j).i)∈reads cs l:=by
 unfold reads gU at *
 rw [List.mem_filterMap]
 refine ⟨j,h1,?_⟩
 cases hc:cs[j]? with
 | none=>simp [hc] at h2
 | some c=>simp [hc] at h2 ⊢; exact h2
theorem qW {P:Program} {n:Nat} {md:Tmp→Md} {ops:Array Oper} {Q:Exit→Act→World→Prop} (hops:∀ (j:Nat) o t,ops[j]?=some o→o.dst=some t→t<n) {cs:List AO} (hcs:ops.toList.mapM (eV P n md ops)=some cs)
  {pl:List PE} (hpl:pl.all (fv ops pl)=true) {K:Slots→St→Prop} :
  ∀ (fuel:Nat) (L:List PE) (listed:Array Bool),DInv ops cs pl L listed→L.length≤fuel→∀ {sl:Slots} {s:St} {G:Gh} {w:World} {a:Act},aM P (L.map (az cs)) K sl s→Sim G s w→RepSl G sl a→n≤a.tmps.size →
   (∀ sl' s' G' a' w',K sl' s'→Stp G s w G' s' w'→Sim G' s' w'→RepSl G' sl' a'→a'.tmps.size=a.tmps.size→a'.defers=a.defers→Q .normal a' w')→wpAny P .any ops Q fuel listed a w:=by
 have hplace:∀ e∈pl,e.i<ops.size∧e.i∉dh ops e.i∧(∀ j∈dh ops e.i,j<ops.size)∧∀ j∈e.anc,j∈dh ops e.i∨∃ f∈pl,f.i∈dh ops e.i∧j∈f.anc:=by
  intro e he
  have:=List.all_eq_true.1 hpl e he
  simpa [fv,and_assoc] using this
 have nil:∀ {L listed},DInv ops cs pl L listed→∀ {sl:Slots} {s:St},aM P (L.map (az cs)) K sl s→Region.ready .any ops listed=[]→K sl s:=by
  intro L listed hI sl s hW hr
  cases L with
  | nil=>exact hW
  | cons e L=>
   exfalso
   obtain ⟨h1,h2,h3,h4⟩:=hplace e (hI.sub e (by simp))
   have:e.i∈Region.ready .any ops listed:=by
    rw [gG,gz h1]
    refine ⟨h1,hI.open_ e (by simp),fun j hj=>?_⟩
    refine hI.done j (h3 j hj) ?_
    intro f hf hfj
    rcases List.mem_cons.1 hf with rfl | hf
    ·exact h2 (hfj▸hj)
    ·have:=(List.pairwise_cons.1 hI.pair).1 f hf
     simp [gJ] at this
     exact this.1.1.2 (hfj▸hj)
   rw [hr] at this; cases this
 intro fuel
 induction fuel with
 | zero=>
  intro L listed hI hL sl s G w a hW hS hsl hn hQ
  have hL0:L=[]:=by cases L with | nil=>rfl | cons _ _=>simp at hL
  subst hL0
  refine ⟨?_,hQ sl s G a w hW (Stp.refl G s w) hS hsl rfl rfl⟩
  rw [List.eq_nil_iff_forall_not_mem]
  intro i hi
  rw [gG] at hi
  have:=hI.done i hi.1 (by simp)
  rw [jv (by rw [hI.size]; exact hi.1) false true] at this
  rw [this] at hi; cases hi.2.1
 | succ fuel ih=>
  intro L listed hI hL sl s G w a hW hS hsl hn hQ
  refine ⟨fun hr=>hQ sl s G a w (nil hI hW hr) (Stp.refl G s w) hS hsl rfl rfl,?_⟩
  intro i hi
  obtain ⟨hlt,hop,hpr⟩:=gG.1 hi
  rw [gz hlt] at hpr
  have hiL:∃ e∈L,e.i=i:=by
   refine Classical.byContradiction fun hno=>?_
   have:=hI.done i hlt fun e he heq=>hno ⟨e,he,heq⟩
   rw [jv (by rw [hI.size]; exact hlt) false true,hop] at this; cases this
  obtain ⟨x,hx,rfl⟩:=hiL
  obtain ⟨A,B,rfl⟩:=List.append_of_mem hx
  obtain ⟨p1,p2,p3,p4⟩:=hplace x (hI.sub x hx)
  have hpair:=hI.pair
  rw [List.pairwise_append] at hpair
  obtain ⟨hpA,hpB,hAB⟩:=hpair
  have hanc:∀ q∈A,x.anc.contains q.i=false:=by
   intro q hq
   cases hc:x.anc.contains q.i with
   | false=>rfl
   | true=>
    exfalso
    have hqi:q.i∈x.anc:=by simpa using hc
    have:listed.getD q.i false=true:=by
     rcases p4 q.i hqi with h | ⟨f,hf,h1,h2⟩
     ·exact hpr _ h
     ·exact hI.shut f hf (hpr _ h1) _ h2
    have hqs:=(hplace q (hI.sub q (by simp [hq]))).1
    rw [jv (by rw [hI.size]; exact hqs) false true,hI.open_ q (by simp [hq])] at this
    cases this
  have hpass:∀ q∈A,cg cs q x=true:=by
   intro q hq
   have:=hAB q hq x (by simp)
   simp only [gJ,Bool.and_eq_true,hanc q hq,Bool.false_or] at this
   exact this.1.2
  have hne:∀ e∈A++B,e.i≠x.i:=by
   intro e he
   rcases List.mem_append.1 he with h | h
   ·have:=hAB e h x (by simp)
    simp only [gJ,Bool.and_eq_true] at this
    simpa using this.1.1.1
   ·have:=(List.pairwise_cons.1 hpB).1 e h
    simp only [gJ,Bool.and_eq_true] at this
    have:=this.1.1.1
    simp at this
    exact Ne.symm this
  have hI':DInv ops cs pl (A++B) (listed.setIfInBounds x.i true):=by
   have hsz:x.i<listed.size:=by rw [hI.size]; exact hlt
   refine ⟨by simp [hI.size],?_,?_,?_,fun e he=>hI.sub e ?_,?_⟩
   ·intro e he
    rw [fU hsz,if_neg (hne e he)]
    exact hI.open_ e (by rcases List.mem_append.1 he with h | h <;> simp [h])
   ·intro j hj hno
    rw [fU hsz]
    split
    ·rfl
    ·rename_i hjx
     refine hI.done j hj ?_
     intro e he hej
     rcases List.mem_append.1 he with h | h
     ·exact hno e (by simp [h]) hej
     ·rcases List.mem_cons.1 h with rfl | h
      ·exact hjx hej.symm
      ·exact hno e (by simp [h]) hej
   ·rw [List.pairwise_append]
    exact ⟨hpA,(List.pairwise_cons.1 hpB).2,fun q hq y hy=>hAB q hq y (by simp [hy])⟩
   ·rcases List.mem_append.1 he with h | h <;> simp [h]
   ·intro e he hl j hj
    rw [fU hsz] at hl ⊢
    split
    ·rfl
    ·split at hl
     ·rename_i hex
      have hsame:=hplace e he
      rcases hsame.2.2.2 j hj with h | ⟨f,hf,h1,h2⟩
      ·exact hpr j (by rw [←hex]; exact h)
      ·exact hI.shut f hf (hpr _ (by rw [←hex]; exact h1)) _ h2
     ·exact hI.shut e he hl j hj
  rw [List.map_append,List.map_cons] at hW
  have hW':=jV (A:=A.map (az cs)) (B:=B.map (az cs)) (x:=az cs x) (by
    intro q' hq'
    obtain ⟨q,hq,rfl⟩:=List.mem_map.1 hq'
    have:=hpass q hq
    simp only [cg,Bool.and_eq_true] at this
    exact ⟨this.1.1.1,this.1.1.2,this.1.2⟩) (by
    rw [List.pairwise_map]
    refine hpA.imp_of_mem ?_
    intro y z hy hz hyz
    have hq:=hpass y hy
    simp only [cg,Bool.and_eq_true] at hq
    simp only [gJ,Bool.and_eq_true,hq.1.1.1,Bool.not_true,Bool.false_or] at hyz
    exact hyz.2) (by
    by_cases hxq:(az cs x).quiet=true
    ·exact .inl hxq
    ·refine .inr fun q' hq'=>?_
     obtain ⟨q,hq,rfl⟩:=List.mem_map.1 hq'
     have:=hpass q hq
     simp only [cg,Bool.and_eq_true,Bool.or_eq_true] at this
     rcases this.2 with (h | h) | h
     ·exact absurd h hxq
     ·exact .inl h
     ·right
      obtain ⟨h1,h2⟩:=h
      obtain ⟨d,hd⟩:=Option.isSome_iff_exists.1 h2
      exact ⟨d,hd,kR (by simpa using h1) hd⟩) hW
  rw [←List.map_append] at hW'
  obtain ⟨hl1,hl2⟩:=eF hcs
  have hxl:x.i<cs.length:=by rw [←hl1]; simpa using hlt
  have hget:gU cs x.i=cs[x.i]:=by simp [gU,List.getElem?_eq_getElem hxl]
  have hcx:=hl2 x.i ops[x.i] cs[x.i] (by rw [Array.getElem?_toList,Array.getElem?_eq_getElem hlt]) (List.getElem?_eq_getElem hxl)
  obtain ⟨c1,c2,c3,c4,c5,c6,c7⟩:=jM hcx
  unfold wpOp
  rw [Array.getElem?_eq_getElem hlt]
  simp only
  have hdst:(az cs x).dst=ops[x.i].dst:=by simp only [az,hget]; exact c2
  have hgrd:(az cs x).grd=cs[x.i].grd:=by simp only [az,hget]
  have hmdx:(az cs x).md=cs[x.i].md:=by simp only [az,hget]
  have hix:(az cs x).i=cs[x.i].i:=by simp only [az,hget]
  have hgt:∀ j u t,ops[x.i].guard=some (j,u)→(ops[j]?).bind (·.dst)=some t→t<a.tmps.size:=by
   intro j u t _ ht
   cases hj:ops[j]? with
   | none=>simp [hj] at ht
   | some o'=>simp [hj] at ht; exact Nat.lt_of_lt_of_le (hops j o' t hj ht) hn
  have hlen:(A++B).length≤fuel:=by simp at hL ⊢; omega
  rw [hgrd] at hW'
  cases hg:gdI cs[x.i].grd sl with
  | none=>rw [hg] at hW'; exact hW'.elim
  | some b=>
   rw [hg] at hW'
   rw [pD hsl hgt c5 hg]
   cases b with
   | false=>
    simp only at hW'
    rw [if_neg (by simp)]
    refine ih (A++B) _ hI' hlen hW' hS ?_ (by rw [dE]; exact hn) ?_
    ·rw [hdst]
     exact fw hsl (fun t ht=>Nat.lt_of_lt_of_le (c3 t ht) hn) (mG _)
    ·intro sl' s' G' a' w' k1 k2 k3 k4 k5 k6
     exact hQ sl' s' G' a' w' k1 k2 k3 k4 (by rw [k5,dE]) (by rw [k6,eH])
   | true=>
    simp only at hW'
    rw [if_pos rfl]
    refine .inl (qA (by rw [hix]; exact c1) hW' hS hsl ?_)
    intro v av G1 s1 w1 t1 t2 t3 t4
    split at t4
    ·rename_i v' s2 hf
     obtain ⟨G2,u1,u2,u3⟩:=oj hf t3 t2
     have hT:=t1.trans u1
     refine ih (A++B) _ hI' hlen t4 u2 ?_ (by rw [dE]; exact hn) ?_
     ·rw [hdst]
      exact fw (hsl.mono hT.le) (fun t ht=>Nat.lt_of_lt_of_le (c3 t ht) hn) u3
     ·intro sl' s' G' a' w' k1 k2 k3 k4 k5 k6
      exact hQ sl' s' G' a' w' k1 (hT.trans k2) k3 k4 (by rw [k5,dE]) (by rw [k6,eH])
    ·exact t4.elim
theorem v8 {P:Program} {n:Nat} {md:Tmp→Md} {ops:Array Oper} {Q:Exit→Act→World→Prop} (hm:P.follows .mixedOrders=true) (hops:∀ (j:Nat) o t,ops[j]?=some o→o.dst=some t→t<n) {cs:List AO} (hcs:ops.toList.mapM (eV P n md ops)=some cs)
  {pl:List PE} (hpl:qD ops cs pl=true) {K:Slots→St→Prop} {id:Nat} {sl:Slots} {s:St} {G:Gh} {w:World} {a:Act} (hW:aM P (pl.map (az cs)) K sl s) (hS:Sim G s w) (hsl:RepSl G sl a) (hn:n≤a.tmps.size)
  (hQ:∀ sl' s' G' a' w',K sl' s'→Stp G s w G' s' w'→Sim G' s' w'→RepSl G' sl' a'→a'.tmps.size=a.tmps.size→a'.defers=a.defers→Q .normal a' w'):(Code.region id ops true).wp P Q a w:=by
 simp only [qD,Bool.and_eq_true] at hpl
 obtain ⟨⟨⟨h1,h2⟩,h3⟩,h4⟩:=hpl
 refine wp_region_any hm ?_
 refine qW hops hcs h2 ops.size pl _ ?_ (by simpa using h3) hW ⟨hS.mem,hS.dom,hS.blk,hS.ov⟩ hsl hn ?_
 ·refine ⟨by simp,?_,?_,jg h1,fun e he=>he,?_⟩
  ·intro e he
   have:=List.all_eq_true.1 h2 e he
   simp [fv] at this
   rw [Array.getD_eq_getD_getElem?,Array.getElem?_replicate]
   simp [this.1.1.1]
  ·intro i hi hno
   have:=List.all_eq_true.1 h4 i (by simpa using hi)
   simp at this
   obtain ⟨e,he,hei⟩:=this
   exact absurd hei (hno e he)
  ·intro e he hl
   rw [Array.getD_eq_getD_getElem?,Array.getElem?_replicate] at hl
   split at hl <;> simp at hl
 ·intro sl' s' G' a' w' k1 k2 k3 k4 k5 k6
  exact hQ sl' s' G' a' w' k1 ⟨k2.le,k2.c,k2.os,k2.tape,k2.output,k2.size,k2.keep,k2.own⟩ k3 k4 k5 k6
end Go.AM
namespace Go.AM
theorem dD {P:Program}:∀ (A B:List AO) {K:Slots→St→Prop} {sl:Slots} {s:St},aM P (A++B) K sl s=aM P A (aM P B K) sl s
 | [],B,K,sl,s=>rfl
 | o::A,B,K,sl,s=>by
  simp only [List.cons_append,aM]
  cases gdI o.grd sl with
  | none=>rfl
  | some b=>
   cases b with
   | false=>exact dD A B
   | true=>
    simp only
    congr 1
    funext v s'
    cases cF o.md v s' with
    | none=>rfl
    | some p=>simp only [dD A B]
theorem pj {P:Program} {a:AO} {post:List AO} {K:Slots→St→Prop}:∀ (A:List (Bool×AO)) (r:List (Bool×AO)) {sl:Slots} {s:St},ce P a post K (A++r) sl s→aM P (A.map (·.2)) (ce P a post K r) sl s
 | [],r,sl,s,h=>h
 | (b,e)::A,r,sl,s,h=>by
  simp only [List.cons_append,ce] at h
  have h2:=h.2
  show aM P ([e]++A.map (·.2)) _ sl s
  rw [dD]
  exact opsW_mono1 h2 fun sl' s' h'=>pj A r h'
where
 opsW_mono1 {P:Program} {e:AO} {K K':Slots→St→Prop} {sl:Slots} {s:St} (h:aM P [e] K sl s) (hk:∀ sl s,K sl s→K' sl s):aM P [e] K' sl s:=by
  simp only [aM] at h ⊢
  split at h
  ·exact hk _ _ h
  ·refine fX h fun v s' hv=>?_
   split at hv
   ·exact ⟨hv.1,hk _ _ hv.2⟩
   ·exact hv
  ·exact h
theorem lf {P:Program} {n:Nat} {md:Tmp→Md} {ops:Array Oper} {Q:Exit→Act→World→Prop} (hops:∀ (j:Nat) o t,ops[j]?=some o→o.dst=some t→t<n) {cs:List AO} (hcs:ops.toList.mapM (eV P n md ops)=some cs)
  {x:PE} (hlt:x.i<ops.size) {C:Slots→St→Prop} {sl:Slots} {s:St} {G:Gh} {w:World} {a:Act} (hS:Sim G s w) (hsl:RepSl G sl a) (hn:n≤a.tmps.size)
  (hW':match gdI (az cs x).grd sl with
   | some false=>C (put sl (az cs x).dst (.tup [])) s
   | some true=>opW P (az cs x) sl s fun v s'=>match cF (az cs x).md v s' with
    | some (v',s'')=>C (put sl (az cs x).dst v') s''
    | none=>False
   | none=>False) {next:Act→World→Prop}
  (hnx:∀ sl' s' G' a' w',C sl' s'→Stp G s w G' s' w'→Sim G' s' w'→RepSl G' sl' a'→a'.tmps.size=a.tmps.size→a'.defers=a.defers→next a' w'):wpOp P ops Q x.i next a w:=by
 obtain ⟨hl1,hl2⟩:=eF hcs
 have hxl:x.i<cs.length:=by rw [←hl1]; simpa using hlt
 have hget:gU cs x.i=cs[x.i]:=by simp [gU,List.getElem?_eq_getElem hxl]
 have hcx:=hl2 x.i ops[x.i] cs[x.i] (by rw [Array.getElem?_toList,Array.getElem?_eq_getElem hlt]) (List.getElem?_eq_getElem hxl)
 obtain ⟨c1,c2,c3,c4,c5,c6,c7⟩:=jM hcx
 unfold wpOp
 rw [Array.getElem?_eq_getElem hlt]
 simp only
 have hdst:(az cs x).dst=ops[x.i].dst:=by simp only [az,hget]; exact c2
 have hgrd:(az cs x).grd=cs[x.i].grd:=by simp only [az,hget]
 have hix:(az cs x).i=cs[x.i].i:=by simp only [az,hget]
 have hgt:∀ j u t,ops[x.i].guard=some (j,u)→(ops[j]?).bind (·.dst)=some t→t<a.tmps.size:=by
  intro j u t _ ht
  cases hj:ops[j]? with
  | none=>simp [hj] at ht
  | some o'=>simp [hj] at ht; exact Nat.lt_of_lt_of_le (hops j o' t hj ht) hn
 rw [hgrd] at hW'
 cases hg:gdI cs[x.i].grd sl with
 | none=>rw [hg] at hW'; exact hW'.elim
 | some b=>
  rw [hg] at hW'
  rw [pD hsl hgt c5 hg]
  cases b with
  | false=>
   simp only at hW'
   rw [if_neg (by simp)]
   refine hnx _ s G _ w hW' (Stp.refl G s w) hS ?_ (by rw [dE]) (by rw [eH])
   rw [hdst]
   exact fw hsl (fun t ht=>Nat.lt_of_lt_of_le (c3 t ht) hn) (mG _)
  | true=>
   simp only at hW'
   rw [if_pos rfl]
   refine .inl (qA (by rw [hix]; exact c1) hW' hS hsl ?_)
   intro v av G1 s1 w1 t1 t2 t3 t4
   split at t4
   ·rename_i v' s2 hf
    obtain ⟨G2,u1,u2,u3⟩:=oj hf t3 t2
    have hT:=t1.trans u1
    refine hnx _ s2 G2 _ w1 t4 hT u2 ?_ (by rw [dE]) (by rw [eH])
    rw [hdst]
    exact fw (hsl.mono hT.le) (fun t ht=>Nat.lt_of_lt_of_le (c3 t ht) hn) u3
   ·exact t4.elim
def cI (ops:Array Oper) (cs:List AO) (ea:PE) (e f:PE):Bool:=
 e.i != f.i&&!(dh ops e.i).contains f.i&&(f.anc.contains e.i||cg cs e f||(f.i==ea.i&&!(az cs e).quiet))&&(!(az cs e).quiet||dj (az cs e) (az cs f))
def qG (ops:Array Oper) (cs:List AO) (pre:List PE) (ea:PE) (post:List PE):Bool:=
 ir (cI ops cs ea) (pre++ea::post)&&(pre++ea::post).all (fv ops (pre++ea::post))&&decide ((pre++ea::post).length≤ops.size)&&((List.range ops.size).all fun i=>(pre++ea::post).any fun e=>e.i==i) &&
  post.all fun e=>e.anc.contains ea.i
structure LInv (ops:Array Oper) (pl L:List PE) (listed:Array Bool):Prop where
 size:listed.size=ops.size
 open_:∀ e∈L,listed.getD e.i true=false
 done:∀ i,i<ops.size→(∀ e∈L,e.i≠i)→listed.getD i false=true
 sub:∀ e∈L,e∈pl
 shut:∀ e∈pl,listed.getD e.i false=true→∀ j∈e.anc,listed.getD j false=true
theorem LInv.take {ops:Array Oper} {pl A B:List PE} {x:PE} {listed:Array Bool} (hI:LInv ops pl (A++x::B) listed) (hlt:x.i<ops.size) (hne:∀ e∈A++B,e.i≠x.i)
  (hpr:∀ j∈dh ops x.i,listed.getD j false=true) (hplace:∀ e∈pl,∀ j∈e.anc,j∈dh ops e.i∨∃ f∈pl,f.i∈dh ops e.i∧j∈f.anc):LInv ops pl (A++B) (listed.setIfInBounds x.i true):=by
 have hsz:x.i<listed.size:=by rw [hI.size]; exact hlt
 refine ⟨by simp [hI.size],?_,?_,fun e he=>hI.sub e ?_,?_⟩
 ·intro e he
  rw [fU hsz,if_neg (hne e he)]
  exact hI.open_ e (by rcases List.mem_append.1 he with h | h <;> simp [h])
 ·intro j hj hno
  rw [fU hsz]
  split
  ·rfl
  ·rename_i hjx
   refine hI.done j hj ?_
   intro e he hej
   rcases List.mem_append.1 he with h | h
   ·exact hno e (by simp [h]) hej
   ·rcases List.mem_cons.1 h with rfl | h
    ·exact hjx hej.symm
    ·exact hno e (by simp [h]) hej
 ·rcases List.mem_append.1 he with h | h <;> simp [h]
 ·intro e he hl j hj
  rw [fU hsz] at hl ⊢
  split
  ·rfl
  ·split at hl
   ·rename_i hex
    rcases hplace e he j hj with h | ⟨f,hf,h1,h2⟩
    ·exact hpr j (by rw [←hex]; exact h)
    ·exact hI.shut f hf (hpr _ (by rw [←hex]; exact h1)) _ h2
   ·exact hI.shut e he hl j hj
end Go.AM
