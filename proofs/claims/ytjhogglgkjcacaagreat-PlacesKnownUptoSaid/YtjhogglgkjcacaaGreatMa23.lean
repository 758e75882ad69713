/- Part of the claim: see its last text. -/
import Derived.Test.YtjhogglgkjcacaaGreatMa22
set_option linter.all false
namespace Go.AM
structure PE where
 i:Nat
 anc:List Nat
 re:List Nat
def reads (cs:List AO) (l:List Nat):List (Nat×Option (Nat×Bool)×I):=
 l.filterMap fun j=>(cs[j]?).bind fun c=>c.dst.map fun d=>(d,c.grd,c.i)
def hH (cs:List AO) (i:Nat):AO:=(cs[i]?).getD ⟨none,none,.plain,.mm,[]⟩
def aD (cs:List AO) (e:PE):AO:={ hH cs e.i with re:=reads cs e.re }
def du (ops:Array Oper) (i:Nat):List Nat:=match ops[i]? with
 | some o=>(o.after.toList.filter (Region.binds .any)).map (·.on)
 | none=>[]
def ck (cs:List AO) (e f:PE):Bool:=
 (aD cs e).quiet&&kb (aD cs e)&&apart (aD cs e) (aD cs f)&&((aD cs f).quiet||cS (aD cs e).i||(f.re.contains e.i&&(aD cs e).dst.isSome))
def gP (ops:Array Oper) (cs:List AO) (e f:PE):Bool:=
 e.i != f.i&&!(du ops e.i).contains f.i&&(f.anc.contains e.i||ck cs e f)&&(!(aD cs e).quiet||dx (aD cs e) (aD cs f))
def iC {α:Type} (r:α→α→Bool):List α→Bool
 | []=>true
 | a::l=>l.all (r a)&&iC r l
theorem iZ {α:Type} {r:α→α→Bool}:∀ {l:List α},iC r l=true→l.Pairwise fun x y=>r x y=true
 | [],_=>.nil
 | a::l,h=>by
  simp only [iC,Bool.and_eq_true,List.all_eq_true] at h
  exact .cons h.1 (iZ h.2)
def fI (ops:Array Oper) (pl:List PE) (e:PE):Bool:=
 decide (e.i<ops.size)&&!(du ops e.i).contains e.i&&(du ops e.i).all (fun j=>decide (j<ops.size))&&e.anc.all fun j=>(du ops e.i).contains j||pl.any fun f=>(du ops e.i).contains f.i&&f.anc.contains j
def ql (ops:Array Oper) (cs:List AO) (pl:List PE):Bool:=
 iC (gP ops cs) pl&&pl.all (fI ops pl)&&decide (pl.length≤ops.size)&&(List.range ops.size).all fun i=>pl.any fun e=>e.i==i
structure DInv (ops:Array Oper) (cs:List AO) (pl L:List PE) (listed:Array Bool):Prop where
 size:listed.size=ops.size
 open_:∀ e∈L,listed.getD e.i true=false
 done:∀ i,i<ops.size→(∀ e∈L,e.i≠i)→listed.getD i false=true
 pair:L.Pairwise fun x y=>gP ops cs x y=true
 sub:∀ e∈L,e∈pl
 shut:∀ e∈pl,listed.getD e.i false=true→∀ j∈e.anc,listed.getD j false=true
theorem gL {md:Region.Mode} {ops:Array Oper} {listed:Array Bool} {i:Nat}:i∈Region.ready md ops listed↔i<ops.size∧listed.getD i true=false∧((ops[i]?).map (·.after.all fun e=>!Region.binds md e||listed.getD e.on false)).getD false=true:=by
 simp [Region.ready]
theorem gG {ops:Array Oper} {listed:Array Bool} {i:Nat} (h:i<ops.size):((ops[i]?).map (·.after.all fun e=>!Region.binds .any e||listed.getD e.on false)).getD false=true↔∀ j∈du ops i,listed.getD j false=true:=by
 unfold du
 rw [Array.getElem?_eq_getElem h]
 simp only [Option.map_some,Option.getD_some,←Array.all_toList,List.all_eq_true,List.mem_map,List.mem_filter]
 constructor
 ·rintro hh j ⟨e,⟨h1,h2⟩,rfl⟩
  have:=hh e h1
  simpa [h2] using this
 ·intro hh e he
  cases hb:Region.binds .any e
  ·simp
  ·simp [hh e.on ⟨e,⟨he,hb⟩,rfl⟩]
theorem js {listed:Array Bool} {i:Nat} (hi:i<listed.size) (d e:Bool):listed.getD i d=listed.getD i e:=by
 rw [Array.getD_eq_getD_getElem?,Array.getD_eq_getD_getElem?,Array.getElem?_eq_getElem hi]; rfl
theorem gq {listed:Array Bool} {i j:Nat} {d:Bool} (hi:i<listed.size):(listed.setIfInBounds i true).getD j d=if j=i then true else listed.getD j d:=by
 rw [Array.getD_eq_getD_getElem?,Array.getD_eq_getD_getElem?,Array.getElem?_setIfInBounds]
 by_cases h:j=i
 ·subst h; simp [hi]
 ·simp [h,Ne.symm h]
theorem kY {cs:List AO} {l:List Nat} {j d:Nat} (h1:j∈l) (h2:(hH cs j).dst=some d):(d,(hH cs j).grd,(hH cs j).i)∈reads cs l:=by
 unfold reads hH at *
 rw [List.mem_filterMap]
 refine ⟨j,h1,?_⟩
 cases hc:cs[j]? with
 | none=>simp [hc] at h2
 | some c=>simp [hc] at h2 ⊢; exact h2
theorem qF {P:Program} {n:Nat} {md:Tmp→Md} {ops:Array Oper} {Q:Exit→Act→World→Prop} (hops:∀ (j:Nat) o t,ops[j]?=some o→o.dst=some t→t<n) {cs:List AO} (hcs:ops.toList.mapM (fj P n md ops)=some cs)
  {pl:List PE} (hpl:pl.all (fI ops pl)=true) {K:Slots→St→Prop} :
  ∀ (fuel:Nat) (L:List PE) (listed:Array Bool),DInv ops cs pl L listed→L.length≤fuel→∀ {sl:Slots} {s:St} {G:Gh} {w:World} {a:Act},aN P (L.map (aD cs)) K sl s→Sim G s w→RepSl G sl a→n≤a.tmps.size →
   (∀ sl' s' G' a' w',K sl' s'→Stp G s w G' s' w'→Sim G' s' w'→RepSl G' sl' a'→a'.tmps.size=a.tmps.size→a'.defers=a.defers→Q .normal a' w')→wpAny P .any ops Q fuel listed a w:=by
 have hplace:∀ e∈pl,e.i<ops.size∧e.i∉du ops e.i∧(∀ j∈du ops e.i,j<ops.size)∧∀ j∈e.anc,j∈du ops e.i∨∃ f∈pl,f.i∈du ops e.i∧j∈f.anc:=by
  intro e he
  have:=List.all_eq_true.1 hpl e he
  simpa [fI,and_assoc] using this
 have nil:∀ {L listed},DInv ops cs pl L listed→∀ {sl:Slots} {s:St},aN P (L.map (aD cs)) K sl s→Region.ready .any ops listed=[]→K sl s:=by
  intro L listed hI sl s hW hr
  cases L with
  | nil=>exact hW
  | cons e L=>
   exfalso
   obtain ⟨h1,h2,h3,h4⟩:=hplace e (hI.sub e (by simp))
   have:e.i∈Region.ready .any ops listed:=by
    rw [gL,gG h1]
    refine ⟨h1,hI.open_ e (by simp),fun j hj=>?_⟩
    refine hI.done j (h3 j hj) ?_
    intro f hf hfj
    rcases List.mem_cons.1 hf with rfl | hf
    ·exact h2 (hfj▸hj)
    ·have:=(List.pairwise_cons.1 hI.pair).1 f hf
     simp [gP] at this
     exact this.1.1.2 (hfj▸hj)
   rw [hr] at this; cases this
 intro fuel
 induction fuel with
 | zero=>
  intro L listed hI hL sl s G w a hW hS hsl hn hQ
  have hL0:L=[]:=by cases L with | nil=>rfl | cons _ _=>simp at hL
  subst hL0
  refine ⟨?_,hQ sl s G a w hW (Stp.refl G s w) hS hsl rfl rfl⟩
  rw [List.eq_nil_iff_forall_not_mem]
  intro i hi
  rw [gL] at hi
  have:=hI.done i hi.1 (by simp)
  rw [js (by rw [hI.size]; exact hi.1) false true] at this
  rw [this] at hi; cases hi.2.1
 | succ fuel ih=>
  intro L listed hI hL sl s G w a hW hS hsl hn hQ
  refine ⟨fun hr=>hQ sl s G a w (nil hI hW hr) (Stp.refl G s w) hS hsl rfl rfl,?_⟩
  intro i hi
  obtain ⟨hlt,hop,hpr⟩:=gL.1 hi
  rw [gG hlt] at hpr
  have hiL:∃ e∈L,e.i=i:=by
   refine Classical.byContradiction fun hno=>?_
   have:=hI.done i hlt fun e he heq=>hno ⟨e,he,heq⟩
   rw [js (by rw [hI.size]; exact hlt) false true,hop] at this; cases this
  obtain ⟨x,hx,rfl⟩:=hiL
  obtain ⟨A,B,rfl⟩:=List.append_of_mem hx
  obtain ⟨p1,p2,p3,p4⟩:=hplace x (hI.sub x hx)
  have hpair:=hI.pair
  rw [List.pairwise_append] at hpair
  obtain ⟨hpA,hpB,hAB⟩:=hpair
  have hanc:∀ q∈A,x.anc.contains q.i=false:=by
   intro q hq
   cases hc:x.anc.contains q.i with
   | false=>rfl
   | true=>
    exfalso
    have hqi:q.i∈x.anc:=by simpa using hc
    have:listed.getD q.i false=true:=by
     rcases p4 q.i hqi with h | ⟨f,hf,h1,h2⟩
     ·exact hpr _ h
     ·exact hI.shut f hf (hpr _ h1) _ h2
    have hqs:=(hplace q (hI.sub q (by simp [hq]))).1
    rw [js (by rw [hI.size]; exact hqs) false true,hI.open_ q (by simp [hq])] at this
    cases this
  have hpass:∀ q∈A,ck cs q x=true:=by
   intro q hq
   have:=hAB q hq x (by simp)
   simp only [gP,Bool.and_eq_true,hanc q hq,Bool.false_or] at this
   exact this.1.2
  have hne:∀ e∈A++B,e.i≠x.i:=by
   intro e he
   rcases List.mem_append.1 he with h | h
   ·have:=hAB e h x (by simp)
    simp only [gP,Bool.and_eq_true] at this
    simpa using this.1.1.1
   ·have:=(List.pairwise_cons.1 hpB).1 e h
    simp only [gP,Bool.and_eq_true] at this
    have:=this.1.1.1
    simp at this
    exact Ne.symm this
  have hI':DInv ops cs pl (A++B) (listed.setIfInBounds x.i true):=by
   have hsz:x.i<listed.size:=by rw [hI.size]; exact hlt
   refine ⟨by simp [hI.size],?_,?_,?_,fun e he=>hI.sub e ?_,?_⟩
   ·intro e he
    rw [gq hsz,if_neg (hne e he)]
    exact hI.open_ e (by rcases List.mem_append.1 he with h | h <;> simp [h])
   ·intro j hj hno
    rw [gq hsz]
    split
    ·rfl
    ·rename_i hjx
     refine hI.done j hj ?_
     intro e he hej
     rcases List.mem_append.1 he with h | h
     ·exact hno e (by simp [h]) hej
     ·rcases List.mem_cons.1 h with rfl | h
      ·exact hjx hej.symm
      ·exact hno e (by simp [h]) hej
   ·rw [List.pairwise_append]
    exact ⟨hpA,(List.pairwise_cons.1 hpB).2,fun q hq y hy=>hAB q hq y (by simp [hy])⟩
   ·rcases List.mem_append.1 he with h | h <;> simp [h]
   ·intro e he hl j hj
    rw [gq hsz] at hl ⊢
    split
    ·rfl
    ·split at hl
     ·rename_i hex
      have hsame:=hplace e he
      rcases hsame.2.2.2 j hj with h | ⟨f,hf,h1,h2⟩
      ·exact hpr j (by rw [←hex]; exact h)
      ·exact hI.shut f hf (hpr _ (by rw [←hex]; exact h1)) _ h2
     ·exact hI.shut e he hl j hj
  rw [List.map_append,List.map_cons] at hW
  have hW':=jW (A:=A.map (aD cs)) (B:=B.map (aD cs)) (x:=aD cs x) (by
    intro q' hq'
    obtain ⟨q,hq,rfl⟩:=List.mem_map.1 hq'
    have:=hpass q hq
    simp only [ck,Bool.and_eq_true] at this
    exact ⟨this.1.1.1,this.1.1.2,this.1.2⟩) (by
    rw [List.pairwise_map]
    refine hpA.imp_of_mem ?_
    intro y z hy hz hyz
    have hq:=hpass y hy
    simp only [ck,Bool.and_eq_true] at hq
    simp only [gP,Bool.and_eq_true,hq.1.1.1,Bool.not_true,Bool.false_or] at hyz
    exact hyz.2) (by
    by_cases hxq:(aD cs x).quiet=true
    ·exact .inl hxq
    ·refine .inr fun q' hq'=>?_
     obtain ⟨q,hq,rfl⟩:=List.mem_map.1 hq'
     have:=hpass q hq
     simp only [ck,Bool.and_eq_true,Bool.or_eq_true] at this
     rcases this.2 with (h | h) | h
     ·exact absurd h hxq
     ·exact .inl h
     ·right
      obtain ⟨h1,h2⟩:=h
      obtain ⟨d,hd⟩:=Option.isSome_iff_exists.1 h2
      exact ⟨d,hd,kY (by simpa using h1) hd⟩) hW
  rw [←List.map_append] at hW'
  obtain ⟨hl1,hl2⟩:=eO hcs
  have hxl:x.i<cs.length:=by rw [←hl1]; simpa using hlt
  have hget:hH cs x.i=cs[x.i]:=by simp [hH,List.getElem?_eq_getElem hxl]
  have hcx:=hl2 x.i ops[x.i] cs[x.i] (by rw [Array.getElem?_toList,Array.getElem?_eq_getElem hlt]) (List.getElem?_eq_getElem hxl)
  obtain ⟨c1,c2,c3,c4,c5,c6,c7⟩:=jO hcx
  unfold wpOp
  rw [Array.getElem?_eq_getElem hlt]
  simp only
  have hdst:(aD cs x).dst=ops[x.i].dst:=by simp only [aD,hget]; exact c2
  have hgrd:(aD cs x).grd=cs[x.i].grd:=by simp only [aD,hget]
  have hmdx:(aD cs x).md=cs[x.i].md:=by simp only [aD,hget]
  have hix:(aD cs x).i=cs[x.i].i:=by simp only [aD,hget]
  have hgt:∀ j u t,ops[x.i].guard=some (j,u)→(ops[j]?).bind (·.dst)=some t→t<a.tmps.size:=by
   intro j u t _ ht
   cases hj:ops[j]? with
   | none=>simp [hj] at ht
   | some o'=>simp [hj] at ht; exact Nat.lt_of_lt_of_le (hops j o' t hj ht) hn
  have hlen:(A++B).length≤fuel:=by simp at hL ⊢; omega
  rw [hgrd] at hW'
  cases hg:gdI cs[x.i].grd sl with
  | none=>rw [hg] at hW'; exact hW'.elim
  | some b=>
   rw [hg] at hW'
   rw [pg hsl hgt c5 hg]
   cases b with
   | false=>
    simp only at hW'
    rw [if_neg (by simp)]
    refine ih (A++B) _ hI' hlen hW' hS ?_ (by rw [dM]; exact hn) ?_
    ·rw [hdst]
     exact fJ hsl (fun t ht=>Nat.lt_of_lt_of_le (c3 t ht) hn) (mE _)
    ·intro sl' s' G' a' w' k1 k2 k3 k4 k5 k6
     exact hQ sl' s' G' a' w' k1 k2 k3 k4 (by rw [k5,dM]) (by rw [k6,eQ])
   | true=>
    simp only at hW'
    rw [if_pos rfl]
    refine .inl (qk (by rw [hix]; exact c1) hW' hS hsl ?_)
    intro v av G1 s1 w1 t1 t2 t3 t4
    split at t4
    ·rename_i v' s2 hf
     obtain ⟨G2,u1,u2,u3⟩:=nP hf t3 t2
     have hT:=t1.trans u1
     refine ih (A++B) _ hI' hlen t4 u2 ?_ (by rw [dM]; exact hn) ?_
     ·rw [hdst]
      exact fJ (hsl.mono hT.le) (fun t ht=>Nat.lt_of_lt_of_le (c3 t ht) hn) u3
     ·intro sl' s' G' a' w' k1 k2 k3 k4 k5 k6
      exact hQ sl' s' G' a' w' k1 (hT.trans k2) k3 k4 (by rw [k5,dM]) (by rw [k6,eQ])
    ·exact t4.elim
theorem vS {P:Program} {n:Nat} {md:Tmp→Md} {ops:Array Oper} {Q:Exit→Act→World→Prop} (hm:P.follows .mixedOrders=true) (hops:∀ (j:Nat) o t,ops[j]?=some o→o.dst=some t→t<n) {cs:List AO} (hcs:ops.toList.mapM (fj P n md ops)=some cs)
  {pl:List PE} (hpl:ql ops cs pl=true) {K:Slots→St→Prop} {id:Nat} {sl:Slots} {s:St} {G:Gh} {w:World} {a:Act} (hW:aN P (pl.map (aD cs)) K sl s) (hS:Sim G s w) (hsl:RepSl G sl a) (hn:n≤a.tmps.size)
  (hQ:∀ sl' s' G' a' w',K sl' s'→Stp G s w G' s' w'→Sim G' s' w'→RepSl G' sl' a'→a'.tmps.size=a.tmps.size→a'.defers=a.defers→Q .normal a' w'):(Code.region id ops true).wp P Q a w:=by
 simp only [ql,Bool.and_eq_true] at hpl
 obtain ⟨⟨⟨h1,h2⟩,h3⟩,h4⟩:=hpl
 refine wp_region_any hm ?_
 refine qF hops hcs h2 ops.size pl _ ?_ (by simpa using h3) hW ⟨hS.mem,hS.dom,hS.blk,hS.ov⟩ hsl hn ?_
 ·refine ⟨by simp,?_,?_,iZ h1,fun e he=>he,?_⟩
  ·intro e he
   have:=List.all_eq_true.1 h2 e he
   simp [fI] at this
   rw [Array.getD_eq_getD_getElem?,Array.getElem?_replicate]
   simp [this.1.1.1]
  ·intro i hi hno
   have:=List.all_eq_true.1 h4 i (by simpa using hi)
   simp at this
   obtain ⟨e,he,hei⟩:=this
   exact absurd hei (hno e he)
  ·intro e he hl
   rw [Array.getD_eq_getD_getElem?,Array.getElem?_replicate] at hl
   split at hl <;> simp at hl
 ·intro sl' s' G' a' w' k1 k2 k3 k4 k5 k6
  exact hQ sl' s' G' a' w' k1 ⟨k2.le,k2.c,k2.os,k2.tape,k2.output,k2.size,k2.keep,k2.own⟩ k3 k4 k5 k6
end Go.AM
