/- Part of the claim: see its last text. -/
import Derived.Test.YtjhogglgkjcacaaGreatMa15
set_option linter.all false
namespace Go.AM
theorem qm {P:Program} {cs:List AO} {A:List PE} {x:PE} {B:List AO} {K:Slots→St→Prop} {sl:Slots} {s:St} (hpass:∀ q∈A,cg cs q x=true)
  (hkeep:A.Pairwise fun y z=>(az cs y).quiet=true→dj (az cs y) (az cs z)=true) (hW:aM P (A.map (az cs)++az cs x::B) K sl s) :
  match gdI (az cs x).grd sl with
  | some false=>aM P (A.map (az cs)++B) K (put sl (az cs x).dst (.tup [])) s
  | some true=>opW P (az cs x) sl s fun v s'=>match cF (az cs x).md v s' with
   | some (v',s'')=>aM P (A.map (az cs)++B) K (put sl (az cs x).dst v') s''
   | none=>False
  | none=>False:=by
 refine jV (A:=A.map (az cs)) (B:=B) (x:=az cs x) ?_ ?_ ?_ hW
 ·intro q' hq'
  obtain ⟨q,hq,rfl⟩:=List.mem_map.1 hq'
  have:=hpass q hq
  simp only [cg,Bool.and_eq_true] at this
  exact ⟨this.1.1.1,this.1.1.2,this.1.2⟩
 ·rw [List.pairwise_map]
  refine hkeep.imp_of_mem ?_
  intro y z hy hz hyz
  have hq:=hpass y hy
  simp only [cg,Bool.and_eq_true] at hq
  exact hyz hq.1.1.1
 ·by_cases hxq:(az cs x).quiet=true
  ·exact .inl hxq
  ·refine .inr fun q' hq'=>?_
   obtain ⟨q,hq,rfl⟩:=List.mem_map.1 hq'
   have:=hpass q hq
   simp only [cg,Bool.and_eq_true,Bool.or_eq_true] at this
   rcases this.2 with (h | h) | h
   ·exact absurd h hxq
   ·exact .inl h
   ·right
    obtain ⟨h1,h2⟩:=h
    obtain ⟨d,hd⟩:=Option.isSome_iff_exists.1 h2
    exact ⟨d,hd,kR (by simpa using h1) hd⟩
theorem sU {a:AO} {l:List AO} (h:a.quiet=true):(a.cut l).quiet=true:=by
 obtain ⟨d,g,m,i,re⟩:=a
 simp only [AO.quiet,AO.cut,Bool.and_eq_true,List.isEmpty_iff] at h ⊢
 refine ⟨⟨h.1.1,?_⟩,h.2⟩
 rw [h.1.2]; rfl
theorem sX {P:Program} {cs:List AO} {A:List PE} {x:PE} {B:List AO} {K:Slots→St→Prop} {sl:Slots} {s:St} (hpass:∀ q∈A,cg cs q x=true)
  (hkeep:A.Pairwise fun y z=>(az cs y).quiet=true→dj (az cs y) (az cs z)=true) (C:List AO) (hC:∀ q∈A,cO (az cs q).i=false→∀ o∈C,∀ d,o.dst=some d→¬(az cs q).dst=some d) (hW:aM P (A.map (az cs)++(az cs x).cut C::B) K sl s) :
  match gdI (az cs x).grd sl with
  | some false=>aM P (A.map (az cs)++B) K (put sl (az cs x).dst (.tup [])) s
  | some true=>opW P (az cs x) sl s fun v s'=>match cF (az cs x).md v s' with
   | some (v',s'')=>aM P (A.map (az cs)++B) K (put sl (az cs x).dst v') s''
   | none=>False
  | none=>False:=by
 refine jV (A:=A.map (az cs)) (B:=B) (x:=(az cs x).cut C) ?_ ?_ ?_ hW
 ·intro q' hq'
  obtain ⟨q,hq,rfl⟩:=List.mem_map.1 hq'
  have:=hpass q hq
  simp only [cg,Bool.and_eq_true] at this
  exact ⟨this.1.1.1,this.1.1.2,this.1.2⟩
 ·rw [List.pairwise_map]
  refine hkeep.imp_of_mem ?_
  intro y z hy hz hyz
  have hq:=hpass y hy
  simp only [cg,Bool.and_eq_true] at hq
  exact hyz hq.1.1.1
 ·by_cases hxq:(az cs x).quiet=true
  ·exact .inl (sU hxq)
  ·refine .inr fun q' hq'=>?_
   obtain ⟨q,hq,rfl⟩:=List.mem_map.1 hq'
   have:=hpass q hq
   simp only [cg,Bool.and_eq_true,Bool.or_eq_true] at this
   by_cases hpi:cO (az cs q).i=true
   ·exact .inl hpi
   have hpi':cO (az cs q).i=false:=by simpa using hpi
   rcases this.2 with (h | h) | h
   ·exact absurd h hxq
   ·exact .inl h
   ·right
    obtain ⟨h1,h2⟩:=h
    obtain ⟨d,hd⟩:=Option.isSome_iff_exists.1 h2
    refine ⟨d,hd,?_⟩
    show _∈(List.filter _ _)
    rw [List.mem_filter]
    refine ⟨kR (by simpa using h1) hd,?_⟩
    rw [List.all_eq_true]
    intro o ho
    have:=hC q hq hpi' o ho
    cases hod:o.dst with
    | none=>rfl
    | some d'=>
     have:=this d' hod
     simp only [bne_iff_ne,ne_eq]
     intro e
     rw [e] at this
     exact this hd
theorem eG {P:Program}:∀ (l:List AO) {K K':Slots→St→Prop} {sl:Slots} {s:St},aM P l K sl s→(∀ sl s,K sl s→K' sl s)→aM P l K' sl s
 | [],_,_,_,_,h,hk=>hk _ _ h
 | o::r,_,_,_,_,h,hk=>by
  simp only [aM] at h ⊢
  split at h
  ·exact eG r h hk
  ·refine fX h fun v s' hv=>?_
   split at hv
   ·exact ⟨hv.1,eG r hv.2 hk⟩
   ·exact hv
  ·exact h
theorem v7 (a:AO):a.cut []=a:=by
 obtain ⟨d,g,m,i,re⟩:=a
 show AO.mk d g m i (re.filter fun q=>true)=_
 congr 1
 exact List.filter_eq_self.2 fun _ _=>rfl
theorem qH {P:Program} {cs:List AO} {ea:PE} {post:List PE} {K:Slots→St→Prop}:∀ (R:List PE),∃ A0 B0,R=A0++B0∧(∀ q∈A0,(az cs q).quiet=true) ∧
  ∀ sl s,ce P (az cs ea) (post.map (az cs)) K (R.map fun e=>(!(az cs e).quiet,az cs e)) sl s→aM P (A0.map (az cs)++(az cs ea).cut (B0.map (az cs))::(B0++post).map (az cs)) K sl s
 | []=>⟨[],[],rfl,by simp,fun sl s h=>by simpa [ce,v7] using h⟩
 | e::R=>by
  by_cases hq:(az cs e).quiet=true
  ·obtain ⟨A0,B0,h1,h2,h3⟩:=qH (P:=P) (cs:=cs) (ea:=ea) (post:=post) (K:=K) R
   refine ⟨e::A0,B0,by rw [h1]; rfl,fun q hq'=>?_,fun sl s h=>?_⟩
   ·rcases List.mem_cons.1 hq' with rfl | h
    ·exact hq
    ·exact h2 q h
   ·simp only [List.map_cons,ce] at h
    show aM P ([az cs e]++(A0.map (az cs)++(az cs ea).cut (B0.map (az cs))::(B0++post).map (az cs))) K sl s
    rw [dD]
    exact eG _ h.2 fun sl' s' h'=>h3 sl' s' h'
  ·refine ⟨[],e::R,rfl,by simp,fun sl s h=>?_⟩
   simp only [List.map_cons,ce] at h
   have:=h.1 (by simpa using hq)
   simpa [List.map_map,Function.comp_def] using this
theorem sw {P:Program} {n:Nat} {md:Tmp→Md} {ops:Array Oper} {Q:Exit→Act→World→Prop} (hops:∀ (j:Nat) o t,ops[j]?=some o→o.dst=some t→t<n) {cs:List AO} (hcs:ops.toList.mapM (eV P n md ops)=some cs)
  {pl post:List PE} {ea:PE} (hpl:pl.all (fv ops pl)=true) (hpost:∀ e∈post,ea.i∈e.anc) {K:Slots→St→Prop} :
  ∀ (fuel:Nat) (Qs R:List PE) (listed:Array Bool),LInv ops pl (Qs++(R++ea::post)) listed→(Qs++(R++ea::post)).Pairwise (fun x y=>cI ops cs ea x y=true)→(∀ q∈Qs,(az cs q).quiet=true)→(Qs++(R++ea::post)).length≤fuel →
   ∀ {sl:Slots} {s:St} {G:Gh} {w:World} {a:Act},aM P (Qs.map (az cs)) (ce P (az cs ea) (post.map (az cs)) K (R.map fun e=>(!(az cs e).quiet,az cs e))) sl s→Sim G s w→RepSl G sl a→n≤a.tmps.size →
   (∀ sl' s' G' a' w',K sl' s'→Stp G s w G' s' w'→Sim G' s' w'→RepSl G' sl' a'→a'.tmps.size=a.tmps.size→a'.defers=a.defers→Q .normal a' w')→wpAny P .any ops Q fuel listed a w:=by
 have hplace:∀ e∈pl,e.i<ops.size∧e.i∉dh ops e.i∧(∀ j∈dh ops e.i,j<ops.size)∧∀ j∈e.anc,j∈dh ops e.i∨∃ f∈pl,f.i∈dh ops e.i∧j∈f.anc:=by
  intro e he
  have:=List.all_eq_true.1 hpl e he
  simpa [fv,and_assoc] using this
 intro fuel
 induction fuel with
 | zero=>intro Qs R listed hI hp hq hL; simp at hL
 | succ fuel ih=>
  intro Qs R listed hI hp hquiet hL sl s G w a hW hS hsl hn hQ
  have hne:Region.ready .any ops listed≠[]:=by
   intro hr
   cases hLc:Qs++(R++ea::post) with
   | nil=>simp at hLc
   | cons e L=>
    rw [hLc] at hI hp
    obtain ⟨h1,h2,h3,h4⟩:=hplace e (hI.sub e (by simp))
    have:e.i∈Region.ready .any ops listed:=by
     rw [gG,gz h1]
     refine ⟨h1,hI.open_ e (by simp),fun j hj=>?_⟩
     refine hI.done j (h3 j hj) ?_
     intro f hf hfj
     rcases List.mem_cons.1 hf with rfl | hf
     ·exact h2 (hfj▸hj)
     ·have:=(List.pairwise_cons.1 hp).1 f hf
      simp [cI] at this
      exact this.1.1.2 (hfj▸hj)
    rw [hr] at this; cases this
  refine ⟨fun hr=>absurd hr hne,?_⟩
  intro i hi
  obtain ⟨hlt,hop,hpr⟩:=gG.1 hi
  rw [gz hlt] at hpr
  have hiL:∃ e∈Qs++(R++ea::post),e.i=i:=by
   refine Classical.byContradiction fun hno=>?_
   have:=hI.done i hlt fun e he heq=>hno ⟨e,he,heq⟩
   rw [jv (by rw [hI.size]; exact hlt) false true,hop] at this; cases this
  obtain ⟨x,hx,rfl⟩:=hiL
  have hxpl:=hplace x (hI.sub x hx)
  have hanc:∀ q∈Qs++(R++ea::post),q.i∉x.anc:=by
   intro q hq hqi
   have:listed.getD q.i false=true:=by
    rcases hxpl.2.2.2 q.i hqi with h | ⟨f,hf,h1,h2⟩
    ·exact hpr _ h
    ·exact hI.shut f hf (hpr _ h1) _ h2
   have hqs:=(hplace q (hI.sub q hq)).1
   rw [jv (by rw [hI.size]; exact hqs) false true,hI.open_ q hq] at this
   cases this
  have hpass:∀ q,q∈Qs++(R++ea::post)→cI ops cs ea q x=true→x.i≠ea.i→cg cs q x=true:=by
   intro q hq hpq hxa
   simp only [cI,Bool.and_eq_true,Bool.or_eq_true] at hpq
   rcases hpq.1.2 with (h | h) | h
   ·exact absurd (by simpa using h) (hanc q hq)
   ·exact h
   ·exact absurd (by simpa using h.1) hxa
  have hkeepOf:∀ {L:List PE},L.Pairwise (fun x y=>cI ops cs ea x y=true)→L.Pairwise fun y z=>(az cs y).quiet=true→dj (az cs y) (az cs z)=true:=by
   intro L hL
   refine hL.imp fun {y z} hyz hq=>?_
   simp only [cI,Bool.and_eq_true,hq,Bool.not_true,Bool.false_or] at hyz
   exact hyz.2
  have hdist:∀ {A B:List PE},(A++x::B).Pairwise (fun x y=>cI ops cs ea x y=true)→∀ e∈A++B,e.i≠x.i:=by
   intro A B hp e he
   rw [List.pairwise_append,List.pairwise_cons] at hp
   rcases List.mem_append.1 he with h | h
   ·have:=hp.2.2 e h x (by simp)
    simp only [cI,Bool.and_eq_true] at this
    simpa using this.1.1.1
   ·have:=hp.2.1.1 e h
    simp only [cI,Bool.and_eq_true] at this
    have:=this.1.1.1
    simp at this
    exact Ne.symm this
  have hdrop:∀ {A B:List PE},(A++x::B).Pairwise (fun x y=>cI ops cs ea x y=true)→(A++B).Pairwise (fun x y=>cI ops cs ea x y=true):=by
   intro A B hp
   exact hp.sublist (List.Sublist.append (List.Sublist.refl A) (List.sublist_cons_self x B))
  rcases List.mem_append.1 hx with hxQ | hxR
  ·
   obtain ⟨A,B,rfl⟩:=List.append_of_mem hxQ
   have hp':(A++x::(B++(R++ea::post))).Pairwise (fun x y=>cI ops cs ea x y=true):=by simpa using hp
   have hI0:LInv ops pl (A++x::(B++(R++ea::post))) listed:=by simpa using hI
   have hxa:x.i≠ea.i:=by
    have:=hdist hp' ea (by simp)
    exact Ne.symm this
   have hA:∀ q∈A,cg cs q x=true:=fun q hq=>hpass q (by simp [hq]) (by
    rw [List.pairwise_append] at hp'
    exact hp'.2.2 q hq x (by simp)) hxa
   rw [List.map_append,List.map_cons] at hW
   have hpA:A.Pairwise (fun x y=>cI ops cs ea x y=true):=(List.pairwise_append.1 hp').1
   have hF:=qm hA (hkeepOf hpA) hW
   refine lf hops hcs hlt hS hsl hn hF ?_
   intro sl' s' G' a' w' hC k2 k3 k4 k5 k6
   have hI1:=hI0.take hlt (hdist hp') hpr fun e he=>(hplace e he).2.2.2
   refine ih (A++B) R _ (by simpa using hI1) (by simpa using hdrop hp') (fun q hq=>hquiet q (by rcases List.mem_append.1 hq with h | h <;> simp [h])) (by simp at hL ⊢; omega) (by rw [List.map_append]; exact hC) k3 k4 (by rw [k5]; exact hn) ?_
   intro sl2 s2 G2 a2 w2 m1 m2 m3 m4 m5 m6
   exact hQ sl2 s2 G2 a2 w2 m1 (k2.trans m2) m3 m4 (by rw [m5,k5]) (by rw [m6,k6])
  ·rcases List.mem_append.1 hxR with hxR | hxP
   ·
    obtain ⟨A,B,rfl⟩:=List.append_of_mem hxR
    have hp':((Qs++A)++x::(B++ea::post)).Pairwise (fun x y=>cI ops cs ea x y=true):=by simpa using hp
    have hI0:LInv ops pl ((Qs++A)++x::(B++ea::post)) listed:=by simpa using hI
    have hxa:x.i≠ea.i:=by
     have:=hdist hp' ea (by simp)
     exact Ne.symm this
    have hA:∀ q∈Qs++A,cg cs q x=true:=fun q hq=>hpass q (by rcases List.mem_append.1 hq with h | h <;> simp [h]) (by
     rw [List.pairwise_append] at hp'
     exact hp'.2.2 q hq x (by simp)) hxa
    have hpA:(Qs++A).Pairwise (fun x y=>cI ops cs ea x y=true):=(List.pairwise_append.1 hp').1
    have hW2:aM P ((Qs++A).map (az cs)++az cs x::[]) (ce P (az cs ea) (post.map (az cs)) K (B.map fun e=>(!(az cs e).quiet,az cs e))) sl s:=by
     rw [List.map_append,List.append_assoc,dD]
     refine eG (Qs.map (az cs)) hW fun sl' s' h'=>?_
     rw [List.map_append,List.map_cons] at h'
     have h2:=pj _ _ h'
     rw [List.map_map] at h2
     rw [dD]
     refine eG _ h2 fun sl' s' h3=>?_
     exact h3.2
    have hF:=qm hA (hkeepOf hpA) hW2
    rw [List.append_nil] at hF
    refine lf hops hcs hlt hS hsl hn hF ?_
    intro sl' s' G' a' w' hC k2 k3 k4 k5 k6
    have hI1:=hI0.take hlt (hdist hp') hpr fun e he=>(hplace e he).2.2.2
    refine ih (Qs++A) B _ (by simpa using hI1) (by simpa using hdrop hp') (fun q hq=>?_) (by simp at hL ⊢; omega) hC k3 k4 (by rw [k5]; exact hn) ?_
    ·have:=hA q hq
     simp only [cg,Bool.and_eq_true] at this
     exact this.1.1.1
    ·intro sl2 s2 G2 a2 w2 m1 m2 m3 m4 m5 m6
     exact hQ sl2 s2 G2 a2 w2 m1 (k2.trans m2) m3 m4 (by rw [m5,k5]) (by rw [m6,k6])
   ·rcases List.mem_cons.1 hxP with hxe | hxP
    ·
     subst hxe
     have hp':((Qs++R)++x::post).Pairwise (fun x' y=>cI ops cs x x' y=true):=by simpa using hp
     have hI0:LInv ops pl ((Qs++R)++x::post) listed:=by simpa using hI
     obtain ⟨A0,B0,hR,hA0,himp⟩:=qH (P:=P) (cs:=cs) (ea:=x) (post:=post) (K:=K) R
     have hW2:aM P ((Qs++A0).map (az cs)++(az cs x).cut (B0.map (az cs))::(B0++post).map (az cs)) K sl s:=by
      rw [List.map_append,List.append_assoc,dD]
      exact eG _ hW fun sl' s' h'=>himp sl' s' h'
     have hA:∀ q∈Qs++A0,cg cs q x=true:=by
      intro q hq
      have hqm:q∈Qs++R:=by
       rcases List.mem_append.1 hq with h | h
       ·simp [h]
       ·rw [hR]; simp [h]
      have hqq:(az cs q).quiet=true:=by
       rcases List.mem_append.1 hq with h | h
       ·exact hquiet q h
       ·exact hA0 q h
      have hpq:cI ops cs x q x=true:=by
       rw [List.pairwise_append] at hp'
       exact hp'.2.2 q hqm x (by simp)
      simp only [cI,Bool.and_eq_true,Bool.or_eq_true,hqq,Bool.not_true] at hpq
      rcases hpq.1.2 with (h | h) | h
      ·exact absurd (by simpa using h) (hanc q (by rcases List.mem_append.1 hqm with h' | h' <;> simp [h']))
      ·exact h
      ·exact absurd h.2 (by simp)
     have hpA:(Qs++A0).Pairwise (fun x' y=>cI ops cs x x' y=true):=by
      refine (List.pairwise_append.1 hp').1.sublist ?_
      rw [hR,←List.append_assoc]
      exact List.sublist_append_left _ _
     have hF:=sX hA (hkeepOf hpA) (B0.map (az cs)) (by
      intro q hq hqi o ho
      obtain ⟨y,hy,rfl⟩:=List.mem_map.1 ho
      have hqy:cI ops cs x q y=true:=by
       have h1:=(List.pairwise_append.1 hp').1
       rw [hR,←List.append_assoc,List.pairwise_append] at h1
       exact h1.2.2 q hq y hy
      have hqq:(az cs q).quiet=true:=by
       have:=hA q hq
       simp only [cg,Bool.and_eq_true] at this
       exact this.1.1.1
      simp only [cI,Bool.and_eq_true,hqq,Bool.not_true,Bool.false_or] at hqy
      have hk:=hqy.2
      simp only [dj,hqi,Bool.false_or] at hk
      intro d hd
      rw [hd] at hk
      simp at hk
      exact hk.2) hW2
     refine lf hops hcs hlt hS hsl hn hF ?_
     intro sl' s' G' a' w' hC k2 k3 k4 k5 k6
     have hI1:=hI0.take hlt (hdist hp') hpr fun e he=>(hplace e he).2.2.2
     have hC':aM P (((Qs++R)++post).map (az cs)) K sl' s':=by
      rw [←List.map_append] at hC
      rw [hR]
      simpa using hC
     refine qW hops hcs hpl fuel ((Qs++R)++post) _ ⟨hI1.size,hI1.open_,hI1.done,?_,hI1.sub,hI1.shut⟩ (by simp at hL ⊢; omega) hC' k3 k4 (by rw [k5]; exact hn) ?_
     ·refine (hdrop hp').imp_of_mem ?_
      intro y z hy hz hyz
      have hzx:=hdist hp' z hz
      simp only [cI,Bool.and_eq_true,Bool.or_eq_true] at hyz
      simp only [gJ,Bool.and_eq_true,Bool.or_eq_true]
      refine ⟨⟨hyz.1.1,?_⟩,hyz.2⟩
      rcases hyz.1.2 with h | h
      ·exact h
      ·exact absurd (by simpa using h.1) hzx
     ·intro sl2 s2 G2 a2 w2 m1 m2 m3 m4 m5 m6
      exact hQ sl2 s2 G2 a2 w2 m1 (k2.trans m2) m3 m4 (by rw [m5,k5]) (by rw [m6,k6])
    ·
     exact absurd (hpost x hxP) (hanc ea (by simp))
theorem wn {P:Program} {n:Nat} {md:Tmp→Md} {ops:Array Oper} {Q:Exit→Act→World→Prop} (hm:P.follows .mixedOrders=true) (hops:∀ (j:Nat) o t,ops[j]?=some o→o.dst=some t→t<n) {cs:List AO} (hcs:ops.toList.mapM (eV P n md ops)=some cs)
  {pre post:List PE} {ea:PE} (hpl:qG ops cs pre ea post=true) {K:Slots→St→Prop} {id:Nat} {sl:Slots} {s:St} {G:Gh} {w:World} {a:Act} (hW:ce P (az cs ea) (post.map (az cs)) K (pre.map fun e=>(!(az cs e).quiet,az cs e)) sl s) (hS:Sim G s w) (hsl:RepSl G sl a) (hn:n≤a.tmps.size)
  (hQ:∀ sl' s' G' a' w',K sl' s'→Stp G s w G' s' w'→Sim G' s' w'→RepSl G' sl' a'→a'.tmps.size=a.tmps.size→a'.defers=a.defers→Q .normal a' w'):(Code.region id ops true).wp P Q a w:=by
 simp only [qG,Bool.and_eq_true] at hpl
 obtain ⟨⟨⟨⟨h1,h2⟩,h3⟩,h4⟩,h5⟩:=hpl
 refine wp_region_any hm ?_
 refine sw hops hcs (pl:=pre++ea::post) h2 ?_ ops.size [] pre _ ?_ (by simpa using jg h1) (by simp) (by simpa using h3) hW ⟨hS.mem,hS.dom,hS.blk,hS.ov⟩ hsl hn ?_
 ·intro e he
  have:=List.all_eq_true.1 h5 e he
  simpa using this
 ·refine ⟨by simp,?_,?_,fun e he=>by simpa using he,?_⟩
  ·intro e he
   have:=List.all_eq_true.1 h2 e (by simpa using he)
   simp only [fv,Bool.and_eq_true,decide_eq_true_eq] at this
   rw [Array.getD_eq_getD_getElem?,Array.getElem?_replicate]
   simp [this.1.1.1]
  ·intro i hi hno
   have:=List.all_eq_true.1 h4 i (by simpa using hi)
   rw [List.any_eq_true] at this
   obtain ⟨e,he,hei⟩:=this
   exact absurd (by simpa using hei) (hno e (by simpa using he))
  ·intro e he hl
   rw [Array.getD_eq_getD_getElem?,Array.getElem?_replicate] at hl
   split at hl <;> simp at hl
 ·intro sl' s' G' a' w' k1 k2 k3 k4 k5 k6
  exact hQ sl' s' G' a' w' k1 ⟨k2.le,k2.c,k2.os,k2.tape,k2.output,k2.size,k2.keep,k2.own⟩ k3 k4 k5 k6
end Go.AM
