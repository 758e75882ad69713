/- Part of the claim: see its last text. -/
import Derived.Test.YtjhogglgkjcacaaGreatMa23
set_option linter.all false
namespace Go.AM
theorem dL {P:Program}:∀ (A B:List AO) {K:Slots→St→Prop} {sl:Slots} {s:St},aN P (A++B) K sl s=aN P A (aN P B K) sl s
 | [],B,K,sl,s=>rfl
 | o::A,B,K,sl,s=>by
  simp only [List.cons_append,aN]
  cases gdI o.grd sl with
  | none=>rfl
  | some b=>
   cases b with
   | false=>exact dL A B
   | true=>
    simp only
    congr 1
    funext v s'
    cases cR o.md v s' with
    | none=>rfl
    | some p=>simp only [dL A B]
theorem oK {P:Program} {a:AO} {post:List AO} {K:Slots→St→Prop}:∀ (A:List (Bool×AO)) (r:List (Bool×AO)) {sl:Slots} {s:St},cg P a post K (A++r) sl s→aN P (A.map (·.2)) (cg P a post K r) sl s
 | [],r,sl,s,h=>h
 | (b,e)::A,r,sl,s,h=>by
  simp only [List.cons_append,cg] at h
  have h2:=h.2
  show aN P ([e]++A.map (·.2)) _ sl s
  rw [dL]
  exact opsW_mono1 h2 fun sl' s' h'=>oK A r h'
where
 opsW_mono1 {P:Program} {e:AO} {K K':Slots→St→Prop} {sl:Slots} {s:St} (h:aN P [e] K sl s) (hk:∀ sl s,K sl s→K' sl s):aN P [e] K' sl s:=by
  simp only [aN] at h ⊢
  split at h
  ·exact hk _ _ h
  ·refine gu h fun v s' hv=>?_
   split at hv
   ·exact ⟨hv.1,hk _ _ hv.2⟩
   ·exact hv
  ·exact h
theorem lp {P:Program} {n:Nat} {md:Tmp→Md} {ops:Array Oper} {Q:Exit→Act→World→Prop} (hops:∀ (j:Nat) o t,ops[j]?=some o→o.dst=some t→t<n) {cs:List AO} (hcs:ops.toList.mapM (fj P n md ops)=some cs)
  {x:PE} (hlt:x.i<ops.size) {C:Slots→St→Prop} {sl:Slots} {s:St} {G:Gh} {w:World} {a:Act} (hS:Sim G s w) (hsl:RepSl G sl a) (hn:n≤a.tmps.size)
  (hW':match gdI (aD cs x).grd sl with
   | some false=>C (put sl (aD cs x).dst (.tup [])) s
   | some true=>opW P (aD cs x) sl s fun v s'=>match cR (aD cs x).md v s' with
    | some (v',s'')=>C (put sl (aD cs x).dst v') s''
    | none=>False
   | none=>False) {next:Act→World→Prop}
  (hnx:∀ sl' s' G' a' w',C sl' s'→Stp G s w G' s' w'→Sim G' s' w'→RepSl G' sl' a'→a'.tmps.size=a.tmps.size→a'.defers=a.defers→next a' w'):wpOp P ops Q x.i next a w:=by
 obtain ⟨hl1,hl2⟩:=eO hcs
 have hxl:x.i<cs.length:=by rw [←hl1]; simpa using hlt
 have hget:hH cs x.i=cs[x.i]:=by simp [hH,List.getElem?_eq_getElem hxl]
 have hcx:=hl2 x.i ops[x.i] cs[x.i] (by rw [Array.getElem?_toList,Array.getElem?_eq_getElem hlt]) (List.getElem?_eq_getElem hxl)
 obtain ⟨c1,c2,c3,c4,c5,c6,c7⟩:=jO hcx
 unfold wpOp
 rw [Array.getElem?_eq_getElem hlt]
 simp only
 have hdst:(aD cs x).dst=ops[x.i].dst:=by simp only [aD,hget]; exact c2
 have hgrd:(aD cs x).grd=cs[x.i].grd:=by simp only [aD,hget]
 have hix:(aD cs x).i=cs[x.i].i:=by simp only [aD,hget]
 have hgt:∀ j u t,ops[x.i].guard=some (j,u)→(ops[j]?).bind (·.dst)=some t→t<a.tmps.size:=by
  intro j u t _ ht
  cases hj:ops[j]? with
  | none=>simp [hj] at ht
  | some o'=>simp [hj] at ht; exact Nat.lt_of_lt_of_le (hops j o' t hj ht) hn
 rw [hgrd] at hW'
 cases hg:gdI cs[x.i].grd sl with
 | none=>rw [hg] at hW'; exact hW'.elim
 | some b=>
  rw [hg] at hW'
  rw [pg hsl hgt c5 hg]
  cases b with
  | false=>
   simp only at hW'
   rw [if_neg (by simp)]
   refine hnx _ s G _ w hW' (Stp.refl G s w) hS ?_ (by rw [dM]) (by rw [eQ])
   rw [hdst]
   exact fJ hsl (fun t ht=>Nat.lt_of_lt_of_le (c3 t ht) hn) (mE _)
  | true=>
   simp only at hW'
   rw [if_pos rfl]
   refine .inl (qk (by rw [hix]; exact c1) hW' hS hsl ?_)
   intro v av G1 s1 w1 t1 t2 t3 t4
   split at t4
   ·rename_i v' s2 hf
    obtain ⟨G2,u1,u2,u3⟩:=nP hf t3 t2
    have hT:=t1.trans u1
    refine hnx _ s2 G2 _ w1 t4 hT u2 ?_ (by rw [dM]) (by rw [eQ])
    rw [hdst]
    exact fJ (hsl.mono hT.le) (fun t ht=>Nat.lt_of_lt_of_le (c3 t ht) hn) u3
   ·exact t4.elim
def cM (ops:Array Oper) (cs:List AO) (ea:PE) (e f:PE):Bool:=
 e.i != f.i&&!(du ops e.i).contains f.i&&(f.anc.contains e.i||ck cs e f||(f.i==ea.i&&!(aD cs e).quiet))&&(!(aD cs e).quiet||dx (aD cs e) (aD cs f))
def qp (ops:Array Oper) (cs:List AO) (pre:List PE) (ea:PE) (post:List PE):Bool:=
 iC (cM ops cs ea) (pre++ea::post)&&(pre++ea::post).all (fI ops (pre++ea::post))&&decide ((pre++ea::post).length≤ops.size)&&((List.range ops.size).all fun i=>(pre++ea::post).any fun e=>e.i==i) &&
  post.all fun e=>e.anc.contains ea.i
structure LInv (ops:Array Oper) (pl L:List PE) (listed:Array Bool):Prop where
 size:listed.size=ops.size
 open_:∀ e∈L,listed.getD e.i true=false
 done:∀ i,i<ops.size→(∀ e∈L,e.i≠i)→listed.getD i false=true
 sub:∀ e∈L,e∈pl
 shut:∀ e∈pl,listed.getD e.i false=true→∀ j∈e.anc,listed.getD j false=true
theorem LInv.take {ops:Array Oper} {pl A B:List PE} {x:PE} {listed:Array Bool} (hI:LInv ops pl (A++x::B) listed) (hlt:x.i<ops.size) (hne:∀ e∈A++B,e.i≠x.i)
  (hpr:∀ j∈du ops x.i,listed.getD j false=true) (hplace:∀ e∈pl,∀ j∈e.anc,j∈du ops e.i∨∃ f∈pl,f.i∈du ops e.i∧j∈f.anc):LInv ops pl (A++B) (listed.setIfInBounds x.i true):=by
 have hsz:x.i<listed.size:=by rw [hI.size]; exact hlt
 refine ⟨by simp [hI.size],?_,?_,fun e he=>hI.sub e ?_,?_⟩
 ·intro e he
  rw [gq hsz,if_neg (hne e he)]
  exact hI.open_ e (by rcases List.mem_append.1 he with h | h <;> simp [h])
 ·intro j hj hno
  rw [gq hsz]
  split
  ·rfl
  ·rename_i hjx
   refine hI.done j hj ?_
   intro e he hej
   rcases List.mem_append.1 he with h | h
   ·exact hno e (by simp [h]) hej
   ·rcases List.mem_cons.1 h with rfl | h
    ·exact hjx hej.symm
    ·exact hno e (by simp [h]) hej
 ·rcases List.mem_append.1 he with h | h <;> simp [h]
 ·intro e he hl j hj
  rw [gq hsz] at hl ⊢
  split
  ·rfl
  ·split at hl
   ·rename_i hex
    rcases hplace e he j hj with h | ⟨f,hf,h1,h2⟩
    ·exact hpr j (by rw [←hex]; exact h)
    ·exact hI.shut f hf (hpr _ (by rw [←hex]; exact h1)) _ h2
   ·exact hI.shut e he hl j hj
end Go.AM
