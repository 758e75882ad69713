/- Part of the claim: see its last text. -/
import Derived.Test.YtjhogglgkjcacaaGreatMa32
set_option linter.all false
namespace Go.AM
inductive Frz (h:Heap) (D:Nat→Prop):AV→AV→Prop
 | leaf (v:AV):Frz h D v (norm v)
 | agg (cs ys:List AV) (hl:cs.length=ys.length) (hh:∀ (j:Nat) (c y:AV),cs[j]?=some c→ys[j]?=some y→Frz h D c y):Frz h D (.agg cs) (.agg ys)
 | row (g sz off len:Nat) (es:List (List AV)) (st:RSt) (ys:List (List AV)) (hg:h g=some (.row sz es st none)) (hst:st=.live∨st=.frz) (hD:D g) (hle:off+len≤es.length) (hl:ys.length=len)
   (hz:∀ (i:Nat) (e y:List AV),es[off+i]?=some e→ys[i]?=some y→e.length=y.length)
   (hh:∀ (i j:Nat) (e y:List AV) (c d:AV),es[off+i]?=some e→ys[i]?=some y→e[j]?=some c→y[j]?=some d→Frz h D c d):Frz h D (.row g sz off len) (.sl ys false)
def FzH (D:Nat→Prop) (h h':Heap):Prop:=∀ k,h' k=h k∨(D k∧∃ (sz:Nat) (es:List (List AV)) (st:RSt),(st=.live∨st=.frz)∧h k=some (.row sz es st none)∧h' k=some (.row sz es .frz none))
theorem FzH.refl (D:Nat→Prop) (h:Heap):FzH D h h:=fun k=>.inl rfl
theorem FzH.trans {D:Nat→Prop} {a b c:Heap} (h:FzH D a b) (k:FzH D b c):FzH D a c:=fun i=>by
 rcases k i with k | ⟨hD,sz,es,st,hst,h1,h2⟩
 ·rcases h i with h | ⟨hD,sz,es,st,hst,h1,h2⟩
  ·exact .inl (k.trans h)
  ·exact .inr ⟨hD,sz,es,st,hst,h1,k.trans h2⟩
 ·rcases h i with h | ⟨_,sz',es',st',hst',h1',h2'⟩
  ·exact .inr ⟨hD,sz,es,st,hst,h▸h1,h2⟩
  ·rw [h2'] at h1
   injection h1 with h1
   injection h1 with q1 q2 q3 q4
   subst q1; subst q2
   exact .inr ⟨hD,sz',es',st',hst',h1',h2⟩
def rZ (h:Heap) (D:Nat→Prop) (a b:AV):Prop:=∀ (G:Gh) (s:St) (w:World) (v:Value),Sim G s w→FzH D h s.h→Rep G (norm a) v→∃ G' s',Stp G s w G' s' w∧Sim G' s' w∧Rep G' b v∧s'.c=s.c∧FzH D s.h s'.h
theorem mK {h:Heap} {D:Nat→Prop} {w:World}:∀ (T:List (AV×AV×Value)) (G:Gh) (s:St),(∀ t∈T,rZ h D t.1 t.2.1)→Sim G s w→FzH D h s.h→(∀ t∈T,Rep G (norm t.1) t.2.2) →
  ∃ G' s',Stp G s w G' s' w∧Sim G' s' w∧(∀ t∈T,Rep G' t.2.1 t.2.2)∧s'.c=s.c∧FzH D s.h s'.h
 | [],G,s,_,hS,_,_=>⟨G,s,Stp.refl G s w,hS,by simp,rfl,FzH.refl D _⟩
 | t::T,G,s,hok,hS,hF,hr=>by
  obtain ⟨G1,s1,q1,q2,q3,q4,q5⟩:=hok t (List.mem_cons_self) G s w t.2.2 hS hF (hr t (List.mem_cons_self))
  obtain ⟨G2,s2,r1,r2,r3,r4,r5⟩:=mK T G1 s1 (fun u hu=>hok u (List.mem_cons_of_mem _ hu)) q2 (hF.trans q5) (fun u hu=>(hr u (List.mem_cons_of_mem _ hu)).mono q1.le)
  refine ⟨G2,s2,q1.trans r1,r2,fun u hu=>?_,r4.trans q4,q5.trans r5⟩
  rcases List.mem_cons.1 hu with rfl | hu
  ·exact q3.mono r1.le
  ·exact r3 u hu
theorem gM {cs:List AV} {j:Nat} {c:AV} (h:cs[j]?=some c):(aQ cs)[j]?=some (norm c):=by
 induction cs generalizing j with
 | nil=>cases h
 | cons x cs ih=>cases j with
  | zero=>simp at h; subst h; rfl
  | succ j=>simpa [aQ] using ih (by simpa using h)
theorem s8 {es:List (List AV)} {i:Nat} {e:List AV} (h:es[i]?=some e):(aW es)[i]?=some (aQ e):=by
 induction es generalizing i with
 | nil=>cases h
 | cons x cs ih=>cases i with
  | zero=>simp at h; subst h; rfl
  | succ j=>simpa [aW] using ih (by simpa using h)
theorem Frz.ok {h:Heap} {D:Nat→Prop} {a b:AV} (hf:Frz h D a b):rZ h D a b:=by
 induction hf with
 | leaf v=>
  intro G s w u hS hF hr
  exact ⟨G,s,Stp.refl G s w,hS,hr,rfl,FzH.refl D _⟩
 | agg cs ys hl _ ih=>
  intro G s w u hS hF hr
  obtain ⟨vs,rfl,hrl⟩:=Rep.ofAgg (by simpa [norm] using hr)
  have hlen:cs.length=vs.size:=by have:=hrl.1; rw [fG] at this; simpa using this
  obtain ⟨G1,s1,q1,q2,q3,q4,q5⟩:=mK (h:=h) (D:=D) (w:=w) ((List.range cs.length).map fun j=>(cs.getD j .undef,ys.getD j .undef,vs.getD j undef)) G s (fun t ht=>by
   obtain ⟨j,hj,rfl⟩:=List.mem_map.1 ht
   have hj':j<cs.length:=List.mem_range.1 hj
   have h1:cs[j]?=some (cs.getD j .undef):=by simp [List.getD,List.getElem?_eq_getElem hj']
   have h2:ys[j]?=some (ys.getD j .undef):=by simp [List.getD,List.getElem?_eq_getElem (show j<ys.length by omega)]
   exact ih j _ _ h1 h2) hS hF (fun t ht=>by
   obtain ⟨j,hj,rfl⟩:=List.mem_map.1 ht
   have hj':j<cs.length:=List.mem_range.1 hj
   have h1:cs[j]?=some (cs.getD j .undef):=by simp [List.getD,List.getElem?_eq_getElem hj']
   exact hrl.2 j _ _ (gM h1) (by simp [show j<vs.size by omega]))
  refine ⟨G1,s1,q1,q2,.agg ys vs (by omega) fun j c v hc hv=>?_,q4,q5⟩
  have hj':j<ys.length:=(List.getElem?_eq_some_iff.1 hc).1
  have:=q3 _ (List.mem_map.2 ⟨j,List.mem_range.2 (show j<cs.length by omega),rfl⟩)
  have e1:ys.getD j .undef=c:=by simp [List.getD,hc]
  have e2:vs.getD j undef=v:=by rw [Array.getD_eq_getD_getElem?,hv]; rfl
  simp only [e1,e2] at this
  exact this
 | row g sz off len es st ys hg hst hD hle hl hz _ ih=>
  intro G s w u hS hF hr
  have hsg:∃ st',(st'=.live∨st'=.frz)∧s.h g=some (.row sz es st' none):=by
   rcases hF g with hF | ⟨_,sz',es',st',_,h1,h2⟩
   ·exact ⟨st,hst,hF.trans hg⟩
   ·rw [hg] at h1; injection h1 with h1; injection h1 with q1 q2 q3 q4
    subst q1; subst q2
    exact ⟨.frz,.inr rfl,h2⟩
  obtain ⟨st',hst',hsg⟩:=hsg
  have hfz:fz1 (.row g sz off len) s=some (.sl (aW ((es.drop off).take len)) false,{ s with h:=upd s.h g (some (.row sz es .frz none)) }):=by
   simp only [fz1,hsg]
   rw [if_pos (by simp [hle,hst'])]
  obtain ⟨G1,q1,q2,q3⟩:=pZ hfz (by simpa [norm] using hr) hS
  have hF1:FzH D s.h (upd s.h g (some (.row sz es .frz none))):=fun k=>by
   by_cases hk:k=g
   ·subst hk; exact .inr ⟨hD,sz,es,st',hst',hsg,ah⟩
   ·exact .inl (ad hk)
  have hget:∀ (i:Nat) (e:List AV),i<len→es[off+i]?=some e→(aW ((es.drop off).take len))[i]?=some (aQ e):=fun i e hi he=>s8 (by rw [List.getElem?_take_of_lt hi,List.getElem?_drop]; exact he)
  have hlenE:(aW ((es.drop off).take len)).length=len:=by rw [kR]; simp; omega
  generalize hE:aW ((es.drop off).take len)=E at q3 hget hlenE
  cases q3 with
  | sl _ _ a cap b o sz' f hc hf' ha hz' hm hrep hb=>
   have hes:∀ i,i<len→∃ e,es[off+i]?=some e:=fun i hi=>⟨es[off+i],List.getElem?_eq_getElem (by omega)⟩
   have hys:∀ i,i<len→∃ y,ys[i]?=some y:=fun i hi=>⟨ys[i],List.getElem?_eq_getElem (by omega)⟩
   obtain ⟨G2,s2,r1,r2,r3,r4,r5⟩:=mK (h:=h) (D:=D) (w:=w) ((List.range len).flatMap fun i=>(List.range (ys.getD i []).length).map fun j=>((es.getD (off+i) []).getD j .undef,(ys.getD i []).getD j .undef,f i j)) G1 _ (fun t ht=>by
    obtain ⟨i,hi,ht⟩:=List.mem_flatMap.1 ht
    obtain ⟨j,hj,rfl⟩:=List.mem_map.1 ht
    have hi':i<len:=List.mem_range.1 hi
    obtain ⟨e,he⟩:=hes i hi'
    obtain ⟨y,hy⟩:=hys i hi'
    have e1:es.getD (off+i) []=e:=by simp [List.getD,he]
    have e2:ys.getD i []=y:=by simp [List.getD,hy]
    rw [e2] at hj
    have hj':j<y.length:=List.mem_range.1 hj
    have hjz:=hz i e y he hy
    simp only [e1,e2]
    exact ih i j e y _ _ he hy (by simp [List.getD,List.getElem?_eq_getElem (show j<e.length by omega)]) (by simp [List.getD,List.getElem?_eq_getElem hj'])) q2 (hF.trans hF1) (fun t ht=>by
    obtain ⟨i,hi,ht⟩:=List.mem_flatMap.1 ht
    obtain ⟨j,hj,rfl⟩:=List.mem_map.1 ht
    have hi':i<len:=List.mem_range.1 hi
    obtain ⟨e,he⟩:=hes i hi'
    obtain ⟨y,hy⟩:=hys i hi'
    have e1:es.getD (off+i) []=e:=by simp [List.getD,he]
    have e2:ys.getD i []=y:=by simp [List.getD,hy]
    rw [e2] at hj
    have hj':j<y.length:=List.mem_range.1 hj
    have hjz:=hz i e y he hy
    simp only [e1]
    have hce:e[j]?=some (e.getD j .undef):=by simp [List.getD,List.getElem?_eq_getElem (show j<e.length by omega)]
    exact hrep i (aQ e) j _ (hget i e hi' he) (gM hce))
   have hys':ys.length=E.length:=by omega
   refine ⟨G2,s2,q1.trans r1,r2,?_,r4,hF1.trans r5⟩
   rw [←hys']
   refine .sl ys false a cap b o sz' f (by omega) (by simp) (fun hne=>ha ?_) ?_ ?_ ?_ (by omega)
   ·intro e0; apply hne; exact List.length_eq_zero_iff.1 (by rw [hys',e0]; rfl)
   ·intro i y hy
    have hi':i<len:=by rw [←hl]; exact (List.getElem?_eq_some_iff.1 hy).1
    obtain ⟨e,he⟩:=hes i hi'
    have:=hz' i _ (hget i e hi' he)
    rw [fG] at this
    rw [←hz i e y he hy]; exact this
   ·intro i y j c hy hj
    have hi':i<len:=by rw [←hl]; exact (List.getElem?_eq_some_iff.1 hy).1
    obtain ⟨e,he⟩:=hes i hi'
    have hj':j<y.length:=(List.getElem?_eq_some_iff.1 hj).1
    have hjz:=hz i e y he hy
    have hce:e[j]?=some (e.getD j .undef):=by simp [List.getD,List.getElem?_eq_getElem (show j<e.length by omega)]
    exact r1.le.mem _ _ _ (hm i (aQ e) j _ (hget i e hi' he) (gM hce))
   ·intro i y j c hy hj
    have hi':i<len:=by rw [←hl]; exact (List.getElem?_eq_some_iff.1 hy).1
    have hj':j<y.length:=(List.getElem?_eq_some_iff.1 hj).1
    have e2:ys.getD i []=y:=by simp [List.getD,hy]
    have:=r3 _ (List.mem_flatMap.2 ⟨i,List.mem_range.2 hi',List.mem_map.2 ⟨j,List.mem_range.2 (by rw [e2]; exact hj'),rfl⟩⟩)
    simp only [e2] at this
    have e3:y.getD j .undef=c:=by simp [List.getD,hj]
    rw [e3] at this
    exact this
theorem ACalls.deep {P:Program} {f:FuncId} {args:List AV} {s:St} {R R':AV→St→Prop} (D:Nat→Prop) (hp:ACalls P f args s R) (hr:∀ av s',R av s'→∃ y,Frz s'.h D av y∧∀ h'',FzH D s'.h h''→R' y ⟨h'',s'.c⟩):ACalls P f args s R':=by
 intro G w vs hS hv
 refine (hp G w vs hS hv).mono fun v w' ⟨av,G',s',h1,h2,h3,h4⟩=>?_
 obtain ⟨y,hy,hR⟩:=hr av s' h4
 obtain ⟨G2,s2,q1,q2,q3,q4,q5⟩:=hy.ok G' s' w' v h2 (FzH.refl D _) (iJ _ _ h3)
 refine ⟨y,G2,s2,h1.trans q1,q2,q3,?_⟩
 have:=hR s2.h q5
 rw [←q4] at this
 exact this
end Go.AM
