/- Part of the claim: see its last text. -/
import Derived.Test.YtjhogglgkjcacaaGreatMa19
set_option linter.all false
namespace Go.AM
def aq (x:AV) (k:Nat):Prop:=∃ sz off n,x=.row k sz off n
theorem aJ {g sz off n k:Nat}:aq (.row g sz off n) k↔k=g:=by
 constructor
 ·rintro ⟨_,_,_,h⟩; injection h with h; exact h.symm
 ·rintro rfl; exact ⟨_,_,_,rfl⟩
theorem cQ {es:List (List AV)} {b:Bool} {k:Nat}:¬aq (.sl es b) k:=by rintro ⟨_,_,_,h⟩; cases h
def RowPre (h:Heap) (sz:Nat) (x:AV) (es:List (List AV)):Prop:=(x=.sl [] true∧es=[])∨∃ g full,x=.row g sz 0 es.length∧h g=some (.row sz (es++full) .live none)
def RowAt (h:Heap) (sz:Nat) (x:AV) (es:List (List AV)):Prop:=(x=.sl [] true∧es=[])∨∃ g,x=.row g sz 0 es.length∧h g=some (.row sz es .live none)
theorem RowPre.frame {h h':Heap} {sz:Nat} {x:AV} {es:List (List AV)} (r:RowPre h sz x es) (hh:∀ k,aq x k→h' k=h k):RowPre h' sz x es:=by
 rcases r with r | ⟨g,full,rfl,hg⟩
 ·exact .inl r
 ·exact .inr ⟨g,full,rfl,(hh g (aJ.2 rfl)).trans hg⟩
theorem RowAt.frame {h h':Heap} {sz:Nat} {x:AV} {es:List (List AV)} (r:RowAt h sz x es) (hh:∀ k,aq x k→h' k=h k):RowAt h' sz x es:=by
 rcases r with r | ⟨g,rfl,hg⟩
 ·exact .inl r
 ·exact .inr ⟨g,rfl,(hh g (aJ.2 rfl)).trans hg⟩
theorem RowAt.pre {h:Heap} {sz:Nat} {x:AV} {es:List (List AV)} (r:RowAt h sz x es):RowPre h sz x es:=by
 rcases r with r | ⟨g,rfl,hg⟩
 ·exact .inl r
 ·exact .inr ⟨g,[],rfl,by simpa using hg⟩
theorem RowAt.cell {h:Heap} {sz:Nat} {x:AV} {es:List (List AV)} (r:RowAt h sz x es):x.cell=true:=by
 rcases r with ⟨rfl,_⟩ | ⟨g,rfl,hg⟩ <;> rfl
theorem RowPre.cell {h:Heap} {sz:Nat} {x:AV} {es:List (List AV)} (r:RowPre h sz x es):x.cell=true:=by
 rcases r with ⟨rfl,_⟩ | ⟨g,_,rfl,hg⟩ <;> rfl
theorem RowPre.len {h:Heap} {sz:Nat} {x:AV} {es:List (List AV)} (r:RowPre h sz x es) (s:St):dT 1 x s=some (.int es.length):=by
 rcases r with ⟨rfl,rfl⟩ | ⟨g,_,rfl,hg⟩ <;> rfl
theorem RowAt.len {h:Heap} {sz:Nat} {x:AV} {es:List (List AV)} (r:RowAt h sz x es) (s:St):dT 1 x s=some (.int es.length):=r.pre.len s
theorem RowPre.norm {h:Heap} {sz:Nat} {x:AV} {es:List (List AV)} (r:RowPre h sz x es):x=.sl [] true∧es=[]∨norm x=x:=by
 rcases r with r | ⟨g,_,rfl,hg⟩
 ·exact .inl r
 ·exact .inr rfl
theorem RowPre.push {sz bytes:Nat} {md:Md} {x:AV} {es:List (List AV)} {h:Heap} {c:Nat} (r:RowPre h sz x es) (hmd:md≠.fork) (h0:0<sz) (hb:0<bytes) (hb':bytes≤2048) {e:List AV} {b:Bool} (he:aA sz e=true) (hes:∀ e∈es,aA sz e=true) (hm:es.length+1≤68719476736) (hx:∀ k,aq x k→k<c) :
  ∃ x' h' c',apI sz bytes md x (.sl [e] b) ⟨h,c⟩=some (x',⟨h',c'⟩)∧RowPre h' sz x' (es++[e])∧c≤c'∧(∀ k,aq x' k→aq x k∨(k=c∧c<c'))∧(∀ k,k≠c→¬aq x k→h' k=h k)∧(c'=c→h' c=h c∨aq x c)∧∃ g,x'=.row g sz 0 (es.length+1):=by
 rcases r with ⟨rfl,rfl⟩ | ⟨g,full,rfl,hg⟩
 ·have:=db (sz:=sz) (bytes:=bytes) (md:=md) (es:=[]) (xs:=[e]) (b:=b) (s:=⟨h,c⟩) h0 hb hb' (by simp) (fun y hy=>by simp at hy; rw [hy]; exact he) (by simp) (.inr rfl)
  refine ⟨_,_,_,this,.inr ⟨c,[],rfl,?_⟩,by simp [newRow],fun k hk=>?_,fun k hk _=>?_,fun hc=>?_,c,rfl⟩
  ·simp [newRow]
  ·have:=aJ.1 hk; exact .inr ⟨this,by simp [newRow]⟩
  ·simp [newRow,ad hk]
  ·simp [newRow] at hc
 ·cases full with
  | nil=>
   have hgc:g<c:=hx g (aJ.2 rfl)
   have hg':h g=some (.row sz es .live none):=by simpa using hg
   have:=cC (sz:=sz) (bytes:=bytes) (md:=md) (x:=e) (b:=b) (s:=⟨h,c⟩) hmd hg' rfl h0 hb hb' he hm
   refine ⟨_,_,_,this,.inr ⟨c,[],by simp,?_⟩,by simp,fun k hk=>?_,fun k hk hk2=>?_,fun hc=>?_,c,rfl⟩
   ·simp
   ·have:=aJ.1 hk; exact .inr ⟨this,by simp⟩
   ·have:k≠g:=fun e=>hk2 (aJ.2 e)
    show upd (upd h g none) c _ k=h k
    rw [ad hk,ad this]
   ·simp at hc
  | cons y full=>
   have h1:[e].all (aA sz)=true:=List.all_eq_true.2 fun z hz=>by rw [List.mem_singleton.1 hz]; exact he
   have hlen:es.length≠(es++y::full).length:=by simp
   have hle:es.length+1≤(es++y::full).length:=by simp
   have htk:(es++y::full).take es.length=es:=by simp
   have hdr:(es++y::full).drop (es.length+1)=full:=by
    rw [List.drop_append,List.drop_of_length_le (by omega)]
    simp [show es.length+1-es.length=1 by omega]
   have hap:apI sz bytes md (.row g sz 0 es.length) (.sl [e] b) ⟨h,c⟩=some (.row g sz 0 (es.length+1),⟨upd h g (some (.row sz (es++[e]++full) .live none)),c⟩):=by
    simp only [apI,St.show_,h0,hb,h1,dW,and_self,if_true,hg,hb',List.length_cons,List.length_nil,Nat.zero_add,hm,if_neg hlen,hle]
    rw [htk,hdr]
   refine ⟨_,_,_,hap,.inr ⟨g,full,by simp,by rw [af]⟩,Nat.le_refl _,fun k hk=>.inl (aJ.2 (aJ.1 hk)),fun k hk hk2=>ad fun e=>hk2 (aJ.2 e),fun _=>?_,g,rfl⟩
   by_cases hcg:c=g
   ·exact .inr (aJ.2 hcg)
   ·exact .inl (ad hcg)
theorem RowAt.push {sz bytes:Nat} {md:Md} {x:AV} {es:List (List AV)} {h:Heap} {c:Nat} (r:RowAt h sz x es) (hmd:md≠.fork) (h0:0<sz) (hb:0<bytes) (hb':bytes≤2048) {e:List AV} {b:Bool} (he:aA sz e=true) (hes:∀ e∈es,aA sz e=true) (hm:es.length+1≤68719476736) (hx:∀ k,aq x k→k<c) :
  ∃ h',apI sz bytes md x (.sl [e] b) ⟨h,c⟩=some (.row c sz 0 (es.length+1),⟨h',c+1⟩)∧h' c=some (.row sz (es++[e]) .live none)∧RowAt h' sz (.row c sz 0 (es.length+1)) (es++[e])∧(∀ k,k≠c→¬aq x k→h' k=h k):=by
 rcases r with ⟨rfl,rfl⟩ | ⟨g,rfl,hg⟩
 ·have:=db (sz:=sz) (bytes:=bytes) (md:=md) (es:=[]) (xs:=[e]) (b:=b) (s:=⟨h,c⟩) h0 hb hb' (by simp) (fun y hy=>by simp at hy; rw [hy]; exact he) (by simp) (.inr rfl)
  refine ⟨_,this,by simp [newRow],.inr ⟨c,rfl,by simp [newRow]⟩,fun k hk _=>by simp [newRow,ad hk]⟩
 ·have hgc:g<c:=hx g (aJ.2 rfl)
  have:=cC (sz:=sz) (bytes:=bytes) (md:=md) (x:=e) (b:=b) (s:=⟨h,c⟩) hmd hg rfl h0 hb hb' he hm
  refine ⟨_,this,af,.inr ⟨c,by simp,af⟩,fun k hk hk2=>?_⟩
  have:k≠g:=fun e=>hk2 (aJ.2 e)
  show upd (upd h g none) c _ k=h k
  rw [ad hk,ad this]
theorem RowPre.last {h:Heap} {sz:Nat} {x:AV} {es:List (List AV)} {e:List AV} (r:RowPre h sz x (es++[e])):∃ g full,x=.row g sz 0 (es.length+1)∧h g=some (.row sz (es++e::full) .live none):=by
 rcases r with ⟨_,r⟩ | ⟨g,full,rfl,hg⟩
 ·simp at r
 ·exact ⟨g,full,by simp,by simpa using hg⟩
end Go.AM
namespace Go.AM
inductive Frz (h:Heap) (D:Nat→Prop):AV→AV→Prop
 | leaf (v:AV):Frz h D v (norm v)
 | agg (cs ys:List AV) (hl:cs.length=ys.length) (hh:∀ (j:Nat) (c y:AV),cs[j]?=some c→ys[j]?=some y→Frz h D c y):Frz h D (.agg cs) (.agg ys)
 | row (g sz off len:Nat) (es:List (List AV)) (st:RSt) (ys:List (List AV)) (hg:h g=some (.row sz es st none)) (hst:st=.live∨st=.frz) (hD:D g) (hle:off+len≤es.length) (hl:ys.length=len)
   (hz:∀ (i:Nat) (e y:List AV),es[off+i]?=some e→ys[i]?=some y→e.length=y.length)
   (hh:∀ (i j:Nat) (e y:List AV) (c d:AV),es[off+i]?=some e→ys[i]?=some y→e[j]?=some c→y[j]?=some d→Frz h D c d):Frz h D (.row g sz off len) (.sl ys false)
def FzH (D:Nat→Prop) (h h':Heap):Prop:=∀ k,h' k=h k∨(D k∧∃ (sz:Nat) (es:List (List AV)) (st:RSt),(st=.live∨st=.frz)∧h k=some (.row sz es st none)∧h' k=some (.row sz es .frz none))
theorem FzH.refl (D:Nat→Prop) (h:Heap):FzH D h h:=fun k=>.inl rfl
theorem FzH.trans {D:Nat→Prop} {a b c:Heap} (h:FzH D a b) (k:FzH D b c):FzH D a c:=fun i=>by
 rcases k i with k | ⟨hD,sz,es,st,hst,h1,h2⟩
 ·rcases h i with h | ⟨hD,sz,es,st,hst,h1,h2⟩
  ·exact .inl (k.trans h)
  ·exact .inr ⟨hD,sz,es,st,hst,h1,k.trans h2⟩
 ·rcases h i with h | ⟨_,sz',es',st',hst',h1',h2'⟩
  ·exact .inr ⟨hD,sz,es,st,hst,h▸h1,h2⟩
  ·rw [h2'] at h1
   injection h1 with h1
   injection h1 with q1 q2 q3 q4
   subst q1; subst q2
   exact .inr ⟨hD,sz',es',st',hst',h1',h2⟩
def sF (h:Heap) (D:Nat→Prop) (a b:AV):Prop:=∀ (G:Gh) (s:St) (w:World) (v:Value),Sim G s w→FzH D h s.h→Rep G (norm a) v→∃ G' s',Stp G s w G' s' w∧Sim G' s' w∧Rep G' b v∧s'.c=s.c∧FzH D s.h s'.h
theorem mM {h:Heap} {D:Nat→Prop} {w:World}:∀ (T:List (AV×AV×Value)) (G:Gh) (s:St),(∀ t∈T,sF h D t.1 t.2.1)→Sim G s w→FzH D h s.h→(∀ t∈T,Rep G (norm t.1) t.2.2) →
  ∃ G' s',Stp G s w G' s' w∧Sim G' s' w∧(∀ t∈T,Rep G' t.2.1 t.2.2)∧s'.c=s.c∧FzH D s.h s'.h
 | [],G,s,_,hS,_,_=>⟨G,s,Stp.refl G s w,hS,by simp,rfl,FzH.refl D _⟩
 | t::T,G,s,hok,hS,hF,hr=>by
  obtain ⟨G1,s1,q1,q2,q3,q4,q5⟩:=hok t (List.mem_cons_self) G s w t.2.2 hS hF (hr t (List.mem_cons_self))
  obtain ⟨G2,s2,r1,r2,r3,r4,r5⟩:=mM T G1 s1 (fun u hu=>hok u (List.mem_cons_of_mem _ hu)) q2 (hF.trans q5) (fun u hu=>(hr u (List.mem_cons_of_mem _ hu)).mono q1.le)
  refine ⟨G2,s2,q1.trans r1,r2,fun u hu=>?_,r4.trans q4,q5.trans r5⟩
  rcases List.mem_cons.1 hu with rfl | hu
  ·exact q3.mono r1.le
  ·exact r3 u hu
theorem gH {cs:List AV} {j:Nat} {c:AV} (h:cs[j]?=some c):(aQ cs)[j]?=some (norm c):=by
 induction cs generalizing j with
 | nil=>cases h
 | cons x cs ih=>cases j with
  | zero=>simp at h; subst h; rfl
  | succ j=>simpa [aQ] using ih (by simpa using h)
theorem tw {es:List (List AV)} {i:Nat} {e:List AV} (h:es[i]?=some e):(aP es)[i]?=some (aQ e):=by
 induction es generalizing i with
 | nil=>cases h
 | cons x cs ih=>cases i with
  | zero=>simp at h; subst h; rfl
  | succ j=>simpa [aP] using ih (by simpa using h)
theorem Frz.ok {h:Heap} {D:Nat→Prop} {a b:AV} (hf:Frz h D a b):sF h D a b:=by
 induction hf with
 | leaf v=>
  intro G s w u hS hF hr
  exact ⟨G,s,Stp.refl G s w,hS,hr,rfl,FzH.refl D _⟩
 | agg cs ys hl _ ih=>
  intro G s w u hS hF hr
  obtain ⟨vs,rfl,hrl⟩:=Rep.ofAgg (by simpa [norm] using hr)
  have hlen:cs.length=vs.size:=by have:=hrl.1; rw [ft] at this; simpa using this
  obtain ⟨G1,s1,q1,q2,q3,q4,q5⟩:=mM (h:=h) (D:=D) (w:=w) ((List.range cs.length).map fun j=>(cs.getD j .undef,ys.getD j .undef,vs.getD j undef)) G s (fun t ht=>by
   obtain ⟨j,hj,rfl⟩:=List.mem_map.1 ht
   have hj':j<cs.length:=List.mem_range.1 hj
   have h1:cs[j]?=some (cs.getD j .undef):=by simp [List.getD,List.getElem?_eq_getElem hj']
   have h2:ys[j]?=some (ys.getD j .undef):=by simp [List.getD,List.getElem?_eq_getElem (show j<ys.length by omega)]
   exact ih j _ _ h1 h2) hS hF (fun t ht=>by
   obtain ⟨j,hj,rfl⟩:=List.mem_map.1 ht
   have hj':j<cs.length:=List.mem_range.1 hj
   have h1:cs[j]?=some (cs.getD j .undef):=by simp [List.getD,List.getElem?_eq_getElem hj']
   exact hrl.2 j _ _ (gH h1) (by simp [show j<vs.size by omega]))
  refine ⟨G1,s1,q1,q2,.agg ys vs (by omega) fun j c v hc hv=>?_,q4,q5⟩
  have hj':j<ys.length:=(List.getElem?_eq_some_iff.1 hc).1
  have:=q3 _ (List.mem_map.2 ⟨j,List.mem_range.2 (show j<cs.length by omega),rfl⟩)
  have e1:ys.getD j .undef=c:=by simp [List.getD,hc]
  have e2:vs.getD j undef=v:=by rw [Array.getD_eq_getD_getElem?,hv]; rfl
  simp only [e1,e2] at this
  exact this
 | row g sz off len es st ys hg hst hD hle hl hz _ ih=>
  intro G s w u hS hF hr
  have hsg:∃ st',(st'=.live∨st'=.frz)∧s.h g=some (.row sz es st' none):=by
   rcases hF g with hF | ⟨_,sz',es',st',_,h1,h2⟩
   ·exact ⟨st,hst,hF.trans hg⟩
   ·rw [hg] at h1; injection h1 with h1; injection h1 with q1 q2 q3 q4
    subst q1; subst q2
    exact ⟨.frz,.inr rfl,h2⟩
  obtain ⟨st',hst',hsg⟩:=hsg
  have hfz:fz1 (.row g sz off len) s=some (.sl (aP ((es.drop off).take len)) false,{ s with h:=upd s.h g (some (.row sz es .frz none)) }):=by
   simp only [fz1,hsg]
   rw [if_pos (by simp [hle,hst'])]
  obtain ⟨G1,q1,q2,q3⟩:=qn hfz (by simpa [norm] using hr) hS
  have hF1:FzH D s.h (upd s.h g (some (.row sz es .frz none))):=fun k=>by
   by_cases hk:k=g
   ·subst hk; exact .inr ⟨hD,sz,es,st',hst',hsg,af⟩
   ·exact .inl (ad hk)
  have hget:∀ (i:Nat) (e:List AV),i<len→es[off+i]?=some e→(aP ((es.drop off).take len))[i]?=some (aQ e):=fun i e hi he=>tw (by rw [List.getElem?_take_of_lt hi,List.getElem?_drop]; exact he)
  have hlenE:(aP ((es.drop off).take len)).length=len:=by rw [kN]; simp; omega
  generalize hE:aP ((es.drop off).take len)=E at q3 hget hlenE
  cases q3 with
  | sl _ _ a cap b o sz' f hc hf' ha hz' hm hrep hb=>
   have hes:∀ i,i<len→∃ e,es[off+i]?=some e:=fun i hi=>⟨es[off+i],List.getElem?_eq_getElem (by omega)⟩
   have hys:∀ i,i<len→∃ y,ys[i]?=some y:=fun i hi=>⟨ys[i],List.getElem?_eq_getElem (by omega)⟩
   obtain ⟨G2,s2,r1,r2,r3,r4,r5⟩:=mM (h:=h) (D:=D) (w:=w) ((List.range len).flatMap fun i=>(List.range (ys.getD i []).length).map fun j=>((es.getD (off+i) []).getD j .undef,(ys.getD i []).getD j .undef,f i j)) G1 _ (fun t ht=>by
    obtain ⟨i,hi,ht⟩:=List.mem_flatMap.1 ht
    obtain ⟨j,hj,rfl⟩:=List.mem_map.1 ht
    have hi':i<len:=List.mem_range.1 hi
    obtain ⟨e,he⟩:=hes i hi'
    obtain ⟨y,hy⟩:=hys i hi'
    have e1:es.getD (off+i) []=e:=by simp [List.getD,he]
    have e2:ys.getD i []=y:=by simp [List.getD,hy]
    rw [e2] at hj
    have hj':j<y.length:=List.mem_range.1 hj
    have hjz:=hz i e y he hy
    simp only [e1,e2]
    exact ih i j e y _ _ he hy (by simp [List.getD,List.getElem?_eq_getElem (show j<e.length by omega)]) (by simp [List.getD,List.getElem?_eq_getElem hj'])) q2 (hF.trans hF1) (fun t ht=>by
    obtain ⟨i,hi,ht⟩:=List.mem_flatMap.1 ht
    obtain ⟨j,hj,rfl⟩:=List.mem_map.1 ht
    have hi':i<len:=List.mem_range.1 hi
    obtain ⟨e,he⟩:=hes i hi'
    obtain ⟨y,hy⟩:=hys i hi'
    have e1:es.getD (off+i) []=e:=by simp [List.getD,he]
    have e2:ys.getD i []=y:=by simp [List.getD,hy]
    rw [e2] at hj
    have hj':j<y.length:=List.mem_range.1 hj
    have hjz:=hz i e y he hy
    simp only [e1]
    have hce:e[j]?=some (e.getD j .undef):=by simp [List.getD,List.getElem?_eq_getElem (show j<e.length by omega)]
    exact hrep i (aQ e) j _ (hget i e hi' he) (gH hce))
   have hys':ys.length=E.length:=by omega
   refine ⟨G2,s2,q1.trans r1,r2,?_,r4,hF1.trans r5⟩
   rw [←hys']
   refine .sl ys false a cap b o sz' f (by omega) (by simp) (fun hne=>ha ?_) ?_ ?_ ?_ (by omega)
   ·intro e0; apply hne; exact List.length_eq_zero_iff.1 (by rw [hys',e0]; rfl)
   ·intro i y hy
    have hi':i<len:=by rw [←hl]; exact (List.getElem?_eq_some_iff.1 hy).1
    obtain ⟨e,he⟩:=hes i hi'
    have:=hz' i _ (hget i e hi' he)
    rw [ft] at this
    rw [←hz i e y he hy]; exact this
   ·intro i y j c hy hj
    have hi':i<len:=by rw [←hl]; exact (List.getElem?_eq_some_iff.1 hy).1
    obtain ⟨e,he⟩:=hes i hi'
    have hj':j<y.length:=(List.getElem?_eq_some_iff.1 hj).1
    have hjz:=hz i e y he hy
    have hce:e[j]?=some (e.getD j .undef):=by simp [List.getD,List.getElem?_eq_getElem (show j<e.length by omega)]
    exact r1.le.mem _ _ _ (hm i (aQ e) j _ (hget i e hi' he) (gH hce))
   ·intro i y j c hy hj
    have hi':i<len:=by rw [←hl]; exact (List.getElem?_eq_some_iff.1 hy).1
    have hj':j<y.length:=(List.getElem?_eq_some_iff.1 hj).1
    have e2:ys.getD i []=y:=by simp [List.getD,hy]
    have:=r3 _ (List.mem_flatMap.2 ⟨i,List.mem_range.2 hi',List.mem_map.2 ⟨j,List.mem_range.2 (by rw [e2]; exact hj'),rfl⟩⟩)
    simp only [e2] at this
    have e3:y.getD j .undef=c:=by simp [List.getD,hj]
    rw [e3] at this
    exact this
theorem ACalls.deep {P:Program} {f:FuncId} {args:List AV} {s:St} {R R':AV→St→Prop} (D:Nat→Prop) (hp:ACalls P f args s R) (hr:∀ av s',R av s'→∃ y,Frz s'.h D av y∧∀ h'',FzH D s'.h h''→R' y ⟨h'',s'.c⟩):ACalls P f args s R':=by
 intro G w vs hS hv
 refine (hp G w vs hS hv).mono fun v w' ⟨av,G',s',h1,h2,h3,h4⟩=>?_
 obtain ⟨y,hy,hR⟩:=hr av s' h4
 obtain ⟨G2,s2,q1,q2,q3,q4,q5⟩:=hy.ok G' s' w' v h2 (FzH.refl D _) (iD _ _ h3)
 refine ⟨y,G2,s2,h1.trans q1,q2,q3,?_⟩
 have:=hR s2.h q5
 rw [←q4] at this
 exact this
end Go.AM
namespace Go.AM
def dropF (c0:Nat) (h:Heap):Heap:=fun k=>match h k with
 | some (.row sz es st (some p))=>if c0≤k then none else some (.row sz es st (some p))
 | b=>b
theorem dR {c0 k:Nat} {h:Heap} {b:Body} (hb:dropF c0 h k=some b):h k=some b∧(k<c0∨∀ sz es st p,b≠.row sz es st (some p)):=by
 unfold dropF at hb
 split at hb
 ·rename_i sz es st p hk
  split at hb
  ·cases hb
  ·injection hb with hb; subst hb
   exact ⟨hk,.inl (by omega)⟩
 ·rename_i b' hb'
  refine ⟨hb,.inr fun sz es st p e=>?_⟩
  subst e
  exact hb' _ _ _ _ hb
theorem fk {c0 k:Nat} {h:Heap} (hk:k<c0):dropF c0 h k=h k:=by
 unfold dropF
 split
 ·rename_i sz es st p hh
  rw [if_neg (by omega),hh]
 ·rfl
theorem jO {c0 k:Nat} {h:Heap} (hk:∀ sz es st p,h k≠some (.row sz es st (some p))):dropF c0 h k=h k:=by
 unfold dropF
 split
 ·rename_i sz es st p hh; exact absurd hh (hk _ _ _ _)
 ·rfl
theorem sd {c0 k:Nat} {h:Heap} (hc:c0≤k) {sz:Nat} {es:List (List AV)} {st:RSt} {p:Nat} (hk:h k=some (.row sz es st (some p))):dropF c0 h k=none:=by
 unfold dropF; rw [hk]; simp [hc]
theorem Sim.dropF {G:Gh} {s:St} {w:World} (hS:Sim G s w) (c0:Nat):Sim G ⟨dropF c0 s.h,s.c⟩ w:=by
 refine ⟨hS.mem,hS.dom,fun g b hg=>?_,fun i j bi bj li lj hij hi hj hli hlj hb h1 h2=>?_⟩
 ·obtain ⟨h1,_⟩:=dR hg
  obtain ⟨l,h2,h3⟩:=hS.blk g b h1
  refine ⟨l,h2,?_⟩
  cases b with
  | row sz es st par=>exact h3
  | map kv ver=>exact h3
  | iter m ver done=>
   obtain ⟨q1,q2,lm,since,last,seen,q3,q4,q5⟩:=h3
   exact ⟨q1,q2,lm,since,last,seen,q3,q4,fun kv hkv=>q5 kv (dR hkv).1⟩
 ·obtain ⟨hi',_⟩:=dR hi
  obtain ⟨hj',hjc⟩:=dR hj
  obtain ⟨sz,k,es,par,q1,q2,⟨sz',es',st',par',lk,q3,q4⟩,sz2,es2,st2,p,q5,q6⟩:=hS.ov i j bi bj li lj hij hi' hj' hli hlj hb h1 h2
  have hjc':j<c0:=by
   rcases hjc with h | h
   ·exact h
   ·rw [q5] at hj'; injection hj' with hj'; exact absurd hj'.symm (h _ _ _ _)
  exact ⟨sz,k,es,par,(fk (by omega)).trans q1,q2,⟨sz',es',st',par',lk,(fk (by omega)).trans q3,q4⟩,sz2,es2,st2,p,(fk hjc').trans q5,q6⟩
theorem Stp.dropF {G:Gh} {s:St} {w:World} (c0:Nat):Stp G s w G ⟨AM.dropF c0 s.h,s.c⟩ w:=
 ⟨.refl G,Nat.le_refl _,rfl,rfl,rfl,Nat.le_refl _,fun _ _ _=>rfl,fun b _ ⟨g,body,l,h1,h2⟩=>⟨g,body,l,(dR h1).1,h2⟩⟩
theorem ACalls.dropF {P:Program} {f:FuncId} {args:List AV} {s:St} {R R':AV→St→Prop} (c0:Nat) (hp:ACalls P f args s R) (hr:∀ av s',s.c≤s'.c→R av s'→R' av ⟨AM.dropF c0 s'.h,s'.c⟩):ACalls P f args s R':=by
 intro G w vs hS hv
 refine (hp G w vs hS hv).mono fun v w' ⟨av,G',s',h1,h2,h3,h4⟩=>?_
 exact ⟨av,G',_,h1.trans (Stp.dropF c0),h2.dropF c0,h3,hr av s' h1.c h4⟩
theorem ACalls.clean {P:Program} {f:FuncId} {args:List AV} {s:St} {R:AV→St→Prop} (h:(∀ k,s.c≤k→s.h k=none)→ACalls P f args s R):ACalls P f args s R:=by
 intro G w vs hS hv
 refine h (fun k hk=>?_) G w vs hS hv
 cases hh:s.h k with
 | none=>rfl
 | some b=>have:=hS.hLt hh; omega
end Go.AM
namespace Go.AM
abbrev Om (d s:Nat):AO:=⟨some d,none,.plain,.mv (.t s),[]⟩
abbrev Oc (d:Nat) (a:AV):AO:=⟨some d,none,.plain,.mv (.c a),[]⟩
abbrev Oo (d:Nat) (i:I):AO:=⟨some d,none,.plain,i,[]⟩
abbrev Ow (i:I):AO:=⟨none,none,.plain,i,[]⟩
abbrev Og (d t:Nat) (i:I):AO:=⟨some d,some (t,true),.plain,i,[]⟩
abbrev Oh (d t s:Nat):AO:=⟨some d,some (t,true),.plain,.mv (.t s),[]⟩
abbrev Ol (d s:Nat):AO:=⟨some d,none,.plain,.ld none (.t s),[]⟩
abbrev Of (d k s:Nat):AO:=⟨some d,none,.plain,.fa k (.t s),[]⟩
abbrev On (d s:Nat):AO:=⟨some d,none,.plain,.nc (.t s),[]⟩
abbrev Oe (d s:Nat):AO:=⟨some d,none,.plain,.len 1 (.t s),[]⟩
abbrev aj (P:Program) (n:FuncId) (ac:AC) (r:List RX):Prop:=∀ {args:List AV} {s:St} {R:AV→St→Prop} (q:RM),acW P ac (ma q r s R) (nP args) s→ACalls P n args s R
abbrev Sq (l:List AO) (a:AC):AC:=.seq (.ops l) a
abbrev Pmd:Tmp→Md:=fun _=>.plain
abbrev Ppl:Nat→PL:=fun _=>.one []
end Go.AM
