/- Part of the claim: see its last text. -/
import Derived.Test.YtjhogglgkjcacaaGreatMa7
set_option linter.all false
namespace Go.AM
theorem qI (vs:List Value):∀ (cells:Array Value) (off k:Nat),off+k+vs.length≤cells.size →
  ((vs.zipIdx k).foldl (fun cs (c:Value×Nat)=>cs.setIfInBounds (off+c.2) c.1) cells).toList=cells.toList.take (off+k)++vs++cells.toList.drop (off+k+vs.length):=by
 induction vs with
 | nil=>intro cells off k h; simp
 | cons v vs ih=>
  intro cells off k h
  simp only [List.zipIdx_cons,List.foldl_cons]
  simp only [List.length_cons] at h
  rw [ih _ off (k+1) (by simp; omega)]
  have hlt:off+k<cells.size:=by omega
  have:=list_seg_step cells.toList (off+k) v vs (by simp; omega)
  simpa [Array.toList_setIfInBounds,Nat.add_assoc] using this
theorem rk {G:Gh} (place:Nat→Option (Nat×Nat)):∀ (ps:List (Nat×Nat×AV)) (qs:List (Nat×Value)) (cs cs':List AV) (cells:Array Value),
  aM cs ps=some cs'→ps.length=qs.length→(∀ (k:Nat) p q,ps[k]?=some p→qs[k]?=some q→place q.1=some (p.1,p.2.1)∧Rep G p.2.2 q.2)→RepL G cs cells.toList →
  ∃ cells',Instr.fill place cells qs=some cells'∧RepL G cs' cells'.toList
 | [],qs,cs,cs',cells,h,hl,hp,hr=>by
  cases qs with
  | nil=>simp [aM] at h; subst h; exact ⟨cells,rfl,hr⟩
  | cons q qs=>simp at hl
 | (o,n,v)::ps,qs,cs,cs',cells,h,hl,hp,hr=>by
  cases qs with
  | nil=>simp at hl
  | cons q qs=>
   simp only [aM] at h
   split at h
   ·rename_i hc
    obtain ⟨hn,hall,hfit⟩:=hc
    obtain ⟨hpl,hrep⟩:=hp 0 _ _ rfl rfl
    have hrl:=hrep.cellsOf hall
    have hsz:q.2.cells.size=n:=by have:=hrl.1; simp at this; omega
    have hcl:cs.length=cells.size:=by have:=hr.1; simpa using this
    have hz:=qI q.2.cells.toList cells o 0 (by simp; omega)
    simp only [Nat.add_zero] at hz
    have hr':RepL G (di cs o v.cells) (q.2.cells.zipIdx.foldl (fun cs (c:Value×Nat)=>cs.setIfInBounds (o+c.2) c.1) cells).toList:=by
     have e:(q.2.cells.zipIdx.foldl (fun cs (c:Value×Nat)=>cs.setIfInBounds (o+c.2) c.1) cells)=((q.2.cells.toList.zipIdx 0).foldl (fun cs (c:Value×Nat)=>cs.setIfInBounds (o+c.2) c.1) cells):=by
      rw [←Array.foldl_toList]; simp
     rw [e,hz]
     exact lX hr hrl
    obtain ⟨cells',h1,h2⟩:=rk place ps qs _ _ _ h (by simpa using hl) (fun k p q hk hq=>hp (k+1) p q (by simpa using hk) (by simpa using hq)) hr'
    refine ⟨cells',?_,h2⟩
    obtain ⟨qi,qv⟩:=q
    simp only [Instr.fill,hpl]
    rw [if_neg (by simp at hsz ⊢; omega)]
    exact h1
   ·cases h
def n7 (P:Program) (t:TypeId):Option (List (Nat×Nat)):=match P.underlying t with
 | some (.struct fields)=>fields.toList.mapM fun f=>(P.info? f.type).map fun i=>(f.offset,i.size)
 | _=>none
theorem xr {P:Program} {G:Gh} {s:St} {w:World} {t:TypeId} {zs:List AV} {i:TypeInfo} {pl:List (Nat×Nat)} (hz:eU P t=some (zs,i)) (hzo:zs.all AV.cell=true) (hp:n7 P t=some pl) {ps:List (Nat×Nat×AV)} {qs:Array (Nat×Value)} {cs:List AV}
  (h:aM zs ps=some cs) (hl:ps.length=qs.size) (hq:∀ (k:Nat) p q,ps[k]?=some p→qs[k]?=some q→pl[q.1]?=some (p.1,p.2.1)∧Rep G p.2.2 q.2) (hS:Sim G s w):Out P (Instr.build t qs) G s w (.agg cs) s:=by
 obtain ⟨hi,z,hz0,rfl⟩:=dP hz
 have hrl:=(ff G z).cellsOf hzo
 unfold n7 at hp
 split at hp
 ·rename_i fields hu
  have hrun:=run_places (P:=P) w fields.toList pl hp
  obtain ⟨cells',h1,h2⟩:=rk (fun k=>pl[k]?) ps qs.toList _ cs z.cells h (by simpa using hl) (fun k p q hk hq'=>hq k p q hk (by simpa using hq')) hrl
  refine .quiet hS (v:=.agg cells') ?_ ?_
  ·have hm:(fields.mapM fun (f:Field)=>Prod.mk f.offset <$> sizeOf f.type).run P w=.ok pl.toArray w:=by
    rw [Array.mapM_eq_mapM_toList]
    simp [hrun]
   simp only [Instr.build,zeroValue,Sem.run_bind,run_typeInfo w hi,Result.andThen_ok,hz0,Sem.run_pure,run_underlying hu]
   have hm':(fields.mapM fun (f:Field)=>do pure (f.offset,←sizeOf f.type)).run P w=.ok pl.toArray w:=by
    have e:(fun f:Field=>(do pure (f.offset,←sizeOf f.type):Sem (Nat×Nat)))=fun (f:Field)=>Prod.mk f.offset <$> sizeOf f.type:=by
     funext f; simp
    rw [e]; exact hm
   rw [hm']
   simp [h1]
  ·have:=h2.toAgg
   simpa using this
 ·cases hp
theorem eh {G:Gh} {s:St} {w:World} (hS:Sim G s w) {x:AV} {v:Value} {xs:List (List AV)} {sz:Nat} (h:s.show_ x=some xs) (hr:Rep G x v) (ho:xs.all (aB sz)=true) (hsz:∀ g z o l,x=.row g z o l→z=sz) :
  ∃ (a:Option Addr) (cap:Nat) (vs:List Value),v=.slice a xs.length cap∧xs.length≤cap∧Flat G sz xs vs∧(xs≠[]→∃ b o,a=some ⟨b,o,none⟩∧pD w b o vs):=by
 unfold St.show_ at h
 split at h
 ·rename_i g z off len
  split at h
  ·rename_i sz' es st par hg
   split at h
   ·rename_i hle
    injection h with h; subst h
    have hz:=hsz _ _ _ _ rfl
    subst hz
    cases hr with
    | row _ _ _ l a hl hc ha=>
     obtain ⟨l',hl',hb1,hb2,hb3,hb4⟩:=hS.blk g _ hg
     rw [hl] at hl'; injection hl' with e1; subst e1
     have hlen:((es.drop off).take len).length=len:=by simp; omega
     by_cases h0:len=0
     ·subst h0
      refine ⟨a,l.cap-off,[],by simp,by simp,by simpa using Flat.nil G _,fun hne=>absurd (by simp) hne⟩
     ·have hcap:0<l.cap:=by omega
      obtain ⟨C,ty,hC,hsz',hf⟩:=hb3.flat hcap
      refine ⟨a,l.cap-off,((C.toList.take (es.length*l.sz)).drop (off*l.sz)).take (len*l.sz),by rw [hlen],by rw [hlen]; omega,(hf.drop off).take len,fun _=>⟨l.b,off*l.sz,ha (by omega),?_⟩⟩
      intro j v hj
      rw [lz hC]
      rw [List.getElem?_take] at hj
      split at hj
      ·rw [List.getElem?_drop,List.getElem?_take] at hj
       split at hj
       ·simpa using hj
       ·cases hj
      ·cases hj
   ·cases h
  ·cases h
 ·rename_i es full
  injection h with h; subst h
  cases hr with
  | sl _ _ a cap b o sz' f hc hf ha hz hm hrep=>
   have hall:∀ (i:Nat) (x:List AV),es[i]?=some x→aB sz x=true:=fun i x hx=>List.all_eq_true.1 ho x (List.mem_of_getElem? hx)
   have hk0:es≠[]→sz'=sz:=by
    intro hne
    obtain ⟨x,hx⟩:∃ x,es[0]?=some x:=⟨es[0]'(List.length_pos_iff.2 hne),List.getElem?_eq_getElem _⟩
    rw [←hz 0 x hx]; exact (bJ (hall 0 x hx)).1
   have hcell:∀ (i:Nat) (x:List AV),es[i]?=some x→∀ (j:Nat) (a:AV),x[j]?=some a→i*sz+j<es.length*sz∧(i*sz+j) / sz=i∧(i*sz+j) % sz=j:=by
    intro i x hx j a ha
    have hi:i<es.length:=(List.getElem?_eq_some_iff.1 hx).1
    have hj:j<sz:=by rw [←(bJ (hall i x hx)).1]; exact (List.getElem?_eq_some_iff.1 ha).1
    have:=Nat.mul_le_mul_right sz (show i+1≤es.length by omega)
    rw [Nat.add_mul] at this
    refine ⟨by omega,?_,?_⟩
    ·rw [Nat.mul_comm,Nat.mul_add_div (by omega),Nat.div_eq_of_lt hj,Nat.add_zero]
    ·rw [Nat.mul_comm,Nat.mul_add_mod,Nat.mod_eq_of_lt hj]
   refine ⟨a,cap,(List.range (es.length*sz)).map (fun k=>f (k / sz) (k % sz)),rfl,hc,⟨by simp,fun i x hx=>⟨(bJ (hall i x hx)).1,fun j c hj=>?_⟩⟩,fun hne=>⟨b,o,ha hne,?_⟩⟩
   ·obtain ⟨h1,h2,h3⟩:=hcell i x hx j c hj
    refine ⟨List.all_eq_true.1 (bJ (hall i x hx)).2 c (List.mem_of_getElem? hj),f i j,?_,hrep i x j c hx hj⟩
    simp [List.getElem?_map,List.getElem?_range h1,h2,h3]
   ·intro k v hk
    have hlt:k<es.length*sz:=by have:=(List.getElem?_eq_some_iff.1 hk).1; simpa using this
    simp [List.getElem?_map,List.getElem?_range hlt] at hk
    subst hk
    have hpos:0<sz:=by
     rcases Nat.eq_zero_or_pos sz with h | h
     ·subst h; omega
     ·exact h
    have hi:k / sz<es.length:=by rw [Nat.div_lt_iff_lt_mul hpos]; exact hlt
    have hx:=List.getElem?_eq_getElem hi
    have hj:k % sz<(es[k / sz]).length:=by rw [(bJ (hall _ _ hx)).1]; exact Nat.mod_lt _ hpos
    have:=hS.mem _ _ _ (hm _ _ _ _ hx (List.getElem?_eq_getElem hj))
    rw [hk0 hne] at this
    rw [show o+k / sz*sz+k % sz=o+k by rw [Nat.add_assoc,Nat.mul_comm,Nat.div_add_mod]] at this
    exact this
 ·cases h
theorem fw {P:Program} {G:Gh} {w:World} {xs:List (List AV)} {sz:Nat} {a:Option Addr} {len cap:Nat} {vs:List Value} (hf:Flat G sz xs vs) (ha:xs≠[]→∃ b o,a=some ⟨b,o,none⟩∧pD w b o vs) :
  (Builtin.firstCells sz xs.length (.slice a len cap)).run P w=.ok vs.toArray w:=by
 by_cases hne:xs=[]
 ·subst hne
  have:vs=[]:=by have:=hf.1; simpa using this
  subst this
  cases a with
  | none=>simp [Builtin.firstCells]
  | some a=>simp [Builtin.firstCells,loadCells,loadCellsFrom]
 ·obtain ⟨b,o,rfl,hl⟩:=ha hne
  exact run_firstCells_some w sz xs.length _ len cap vs hf.1 (fun j v hj=>by rw [er]; exact hl j v hj)
theorem ku {zc:Array Value} {n k:Nat} (h0:0<zc.size) (hk:k<n*zc.size):(Builtin.zeroCells zc n)[k]?=zc[k % zc.size]?:=by
 unfold Builtin.zeroCells
 have hlt:k % zc.size<zc.size:=Nat.mod_lt _ h0
 simp [hk,hlt]
theorem fP {vs:List Value} (h0:0<vs.length):∀ (n k:Nat) (v:Value),(List.replicate n vs).flatten[k]?=some v→k<n*vs.length∧vs[k % vs.length]?=some v
 | 0,k,v,h=>by simp at h
 | n+1,k,v,h=>by
  rw [List.replicate_succ,List.flatten_cons,List.getElem?_append] at h
  split at h
  ·rename_i hk
   rw [Nat.mod_eq_of_lt hk]
   exact ⟨by rw [Nat.add_mul]; omega,h⟩
  ·rename_i hk
   obtain ⟨h1,h2⟩:=fP h0 n (k-vs.length) v h
   refine ⟨by rw [Nat.add_mul]; omega,?_⟩
   rw [←h2]
   congr 1
   have:k=(k-vs.length)+vs.length:=by omega
   conv=>lhs; rw [this,Nat.add_mod_right]
theorem xV {P:Program} {G:Gh} {s s':St} {w:World} {t e:TypeId} {i:TypeInfo} {zs:List AV} (ht:dJ P t=some (e,i)) (hz:eU P e=some (zs,i)) {l c av:AV} {x y:Value} (h:msI i.size zs i.bytes l c s=some (av,s'))
  (hl:Rep G l x) (hc:Rep G c y) (hS:Sim G s w):Out P (Instr.makeSlice t x y) G s w av s':=by
 obtain ⟨hu,hi⟩:=dn ht
 obtain ⟨_,z,hz0,rfl⟩:=dP hz
 unfold msI at h
 split at h
 ·rename_i ln cn h1 h2
  obtain ⟨k1,rfl⟩:=iw h1 hl
  obtain ⟨k2,rfl⟩:=iw h2 hc
  split at h
  ·rename_i hcond
   obtain ⟨hpos,hok,hl0,hlc,hmax,hbyt⟩:=hcond
   have hb:cn*i.bytes≤281474976710656:=Int.le_trans (Int.mul_le_mul hmax (Int.ofNat_le.2 hbyt) (by omega) (by omega)) (by decide)
   injection h with h; injection h with e1 e2; subst e1; subst e2
   obtain ⟨hrl,hzs⟩:=gA (G:=G) hok
   have hw1:IntKind.i64.wrap ln=ln:=by simp [IntKind.wrap,IntKind.bits,IntKind.signed]; omega
   have hw2:IntKind.i64.wrap cn=cn:=by simp [IntKind.wrap,IntKind.bits,IntKind.signed]; omega
   obtain ⟨h3,h4⟩:=fF hS (cap:=cn.toNat) (es:=List.replicate ln.toNat (ofValue z).cells) (C:=Builtin.zeroCells z.cells cn.toNat) (e:=e) (vs:=(List.replicate ln.toNat z.cells.toList).flatten) hpos
    (by simp [Builtin.zeroCells,hzs]) (by simp; omega) (Flat.replicate hok hrl _) (fun j v hj=>by
     obtain ⟨hj1,hj2⟩:=fP (by simp; omega) _ _ _ hj
     simp only [Array.length_toList] at hj1 hj2
     rw [ku (by omega) (by
      have:=Nat.mul_le_mul_right z.cells.size (show ln.toNat≤cn.toNat by omega)
      omega)]
     simpa using hj2)
   refine ⟨.slice (some ⟨w.heap.size,0,none⟩) ln.toNat cn.toNat,_,_,?_,h4,h3,eR hS (by omega) (by omega)⟩
   have hb':¬(281474976710656:Int)<↑i.bytes*cn:=by rw [Int.mul_comm]; omega
   have hcn:¬cn<0:=by omega
   have hln:¬ln<0:=by omega
   have hcl:¬cn<ln:=by omega
   by_cases hc0:cn.toNat*i.size=0
   ·have hcz:cn.toNat=0:=by
     rcases Nat.mul_eq_zero.1 hc0 with h | h
     ·exact h
     ·omega
    simp [Instr.makeSlice,run_underlying hu,asInt,asIntOf,run_typeInfo w hi,hw1,hw2,hb',hcn,hln,hcl,sizeOf,hcz,Go.newRow,Builtin.zeroCells]
    rw [show Array.range 0=#[] by simp [Array.range]]; simp
   ·simp [Instr.makeSlice,run_underlying hu,asInt,asIntOf,run_typeInfo w hi,hw1,hw2,hb',hcn,hln,hcl,sizeOf,hc0,zeroValue,hz0,Go.newRow,Builtin.zeroCells,hzs]
  ·cases h
 ·cases h
end Go.AM
