/- Part of the claim: see its last text. -/
import Derived.Test.YtjhogglgkjcacaaGreatMa4
set_option linter.all false
namespace Go.AM
theorem qY (vs:List Value):∀ (cells:Array Value) (off k:Nat),off+k+vs.length≤cells.size →
  ((vs.zipIdx k).foldl (fun cs (c:Value×Nat)=>cs.setIfInBounds (off+c.2) c.1) cells).toList=cells.toList.take (off+k)++vs++cells.toList.drop (off+k+vs.length):=by
 induction vs with
 | nil=>intro cells off k h; simp
 | cons v vs ih=>
  intro cells off k h
  simp only [List.zipIdx_cons,List.foldl_cons]
  simp only [List.length_cons] at h
  rw [ih _ off (k+1) (by simp; omega)]
  have hlt:off+k<cells.size:=by omega
  have:=list_seg_step cells.toList (off+k) v vs (by simp; omega)
  simpa [Array.toList_setIfInBounds,Nat.add_assoc] using this
theorem rO {G:Gh} (place:Nat→Option (Nat×Nat)):∀ (ps:List (Nat×Nat×AV)) (qs:List (Nat×Value)) (cs cs':List AV) (cells:Array Value),
  aI cs ps=some cs'→ps.length=qs.length→(∀ (k:Nat) p q,ps[k]?=some p→qs[k]?=some q→place q.1=some (p.1,p.2.1)∧Rep G p.2.2 q.2)→RepL G cs cells.toList →
  ∃ cells',Instr.fill place cells qs=some cells'∧RepL G cs' cells'.toList
 | [],qs,cs,cs',cells,h,hl,hp,hr=>by
  cases qs with
  | nil=>simp [aI] at h; subst h; exact ⟨cells,rfl,hr⟩
  | cons q qs=>simp at hl
 | (o,n,v)::ps,qs,cs,cs',cells,h,hl,hp,hr=>by
  cases qs with
  | nil=>simp at hl
  | cons q qs=>
   simp only [aI] at h
   split at h
   ·rename_i hc
    obtain ⟨hn,hall,hfit⟩:=hc
    obtain ⟨hpl,hrep⟩:=hp 0 _ _ rfl rfl
    have hrl:=hrep.cellsOf hall
    have hsz:q.2.cells.size=n:=by have:=hrl.1; simp at this; omega
    have hcl:cs.length=cells.size:=by have:=hr.1; simpa using this
    have hz:=qY q.2.cells.toList cells o 0 (by simp; omega)
    simp only [Nat.add_zero] at hz
    have hr':RepL G (cZ cs o v.cells) (q.2.cells.zipIdx.foldl (fun cs (c:Value×Nat)=>cs.setIfInBounds (o+c.2) c.1) cells).toList:=by
     have e:(q.2.cells.zipIdx.foldl (fun cs (c:Value×Nat)=>cs.setIfInBounds (o+c.2) c.1) cells)=((q.2.cells.toList.zipIdx 0).foldl (fun cs (c:Value×Nat)=>cs.setIfInBounds (o+c.2) c.1) cells):=by
      rw [←Array.foldl_toList]; simp
     rw [e,hz]
     exact lU hr hrl
    obtain ⟨cells',h1,h2⟩:=rO place ps qs _ _ _ h (by simpa using hl) (fun k p q hk hq=>hp (k+1) p q (by simpa using hk) (by simpa using hq)) hr'
    refine ⟨cells',?_,h2⟩
    obtain ⟨qi,qv⟩:=q
    simp only [Instr.fill,hpl]
    rw [if_neg (by simp at hsz ⊢; omega)]
    exact h1
   ·cases h
def oJ (P:Program) (t:TypeId):Option (List (Nat×Nat)):=match P.underlying t with
 | some (.struct fields)=>fields.toList.mapM fun f=>(P.info? f.type).map fun i=>(f.offset,i.size)
 | _=>none
theorem xC {P:Program} {G:Gh} {s:St} {w:World} {t:TypeId} {zs:List AV} {i:TypeInfo} {pl:List (Nat×Nat)} (hz:eK P t=some (zs,i)) (hzo:zs.all AV.cell=true) (hp:oJ P t=some pl) {ps:List (Nat×Nat×AV)} {qs:Array (Nat×Value)} {cs:List AV}
  (h:aI zs ps=some cs) (hl:ps.length=qs.size) (hq:∀ (k:Nat) p q,ps[k]?=some p→qs[k]?=some q→pl[q.1]?=some (p.1,p.2.1)∧Rep G p.2.2 q.2) (hS:Sim G s w):Out P (Instr.build t qs) G s w (.agg cs) s:=by
 obtain ⟨hi,z,hz0,rfl⟩:=dF hz
 have hrl:=(eT G z).cellsOf hzo
 unfold oJ at hp
 split at hp
 ·rename_i fields hu
  have hrun:=run_places (P:=P) w fields.toList pl hp
  obtain ⟨cells',h1,h2⟩:=rO (fun k=>pl[k]?) ps qs.toList _ cs z.cells h (by simpa using hl) (fun k p q hk hq'=>hq k p q hk (by simpa using hq')) hrl
  refine .quiet hS (v:=.agg cells') ?_ ?_
  ·have hm:(fields.mapM fun (f:Field)=>Prod.mk f.offset <$> sizeOf f.type).run P w=.ok pl.toArray w:=by
    rw [Array.mapM_eq_mapM_toList]
    simp [hrun]
   simp only [Instr.build,zeroValue,Sem.run_bind,run_typeInfo w hi,Result.andThen_ok,hz0,Sem.run_pure,run_underlying hu]
   have hm':(fields.mapM fun (f:Field)=>do pure (f.offset,←sizeOf f.type)).run P w=.ok pl.toArray w:=by
    have e:(fun f:Field=>(do pure (f.offset,←sizeOf f.type):Sem (Nat×Nat)))=fun (f:Field)=>Prod.mk f.offset <$> sizeOf f.type:=by
     funext f; simp
    rw [e]; exact hm
   rw [hm']
   simp [h1]
  ·have:=h2.toAgg
   simpa using this
 ·cases hp
theorem dV {G:Gh} {s:St} {w:World} (hS:Sim G s w) {x:AV} {v:Value} {xs:List (List AV)} {sz:Nat} (h:s.show_ x=some xs) (hr:Rep G x v) (ho:xs.all (aA sz)=true) (hsz:∀ g z o l,x=.row g z o l→z=sz) :
  ∃ (a:Option Addr) (cap:Nat) (vs:List Value),v=.slice a xs.length cap∧xs.length≤cap∧Flat G sz xs vs∧(xs≠[]→∃ b o,a=some ⟨b,o,none⟩∧pS w b o vs):=by
 unfold St.show_ at h
 split at h
 ·rename_i g z off len
  split at h
  ·rename_i sz' es st par hg
   split at h
   ·rename_i hle
    injection h with h; subst h
    have hz:=hsz _ _ _ _ rfl
    subst hz
    cases hr with
    | row _ _ _ l a hl hc ha=>
     obtain ⟨l',hl',hb1,hb2,hb3,hb4⟩:=hS.blk g _ hg
     rw [hl] at hl'; injection hl' with e1; subst e1
     have hlen:((es.drop off).take len).length=len:=by simp; omega
     by_cases h0:len=0
     ·subst h0
      refine ⟨a,l.cap-off,[],by simp,by simp,by simpa using Flat.nil G _,fun hne=>absurd (by simp) hne⟩
     ·have hcap:0<l.cap:=by omega
      obtain ⟨C,ty,hC,hsz',hf⟩:=hb3.flat hcap
      refine ⟨a,l.cap-off,((C.toList.take (es.length*l.sz)).drop (off*l.sz)).take (len*l.sz),by rw [hlen],by rw [hlen]; omega,(hf.drop off).take len,fun _=>⟨l.b,off*l.sz,ha (by omega),?_⟩⟩
      intro j v hj
      rw [lq hC]
      rw [List.getElem?_take] at hj
      split at hj
      ·rw [List.getElem?_drop,List.getElem?_take] at hj
       split at hj
       ·simpa using hj
       ·cases hj
      ·cases hj
   ·cases h
  ·cases h
 ·rename_i es full
  injection h with h; subst h
  cases hr with
  | sl _ _ a cap b o sz' f hc hf ha hz hm hrep=>
   have hall:∀ (i:Nat) (x:List AV),es[i]?=some x→aA sz x=true:=fun i x hx=>List.all_eq_true.1 ho x (List.mem_of_getElem? hx)
   have hk0:es≠[]→sz'=sz:=by
    intro hne
    obtain ⟨x,hx⟩:∃ x,es[0]?=some x:=⟨es[0]'(List.length_pos_iff.2 hne),List.getElem?_eq_getElem _⟩
    rw [←hz 0 x hx]; exact (bT (hall 0 x hx)).1
   have hcell:∀ (i:Nat) (x:List AV),es[i]?=some x→∀ (j:Nat) (a:AV),x[j]?=some a→i*sz+j<es.length*sz∧(i*sz+j) / sz=i∧(i*sz+j) % sz=j:=by
    intro i x hx j a ha
    have hi:i<es.length:=(List.getElem?_eq_some_iff.1 hx).1
    have hj:j<sz:=by rw [←(bT (hall i x hx)).1]; exact (List.getElem?_eq_some_iff.1 ha).1
    have:=Nat.mul_le_mul_right sz (show i+1≤es.length by omega)
    rw [Nat.add_mul] at this
    refine ⟨by omega,?_,?_⟩
    ·rw [Nat.mul_comm,Nat.mul_add_div (by omega),Nat.div_eq_of_lt hj,Nat.add_zero]
    ·rw [Nat.mul_comm,Nat.mul_add_mod,Nat.mod_eq_of_lt hj]
   refine ⟨a,cap,(List.range (es.length*sz)).map (fun k=>f (k / sz) (k % sz)),rfl,hc,⟨by simp,fun i x hx=>⟨(bT (hall i x hx)).1,fun j c hj=>?_⟩⟩,fun hne=>⟨b,o,ha hne,?_⟩⟩
   ·obtain ⟨h1,h2,h3⟩:=hcell i x hx j c hj
    refine ⟨List.all_eq_true.1 (bT (hall i x hx)).2 c (List.mem_of_getElem? hj),f i j,?_,hrep i x j c hx hj⟩
    simp [List.getElem?_map,List.getElem?_range h1,h2,h3]
   ·intro k v hk
    have hlt:k<es.length*sz:=by have:=(List.getElem?_eq_some_iff.1 hk).1; simpa using this
    simp [List.getElem?_map,List.getElem?_range hlt] at hk
    subst hk
    have hpos:0<sz:=by
     rcases Nat.eq_zero_or_pos sz with h | h
     ·subst h; omega
     ·exact h
    have hi:k / sz<es.length:=by rw [Nat.div_lt_iff_lt_mul hpos]; exact hlt
    have hx:=List.getElem?_eq_getElem hi
    have hj:k % sz<(es[k / sz]).length:=by rw [(bT (hall _ _ hx)).1]; exact Nat.mod_lt _ hpos
    have:=hS.mem _ _ _ (hm _ _ _ _ hx (List.getElem?_eq_getElem hj))
    rw [hk0 hne] at this
    rw [show o+k / sz*sz+k % sz=o+k by rw [Nat.add_assoc,Nat.mul_comm,Nat.div_add_mod]] at this
    exact this
 ·cases h
theorem fg {P:Program} {G:Gh} {w:World} {xs:List (List AV)} {sz:Nat} {a:Option Addr} {len cap:Nat} {vs:List Value} (hf:Flat G sz xs vs) (ha:xs≠[]→∃ b o,a=some ⟨b,o,none⟩∧pS w b o vs) :
  (Builtin.firstCells sz xs.length (.slice a len cap)).run P w=.ok vs.toArray w:=by
 by_cases hne:xs=[]
 ·subst hne
  have:vs=[]:=by have:=hf.1; simpa using this
  subst this
  cases a with
  | none=>simp [Builtin.firstCells]
  | some a=>simp [Builtin.firstCells,loadCells,loadCellsFrom]
 ·obtain ⟨b,o,rfl,hl⟩:=ha hne
  exact run_firstCells_some w sz xs.length _ len cap vs hf.1 (fun j v hj=>by rw [d7]; exact hl j v hj)
theorem ko {zc:Array Value} {n k:Nat} (h0:0<zc.size) (hk:k<n*zc.size):(Builtin.zeroCells zc n)[k]?=zc[k % zc.size]?:=by
 unfold Builtin.zeroCells
 have hlt:k % zc.size<zc.size:=Nat.mod_lt _ h0
 simp [hk,hlt]
theorem fB {vs:List Value} (h0:0<vs.length):∀ (n k:Nat) (v:Value),(List.replicate n vs).flatten[k]?=some v→k<n*vs.length∧vs[k % vs.length]?=some v
 | 0,k,v,h=>by simp at h
 | n+1,k,v,h=>by
  rw [List.replicate_succ,List.flatten_cons,List.getElem?_append] at h
  split at h
  ·rename_i hk
   rw [Nat.mod_eq_of_lt hk]
   exact ⟨by rw [Nat.add_mul]; omega,h⟩
  ·rename_i hk
   obtain ⟨h1,h2⟩:=fB h0 n (k-vs.length) v h
   refine ⟨by rw [Nat.add_mul]; omega,?_⟩
   rw [←h2]
   congr 1
   have:k=(k-vs.length)+vs.length:=by omega
   conv=>lhs; rw [this,Nat.add_mod_right]
theorem ye {P:Program} {G:Gh} {s s':St} {w:World} {t e:TypeId} {i:TypeInfo} {zs:List AV} (ht:dB P t=some (e,i)) (hz:eK P e=some (zs,i)) {l c av:AV} {x y:Value} (h:msI i.size zs i.bytes l c s=some (av,s'))
  (hl:Rep G l x) (hc:Rep G c y) (hS:Sim G s w):Out P (Instr.makeSlice t x y) G s w av s':=by
 obtain ⟨hu,hi⟩:=de ht
 obtain ⟨_,z,hz0,rfl⟩:=dF hz
 unfold msI at h
 split at h
 ·rename_i ln cn h1 h2
  obtain ⟨k1,rfl⟩:=im h1 hl
  obtain ⟨k2,rfl⟩:=im h2 hc
  split at h
  ·rename_i hcond
   obtain ⟨hpos,hok,hl0,hlc,hmax,hbyt⟩:=hcond
   have hb:cn*i.bytes≤281474976710656:=Int.le_trans (Int.mul_le_mul hmax (Int.ofNat_le.2 hbyt) (by omega) (by omega)) (by decide)
   injection h with h; injection h with e1 e2; subst e1; subst e2
   obtain ⟨hrl,hzs⟩:=fZ (G:=G) hok
   have hw1:IntKind.i64.wrap ln=ln:=by simp [IntKind.wrap,IntKind.bits,IntKind.signed]; omega
   have hw2:IntKind.i64.wrap cn=cn:=by simp [IntKind.wrap,IntKind.bits,IntKind.signed]; omega
   obtain ⟨h3,h4⟩:=fq hS (cap:=cn.toNat) (es:=List.replicate ln.toNat (ofValue z).cells) (C:=Builtin.zeroCells z.cells cn.toNat) (e:=e) (vs:=(List.replicate ln.toNat z.cells.toList).flatten) hpos
    (by simp [Builtin.zeroCells,hzs]) (by simp; omega) (Flat.replicate hok hrl _) (fun j v hj=>by
     obtain ⟨hj1,hj2⟩:=fB (by simp; omega) _ _ _ hj
     simp only [Array.length_toList] at hj1 hj2
     rw [ko (by omega) (by
      have:=Nat.mul_le_mul_right z.cells.size (show ln.toNat≤cn.toNat by omega)
      omega)]
     simpa using hj2)
   refine ⟨.slice (some ⟨w.heap.size,0,none⟩) ln.toNat cn.toNat,_,_,?_,h4,h3,eI hS (by omega) (by omega)⟩
   have hb':¬(281474976710656:Int)<↑i.bytes*cn:=by rw [Int.mul_comm]; omega
   have hcn:¬cn<0:=by omega
   have hln:¬ln<0:=by omega
   have hcl:¬cn<ln:=by omega
   by_cases hc0:cn.toNat*i.size=0
   ·have hcz:cn.toNat=0:=by
     rcases Nat.mul_eq_zero.1 hc0 with h | h
     ·exact h
     ·omega
    simp [Instr.makeSlice,run_underlying hu,asInt,asIntOf,run_typeInfo w hi,hw1,hw2,hb',hcn,hln,hcl,sizeOf,hcz,Go.newRow,Builtin.zeroCells]
    rw [show Array.range 0=#[] by simp [Array.range]]; simp
   ·simp [Instr.makeSlice,run_underlying hu,asInt,asIntOf,run_typeInfo w hi,hw1,hw2,hb',hcn,hln,hcl,sizeOf,hc0,zeroValue,hz0,Go.newRow,Builtin.zeroCells,hzs]
  ·cases h
 ·cases h
end Go.AM
namespace Go.AM
theorem mJ {P:Program} {w:World} {t e:TypeId} {i:TypeInfo} {z:Value} (hu:P.underlying t=some (.slice e)) (hi:P.info? e=some i) (hz:i.zero=some z)
  {vs us:List Value} {a:Option Addr} {len cap:Nat} {b:Option Addr} {n cap':Nat}
  (hold:∀ w',w'.heap=w.heap→(Builtin.firstCells i.size len (.slice a len cap)).run P w'=.ok vs.toArray w') (hsrc:∀ w',w'.heap=w.heap→(Builtin.firstCells i.size n (.slice b n cap')).run P w'=.ok us.toArray w')
  (hg:cap<len+n) (hb:(len+n)*i.bytes≤140737488355328) (hmax:((len+n:Nat):Int)≤9223372036854775807) (ty:TypeId) :
  ∃ (C:Array Value) (ncap:Nat),(Builtin.append_ #[t,t] ty #[.slice a len cap,.slice b n cap']).run P w=.ok (.slice (some ⟨w.heap.size,0,none⟩) (len+n) ncap) (w.drew.alloc (.cells C e)) ∧
   len+n≤ncap∧C=vs.toArray++(us.toArray++Builtin.zeroCells z.cells (ncap-(len+n))):=by
 have hcap:(Question.appendCap (len+n) cap e).forced=false:=rfl
 have hfit:Builtin.nextslicecap (len+n) cap*i.bytes≤281474976710656:=growslice_fits hg hb
 refine ⟨vs.toArray++(us.toArray++Builtin.zeroCells z.cells (grownCap w (len+n) cap e-(len+n))),grownCap w (len+n) cap e,?_,?_,rfl⟩
 ·have h1:¬(len+n≤cap):=by omega
  have h2:¬(9223372036854775807<((len:Int)+(n:Int))):=by omega
  have h3:¬(281474976710656<Builtin.nextslicecap (len+n) cap*i.bytes):=by omega
  have e1:=hold w.drew rfl
  have e2:=hsrc w.drew rfl
  simp [Builtin.append_,run_underlying hu,run_sizeOf w hi,run_typeInfo w hi,Builtin.lenOf,h1,h2,h3,hcap,grownCap,Go.newRow,zeroValue,run_typeInfo w.drew hi,hz,Program.cellsOf,hi,e1,e2]
 ·simp only [grownCap,Question.cut]; omega
theorem mK {P:Program} {w:World} {t e:TypeId} {i:TypeInfo} (hu:P.underlying t=some (.slice e)) (hi:P.info? e=some i)
  {us:List Value} {bb o:Nat} {C:Array Value} {et:TypeId} {len cap:Nat} {b:Option Addr} {n cap':Nat} (hC:w.heap[bb]?=some (.cells C et (0,0)))
  (hsrc:(Builtin.firstCells i.size n (.slice b n cap')).run P w=.ok us.toArray w) (hone:∀ v∈us,v.oneCell'=true) (hg:len+n≤cap) (hfit:o+len*i.size+us.length≤C.size) (ty:TypeId) :
  (Builtin.append_ #[t,t] ty #[.slice (some ⟨bb,o,none⟩) len cap,.slice b n cap']).run P w=.ok (.slice (some ⟨bb,o,none⟩) (len+n) cap)
   (w.setRow bb (C.toList.take (o+len*i.size)++us++C.toList.drop (o+len*i.size+us.length)).toArray):=by
 have hrun:=run_storeCells_at (P:=P) bb (o+len*i.size) et us 0 C w hC (by omega) hone
 simp only [Nat.add_zero] at hrun
 simp [Builtin.append_,run_underlying hu,run_sizeOf w hi,Builtin.lenOf,hg,Program.cellsOf,hi,hsrc,d7,hrun]
theorem eU {P:Program} {w:World} {t e:TypeId} {i:TypeInfo} (hu:P.underlying t=some (.slice e)) (hi:P.info? e=some i) {a:Option Addr} {len cap:Nat} {b:Option Addr} {cap':Nat}
  (hsrc:(Builtin.firstCells i.size 0 (.slice b 0 cap')).run P w=.ok #[] w) (hg:len≤cap) (ty:TypeId) :
  (Builtin.append_ #[t,t] ty #[.slice a len cap,.slice b 0 cap']).run P w=.ok (.slice a len cap) w:=by
 cases a with
 | none=>simp [Builtin.append_,run_underlying hu,run_sizeOf w hi,Builtin.lenOf,hg,Program.cellsOf,hi,hsrc]
 | some a=>simp [Builtin.append_,run_underlying hu,run_sizeOf w hi,Builtin.lenOf,hg,Program.cellsOf,hi,hsrc,storeCells]
theorem uM {vs us:List Value} {zc:Array Value} {j:Nat} {v:Value} (h:(vs++us)[j]?=some v):(vs.toArray++(us.toArray++zc))[j]?=some v:=by
 have hlt:=(List.getElem?_eq_some_iff.1 h).1
 rw [←Array.append_assoc,Array.getElem?_append_left (by simpa using hlt)]
 simpa using h
theorem Stp.drew {G:Gh} {s:St} {w w':World} {G':Gh} {s':St} (h:Stp G s w.drew G' s' w'):Stp G s w G' s' w':=
 ⟨h.le,h.c,h.os,h.tape,h.output,h.size,h.keep,h.own⟩
theorem mC {G:Gh} {s:St} {w:World} (hS:Sim G s w) {sz ncap:Nat} {es xs:List (List AV)} {vs us:List Value} {C:Array Value} {e:TypeId} {z:Value} (hsz:0<sz) (hzs:z.cells.size=sz)
  (hl:es.length+xs.length≤ncap) (hf:Flat G sz es vs) (hfx:Flat G sz xs us) (hC:C=vs.toArray++(us.toArray++Builtin.zeroCells z.cells (ncap-(es.length+xs.length)))) :
  Sim (G.addLoc s.c ⟨w.heap.size,ncap,sz⟩) (newRow sz (es++xs) s) (w.drew.alloc (.cells C e))∧Stp G s w (G.addLoc s.c ⟨w.heap.size,ncap,sz⟩) (newRow sz (es++xs) s) (w.drew.alloc (.cells C e)):=by
 have hf2:=hf.append hfx
 have hsize:ncap*sz≤C.size:=by
  rw [hC]
  have h1:=hf.1
  have h2:=hfx.1
  simp [Builtin.zeroCells,h1,h2,hzs]
  rw [←Nat.add_mul,←Nat.add_mul]
  exact Nat.mul_le_mul_right _ (by omega)
 obtain ⟨h1,h2⟩:=fq hS.drew (cap:=ncap) (es:=es++xs) (C:=C) (e:=e) hsz hsize (by simpa using hl) hf2 (fun j v hj=>by rw [hC]; exact uM hj)
 exact ⟨h1,h2.drew⟩
theorem oB {n bytes:Nat} (h:n≤68719476736) (hb:bytes≤2048):n*bytes≤140737488355328:=Nat.le_trans (Nat.mul_le_mul h hb) (by decide)
theorem qw {n bytes:Nat} (hb:0<bytes) (h:n*bytes≤140737488355328):(n:Int)≤9223372036854775807:=by
 have:n*1≤n*bytes:=Nat.mul_le_mul_left _ hb
 omega
def nT (P:Program) (t:TypeId):Option (TypeId×TypeInfo):=match dB P t with
 | some (e,i)=>match eK P e with
  | some (zs,_)=>if aA i.size zs=true then some (e,i) else none
  | none=>none
 | none=>none
theorem vp {P:Program} {G:Gh} {s s':St} {w:World} {t e:TypeId} {i:TypeInfo} (ht:nT P t=some (e,i)) {md:Md} (hmd:md≠.fork) {d x av:AV} {dv xv:Value} (h:apI i.size i.bytes md d x s=some (av,s'))
  (hd:Rep G d dv) (hx:Rep G x xv) (hS:Sim G s w) (ty:TypeId):Out P (Builtin.append_ #[t,t] ty #[dv,xv]) G s w av s':=by
 unfold nT at ht
 split at ht
 case h_2=>cases ht
 case h_1 e0 i0 hte=>
 split at ht
 case h_2=>cases ht
 case h_1 zs i1 htz=>
 split at ht
 case isFalse=>cases ht
 case isTrue hok=>
 injection ht with ht; injection ht with h1 h2; subst h1; subst h2
 obtain ⟨hu,hi⟩:=de hte
 obtain ⟨hi',z,hz0,rfl⟩:=dF htz
 rw [hi] at hi'; injection hi' with hi'; subst hi'
 obtain ⟨_,hzs⟩:=fZ (G:=G) hok
 unfold apI at h
 split at h
 case h_1=>cases h
 case h_2 xs hshow=>
 split at h
 case isFalse=>cases h
 case isTrue hc=>
 obtain ⟨hsz,hby,hall,hsrcsz⟩:=hc
 obtain ⟨xa,xcap,us,rfl,hxcap,hfx,hxl⟩:=dV hS hshow hx hall (by
  rintro g z o l rfl
  simpa [dW] using hsrcsz)
 have hsrc:∀ w',w'.heap=w.heap→(Builtin.firstCells i0.size xs.length (.slice xa xs.length xcap)).run P w'=.ok us.toArray w':=by
  intro w' hw
  refine fg hfx fun hne=>?_
  obtain ⟨b,o,h1,h2⟩:=hxl hne
  exact ⟨b,o,h1,fun j v hj=>by rw [du (w:=w) (by rw [hw])]; exact h2 j v hj⟩
 have hones:=hfx.mem_cell hsz
 split at h
 ·
  rename_i es full
  split at h
  ·rename_i hfull
   subst hfull
   split at h
   ·rename_i he
    injection h with h; injection h with h1 h2; subst h1; subst h2
    simp only [Bool.and_eq_true,Bool.not_eq_true',List.isEmpty_iff,List.isEmpty_eq_false_iff] at he
    obtain ⟨he1,he2⟩:=he
    subst he1
    have hu0:us=[]:=by have:=hfx.1; simpa using this
    subst hu0
    cases hd with
    | sl _ _ a cap b o sz f hcc hf ha hz hm hrep hbig=>
     exact .quiet hS (eU hu hi (hsrc w rfl) hcc ty) (.sl es true a cap b o sz f hcc hf ha hz hm hrep hbig)
   ·rename_i he
    split at h
    ·rename_i hcond
     obtain ⟨hesok,hmany,hbyt⟩:=hcond
     have hroom:=oB hmany hbyt
     injection h with h; injection h with h1 h2; subst h1; subst h2
     obtain ⟨da,dcap,vs,hdv,hdcap,hfd,hdl⟩:=dV (x:=.sl es true) hS rfl hd hesok (by simp)
     subst hdv
     have hcape:dcap=es.length:=by
      cases hd with
      | sl _ _ a cap b o sz f hcc hf ha hz hm hrep=>exact hf rfl
     subst hcape
     by_cases hx0:xs=[]
     ·subst hx0
      have hes0:es=[]:=by
       apply Classical.byContradiction; intro hne
       apply he
       simp [hne]
      subst hes0
      have hu0:us=[]:=by have:=hfx.1; simpa using this
      subst hu0
      obtain ⟨h1,h2⟩:=jS hS hsz
      refine ⟨.slice da 0 0,w,_,eU hu hi (hsrc w rfl) (Nat.le_refl _) ty,by simpa using h2,by simpa using h1,?_⟩
      have:=Rep.row (G:=G.addLoc s.c ⟨0,0,i0.size⟩) s.c 0 0 ⟨0,0,i0.size⟩ da (ca _ _ _) (Nat.le_refl _) (fun h=>absurd h (Nat.lt_irrefl _)) (Nat.zero_le _)
      simpa using this
     ·have hxpos:0<xs.length:=List.length_pos_iff.2 hx0
      have hold:∀ w',w'.heap=w.heap→(Builtin.firstCells i0.size es.length (.slice da es.length es.length)).run P w'=.ok vs.toArray w':=by
       intro w' hw
       refine fg hfd fun hne=>?_
       obtain ⟨b,o,h1,h2⟩:=hdl hne
       exact ⟨b,o,h1,fun j v hj=>by rw [du (w:=w) (by rw [hw])]; exact h2 j v hj⟩
      obtain ⟨C,ncap,hrun,hnc,hC⟩:=mJ (P:=P) (w:=w) hu hi hz0 hold hsrc (by omega) hroom (qw hby hroom) ty
      obtain ⟨h1,h2⟩:=mC (e:=e0) hS hsz hzs hnc hfd hfx hC
      exact ⟨_,_,_,hrun,h2,h1,eI hS hnc hmany⟩
    ·cases h
  ·split at h
   ·rename_i he
    injection h with h; injection h with h1 h2; subst h1; subst h2
    simp only [List.isEmpty_iff] at he
    subst he
    have hu0:us=[]:=by have:=hfx.1; simpa using this
    subst hu0
    cases hd with
    | sl _ _ a cap b o sz f hcc hf ha hz hm hrep hbig=>
     exact .quiet hS (eU hu hi (hsrc w rfl) hcc ty) (.sl es false a cap b o sz f hcc (by simp) ha hz hm hrep hbig)
   ·cases h
 ·
  rename_i g sz' off len
  split at h
  ·rename_i sz'' es st par hg
   split at h
   ·rename_i hcond
    obtain ⟨e1,e2,e3,hmany,hbyt⟩:=hcond
    have hroom:=oB hmany hbyt
    subst e3
    cases hd with
    | row _ _ _ l a hl hlc ha=>
     obtain ⟨l',hl',hb1,hb2,hb3,hb4⟩:=hS.blk g _ hg
     rw [hl] at hl'; injection hl' with e4; subst e4
     simp only [Nat.zero_add] at hlc
     split at h
     ·rename_i hlen
      subst hlen
      split at h
      ·rename_i hst
       obtain ⟨hst1,hst2⟩:=hst
       subst hst1; subst hst2
       injection h with h; injection h with h1 h2; subst h1; subst h2
       have hfree:0<l.cap→mp G s g l.b:=fun hc=>hS.freeRow hg (by simp) hl hc
       have hS1:=hS.dropOne hg hl hfree
       have hT1:Stp G s w G { s with h:=upd s.h g none } w:=Stp.sub (Nat.le_refl _) (fun k b hk=>by
        have:upd s.h g none k=some b:=hk
        unfold upd at this
        split at this
        ·cases this
        ·exact this)
       by_cases hfit:es.length+xs.length≤l.cap
       ·
        by_cases hcap:0<l.cap
        ·obtain ⟨C,ty',hC,hcs,hflat⟩:=hb3.flat hcap
         have ha':=ha hcap
         simp only [Nat.zero_mul] at ha'
         subst ha'
         have hul:us.length=xs.length*l.sz:=by rw [hfx.1,e1]
         have hfitC:0+es.length*i0.size+us.length≤C.size:=by
          rw [hul,e1,Nat.zero_add,←Nat.add_mul]
          exact Nat.le_trans (Nat.mul_le_mul_right _ hfit) hcs
         have hrun:=mK (P:=P) hu hi hC (hsrc w rfl) hones (len:=es.length) (cap:=l.cap) hfit hfitC ty
         rw [Nat.zero_add] at hrun hfitC
         have hloc:G.Le (G.addLoc s.c l):=Gh.le_addLoc hS.fresh
         have hne:g≠s.c:=Nat.ne_of_lt (hS.hLt hg)
         refine ⟨_,_,G.addLoc s.c l,by simpa using hrun,?_,?_,?_⟩
         ·refine ⟨hloc,Nat.le_succ _,rfl,rfl,rfl,by simp,fun b hb ho=>?_,?_⟩
          ·by_cases e5:b=l.b
           ·exact absurd ⟨g,_,l,hg,hl,e5.symm,hcap⟩ ho
           ·exact setRow_other w l.b b _ e5
          ·rintro b hb ⟨k,bk,lk,hk,hlk,he,hck⟩
           have hk':upd (upd s.h g none) s.c (some (.row i0.size (es++xs) .live none)) k=some bk:=hk
           have hlk':(if k=s.c then some l else G.loc k)=some lk:=hlk
           unfold upd at hk'
           split at hk'
           ·rename_i e5
            rw [if_pos e5] at hlk'; injection hlk' with hlk'; subst hlk'
            exact ⟨g,_,l,hg,hl,he,hcap⟩
           ·rename_i e5
            rw [if_neg e5] at hlk'
            split at hk'
            ·cases hk'
            ·exact ⟨k,bk,lk,hk',hlk',he,hck⟩
         ·refine Sim.put (g:=s.c) (b':=.row i0.size (es++xs) .live none) (l':=l) (c':=s.c+1) hS1 (Nat.le_succ _) (Nat.lt_succ_self _) hloc ?_ (fun b _ hne'=>setRow_other w l.b b _ (hne' hcap)) ?_ (by simp) ?_
          ·intro hc k bk lk hk h1 h2 h3
           have h1':upd s.h g none k=some bk:=h1
           unfold upd at h1'
           split at h1'
           ·cases h1'
           ·rename_i hkg; exact hfree hc k bk lk hkg h1' h2 h3
          ·intro o v hc hm
           rw [hb4 (by simp) hc o] at hm; cases hm
          ·refine ⟨e1.symm,hsz,?_,fun _ hc k=>hb4 (by simp) hc k⟩
           have hfl:=hflat.append (by rw [←e1]; exact hfx:Flat G l.sz xs us)
           refine RowOk.ofFlat (e:=ty') (setRow_heap w l.b C _ ty' _ hC) (by simp; omega) (by simpa using hfit) (hfl.mono hloc) ?_
           intro j v hj
           rw [e1]
           simp only [List.getElem?_toArray]
           rw [←List.append_assoc,List.getElem?_append_left (by
            have:=(List.getElem?_eq_some_iff.1 hj).1
            simpa using this)]
           exact hj
         ·have:=Rep.row (G:=G.addLoc s.c l) s.c 0 (es.length+xs.length) l (some ⟨l.b,0,none⟩) (ca _ _ _) (by simpa using hfit) (by simp) hmany
          rw [←e1] at this
          simpa using this
        ·have h0:l.cap=0:=by omega
         have he0:es=[]:=List.length_eq_zero_iff.1 (by omega)
         have hx0:xs=[]:=List.length_eq_zero_iff.1 (by omega)
         subst he0; subst hx0
         have hu0:us=[]:=by have:=hfx.1; simpa using this
         subst hu0
         obtain ⟨h1,h2⟩:=jS hS1 hsz
         refine ⟨.slice a 0 0,w,_,?_,hT1.trans (by simpa [newRow] using h2),by simpa [newRow] using h1,?_⟩
         ·have:=eU (P:=P) (w:=w) (a:=a) (len:=0) (cap:=0) hu hi (hsrc w rfl) (Nat.le_refl _) ty
          simpa [h0] using this
         ·have:=Rep.row (G:=G.addLoc s.c ⟨0,0,i0.size⟩) s.c 0 0 ⟨0,0,i0.size⟩ a (ca _ _ _) (Nat.le_refl _) (fun h=>absurd h (Nat.lt_irrefl _)) (Nat.zero_le _)
          simpa using this
       ·
        have hshow':s.show_ (.row g l.sz 0 es.length)=some es:=by simp [St.show_,hg]
        have hesok:es.all (aA l.sz)=true:=by
         rw [List.all_eq_true]
         intro y hy
         obtain ⟨k,hk⟩:=List.mem_iff_getElem?.1 hy
         by_cases hcap:0<l.cap
         ·obtain ⟨C,ty',hC,hcs,hflat⟩:=hb3.flat hcap
          exact (hflat.elem hk).1
         ·have:=hb3.1
          have:k<es.length:=(List.getElem?_eq_some_iff.1 hk).1
          omega
        have hrow:Rep G (.row g l.sz 0 es.length) (.slice a es.length (l.cap-0)):=.row g 0 es.length l a hl (by simpa using hlc) ha (by omega)
        obtain ⟨da,dcap,vs,hdv,hdcap,hfd,hdl⟩:=dV hS hshow' hrow hesok (by rintro g z o l ⟨rfl⟩; rfl)
        injection hdv with q1 q2 q3
        subst q1; subst q3
        have hold:∀ w',w'.heap=w.heap→(Builtin.firstCells i0.size es.length (.slice a es.length (l.cap-0))).run P w'=.ok vs.toArray w':=by
         intro w' hw
         rw [e1]
         refine fg hfd fun hne=>?_
         obtain ⟨b,o,h1,h2⟩:=hdl hne
         exact ⟨b,o,h1,fun j v hj=>by rw [du (w:=w) (by rw [hw])]; exact h2 j v hj⟩
        obtain ⟨C,ncap,hrun,hnc,hC⟩:=mJ (P:=P) (w:=w) hu hi hz0 hold hsrc (by omega) hroom (qw hby hroom) ty
        obtain ⟨h1,h2⟩:=mC (e:=e0) hS1 hsz hzs hnc (by rw [e1]; exact hfd) hfx hC
        exact ⟨_,_,_,hrun,hT1.trans h2,h1,eI hS1 hnc hmany⟩
      ·cases h
     ·split at h
      ·rename_i hmid
       obtain ⟨hm1,hm2,hm3⟩:=hmid
       subst hm2; subst hm3
       injection h with h; injection h with h1 h2; subst h1; subst h2
       have hcap:0<l.cap:=by have:=hb3.1; omega
       obtain ⟨C,ty',hC,hcs,hflat⟩:=hb3.flat hcap
       have ha':=ha hcap
       simp only [Nat.zero_mul] at ha'
       subst ha'
       have hul:us.length=xs.length*l.sz:=by rw [hfx.1,e1]
       have hle2:=Nat.mul_le_mul_right l.sz hm1
       rw [Nat.add_mul] at hle2
       have hcs2:es.length*l.sz≤C.size:=Nat.le_trans (Nat.mul_le_mul_right _ hb3.1) hcs
       have hfitC:0+len*i0.size+us.length≤C.size:=by
        rw [hul,e1]; omega
       have hrun:=mK (P:=P) hu hi hC (hsrc w rfl) hones (len:=len) (cap:=l.cap) (by have:=hb3.1; omega) hfitC ty
       rw [Nat.zero_add] at hrun hfitC
       have hfl:=((hflat.take len).append (by rw [←e1]; exact hfx:Flat G l.sz xs us)).append (hflat.drop (len+xs.length))
       obtain ⟨h1,h2⟩:=ke hS hg hl hcap hC (es':=es.take len++xs++es.drop (len+xs.length)) (C':=(C.toList.take (len*i0.size)++us++C.toList.drop (len*i0.size+us.length)).toArray) (by simp; omega) hcs
        (by have:=hb3.1; simp; omega) (by rw [hb1] at hfl; exact hfl) (fun j v hj=>by
         rw [e1,hul,←Nat.add_mul]
         rw [Nat.add_mul]
         have:(C.toList.take (es.length*sz'')).take (len*sz'')=C.toList.take (len*sz''):=by
          rw [List.take_take,Nat.min_eq_left (Nat.mul_le_mul_right _ (by omega))]
         rw [hb1] at hcs2 hle2 hul
         rw [hb1,←hul]
         refine getElem?_mid (vs:=C.toList.take (es.length*sz'')) (o:=len*sz'') (n:=us.length) ?_ rfl (by simp; omega) (by simp; omega) ?_
         ·intro j v hj
          rw [List.getElem?_take] at hj
          split at hj
          ·simpa using hj
          ·cases hj
         ·rw [hul,←Nat.add_mul,←hb1]; exact (by rw [hb1] ; exact hj))
       rw [←e2] at h1 h2
       refine ⟨_,_,G,by simpa using hrun,h2,h1,?_⟩
       have:=Rep.row (G:=G) g 0 (len+xs.length) l (some ⟨l.b,0,none⟩) hl (by have:=hb3.1; omega) (by simp) hmany
       rw [←e1] at this
       simpa using this
      ·cases h
   ·cases h
  ·cases h
 ·cases h
end Go.AM
