/- Part of the claim: see its last text. -/
import Derived.Test.YtjhogglgkjcacaaGreatMa3
set_option linter.all false
namespace Go.AM
def Flat (G:Gh) (sz:Nat) (es:List (List AV)) (vs:List Value):Prop:=
 vs.length=es.length*sz∧∀ (i:Nat) (x:List AV),es[i]?=some x→x.length=sz∧∀ (j:Nat) (a:AV),x[j]?=some a→a.cell=true∧∃ v,vs[i*sz+j]?=some v∧Rep G a v
theorem Flat.nil (G:Gh) (sz:Nat):Flat G sz [] []:=⟨by simp,fun i x h=>by simp at h⟩
theorem Flat.mono {G G':Gh} (hle:G.Le G') {sz:Nat} {es:List (List AV)} {vs:List Value} (h:Flat G sz es vs):Flat G' sz es vs:=
 ⟨h.1,fun i x hx=>⟨(h.2 i x hx).1,fun j a ha=>by
  obtain ⟨h1,v,h2,h3⟩:=(h.2 i x hx).2 j a ha
  exact ⟨h1,v,h2,h3.mono hle⟩⟩⟩
theorem Flat.append {G:Gh} {sz:Nat} {es fs:List (List AV)} {vs us:List Value} (h:Flat G sz es vs) (k:Flat G sz fs us):Flat G sz (es++fs) (vs++us):=by
 refine ⟨by simp [h.1,k.1,Nat.add_mul],fun i x hx=>?_⟩
 rw [List.getElem?_append] at hx
 split at hx
 ·rename_i hi
  refine ⟨(h.2 i x hx).1,fun j a ha=>?_⟩
  obtain ⟨h1,v,h2,h3⟩:=(h.2 i x hx).2 j a ha
  have:=(List.getElem?_eq_some_iff.1 h2).1
  exact ⟨h1,v,by rw [List.getElem?_append_left this]; exact h2,h3⟩
 ·rename_i hi
  refine ⟨(k.2 _ x hx).1,fun j a ha=>?_⟩
  obtain ⟨h1,v,h2,h3⟩:=(k.2 _ x hx).2 j a ha
  refine ⟨h1,v,?_,h3⟩
  have e:i*sz=es.length*sz+(i-es.length)*sz:=by rw [←Nat.add_mul]; congr 1; omega
  rw [List.getElem?_append_right (by rw [h.1]; omega),h.1,e]
  rw [show es.length*sz+(i-es.length)*sz+j-es.length*sz=(i-es.length)*sz+j by omega]
  exact h2
theorem Flat.one {G:Gh} {sz:Nat} {cs:List AV} {vs:List Value} (ho:aA sz cs=true) (h:RepL G cs vs):Flat G sz [cs] vs:=by
 simp only [aA,Bool.and_eq_true,beq_iff_eq] at ho
 refine ⟨by simp [←h.1,ho.1],fun i x hx=>?_⟩
 cases i with
 | zero=>
  simp at hx; subst hx
  refine ⟨ho.1,fun j a ha=>⟨List.all_eq_true.1 ho.2 a (List.mem_of_getElem? ha),?_⟩⟩
  obtain ⟨v,hv,hr⟩:=h.get ha
  exact ⟨v,by simpa using hv,hr⟩
 | succ i=>simp at hx
theorem Flat.replicate {G:Gh} {sz:Nat} {cs:List AV} {vs:List Value} (ho:aA sz cs=true) (h:RepL G cs vs):∀ n,Flat G sz (List.replicate n cs) (List.replicate n vs).flatten
 | 0=>Flat.nil G sz
 | n+1=>by
  rw [List.replicate_succ,List.replicate_succ,List.flatten_cons]
  exact Flat.append (es:=[cs]) (Flat.one ho h) (Flat.replicate ho h n)
theorem Flat.take {G:Gh} {sz:Nat} {es:List (List AV)} {vs:List Value} (h:Flat G sz es vs) (n:Nat):Flat G sz (es.take n) (vs.take (n*sz)):=by
 refine ⟨?_,fun i x hx=>?_⟩
 ·rw [List.length_take,List.length_take,h.1,Nat.min_def,Nat.min_def]
  split <;> split
  ·rfl
  ·rename_i h1 h2
   have:es.length≤n:=by omega
   have:=Nat.mul_le_mul_right sz this
   omega
  ·rename_i h1 h2
   have:=Nat.mul_le_mul_right sz h2
   omega
  ·rfl
 ·rw [List.getElem?_take] at hx
  split at hx
  ·rename_i hi
   refine ⟨(h.2 i x hx).1,fun j a ha=>?_⟩
   obtain ⟨h1,v,h2,h3⟩:=(h.2 i x hx).2 j a ha
   refine ⟨h1,v,?_,h3⟩
   have hj:j<sz:=by rw [←(h.2 i x hx).1]; exact (List.getElem?_eq_some_iff.1 ha).1
   have:i*sz+j<n*sz:=by
    have:=Nat.mul_le_mul_right sz (show i+1≤n by omega)
    rw [Nat.add_mul] at this; omega
   rw [List.getElem?_take_of_lt this]; exact h2
  ·cases hx
theorem Flat.drop {G:Gh} {sz:Nat} {es:List (List AV)} {vs:List Value} (h:Flat G sz es vs) (n:Nat):Flat G sz (es.drop n) (vs.drop (n*sz)):=by
 refine ⟨by rw [List.length_drop,List.length_drop,h.1,Nat.sub_mul],fun i x hx=>?_⟩
 rw [List.getElem?_drop] at hx
 refine ⟨(h.2 _ x hx).1,fun j a ha=>?_⟩
 obtain ⟨h1,v,h2,h3⟩:=(h.2 _ x hx).2 j a ha
 refine ⟨h1,v,?_,h3⟩
 rw [List.getElem?_drop,←h2,Nat.add_mul,Nat.add_assoc]
theorem Flat.mem_cell {G:Gh} {sz:Nat} {es:List (List AV)} {vs:List Value} (h:Flat G sz es vs) (hsz:0<sz):∀ v∈vs,v.oneCell'=true:=by
 intro v hv
 obtain ⟨k,hk⟩:=List.mem_iff_getElem?.1 hv
 have hlt:=(List.getElem?_eq_some_iff.1 hk).1
 rw [h.1] at hlt
 have hi:k / sz<es.length:=by rw [Nat.div_lt_iff_lt_mul hsz]; exact hlt
 obtain ⟨h1,h2⟩:=h.2 _ _ (List.getElem?_eq_getElem hi)
 have hj:k % sz<(es[k / sz]).length:=by rw [h1]; exact Nat.mod_lt _ hsz
 obtain ⟨h3,u,h4,h5⟩:=h2 _ _ (List.getElem?_eq_getElem hj)
 rw [Nat.mul_comm,Nat.div_add_mod,hk] at h4
 injection h4 with h4; subst h4
 exact h5.oneCell h3
theorem RowOk.ofFlat {G:Gh} {hp:Array Obj} {l:Loc} {es:List (List AV)} {C:Array Value} {e:TypeId} {vs:List Value} (hb:hp[l.b]?=some (.cells C e (0,0))) (hsz:l.cap*l.sz≤C.size) (hl:es.length≤l.cap)
  (hf:Flat G l.sz es vs) (hC:∀ (j:Nat) (v:Value),vs[j]?=some v→C[j]?=some v):RowOk G hp l es:=
 ⟨hl,fun _=>⟨C,e,hb,hsz,fun i x hx=>⟨(hf.2 i x hx).1,fun j a ha=>by
  obtain ⟨h1,v,h2,h3⟩:=(hf.2 i x hx).2 j a ha
  exact ⟨h1,v,hC _ _ h2,h3⟩⟩⟩⟩
theorem RowOk.flat {G:Gh} {hp:Array Obj} {l:Loc} {es:List (List AV)} (h:RowOk G hp l es) (hc:0<l.cap) :
  ∃ C e,hp[l.b]?=some (.cells C e (0,0))∧l.cap*l.sz≤C.size∧Flat G l.sz es (C.toList.take (es.length*l.sz)):=by
 obtain ⟨C,e,h1,h2,h3⟩:=h.2 hc
 have hle:es.length*l.sz≤C.size:=Nat.le_trans (Nat.mul_le_mul_right _ h.1) h2
 refine ⟨C,e,h1,h2,by simp; omega,fun i x hx=>⟨(h3 i x hx).1,fun j a ha=>?_⟩⟩
 obtain ⟨h4,v,h5,h6⟩:=(h3 i x hx).2 j a ha
 refine ⟨h4,v,?_,h6⟩
 have hi:i<es.length:=(List.getElem?_eq_some_iff.1 hx).1
 have hj:j<l.sz:=by rw [←(h3 i x hx).1]; exact (List.getElem?_eq_some_iff.1 ha).1
 have:i*l.sz+j<es.length*l.sz:=by
  have:=Nat.mul_le_mul_right l.sz (show i+1≤es.length by omega)
  rw [Nat.add_mul] at this; omega
 rw [List.getElem?_take_of_lt this]
 simpa using h5
theorem fq {G:Gh} {s:St} {w:World} (hS:Sim G s w) {sz cap:Nat} {es:List (List AV)} {C:Array Value} {e:TypeId} {vs:List Value} (hsz:0<sz) (hcap:cap*sz≤C.size) (hl:es.length≤cap)
  (hf:Flat G sz es vs) (hC:∀ (j:Nat) (v:Value),vs[j]?=some v→C[j]?=some v) :
  Sim (G.addLoc s.c ⟨w.heap.size,cap,sz⟩) (newRow sz es s) (w.alloc (.cells C e))∧Stp G s w (G.addLoc s.c ⟨w.heap.size,cap,sz⟩) (newRow sz es s) (w.alloc (.cells C e)):=by
 have hold:∀ b,b<w.heap.size→(w.alloc (.cells C e)).heap[b]?=w.heap[b]?:=fun b hb=>heap_alloc_old w _ b hb
 have hle:G.Le (G.addLoc s.c ⟨w.heap.size,cap,sz⟩):=Gh.le_addLoc hS.fresh
 refine ⟨hS.add (Nat.lt_succ_self _) hold (fun _=>Nat.le_refl _) (by simp) ?_,Stp.add hS (Nat.lt_succ_self _) hold (fun _=>Nat.le_refl _) (by simp) rfl rfl rfl⟩
 refine ⟨rfl,hsz,RowOk.ofFlat (l:=⟨w.heap.size,cap,sz⟩) (heap_alloc_new w _) hcap hl (hf.mono hle) hC,fun _ hc k=>?_⟩
 show G.mem w.heap.size k=none
 cases hm:G.mem w.heap.size k with
 | none=>rfl
 | some v=>exact absurd (hS.memLt hm) (Nat.lt_irrefl _)
theorem jS {G:Gh} {s:St} {w:World} (hS:Sim G s w) {sz:Nat} (hsz:0<sz) :
  Sim (G.addLoc s.c ⟨0,0,sz⟩) (newRow sz [] s) w∧Stp G s w (G.addLoc s.c ⟨0,0,sz⟩) (newRow sz [] s) w:=by
 refine ⟨hS.add (Nat.lt_succ_self _) (fun _ _=>rfl) (fun h=>absurd h (Nat.lt_irrefl _)) (by simp) ?_,Stp.add hS (Nat.lt_succ_self _) (fun _ _=>rfl) (fun h=>absurd h (Nat.lt_irrefl _)) (Nat.le_refl _) rfl rfl rfl⟩
 exact ⟨rfl,hsz,⟨Nat.le_refl _,fun h=>absurd h (Nat.lt_irrefl _)⟩,fun _ h=>absurd h (Nat.lt_irrefl _)⟩
theorem ca (G:Gh) (g:Nat) (l:Loc):(G.addLoc g l).loc g=some l:=by simp [Gh.addLoc]
theorem eI {G:Gh} {s:St} {w:World} (hS:Sim G s w) {sz cap len:Nat} (hl:len≤cap) (hb:len≤68719476736):Rep (G.addLoc s.c ⟨w.heap.size,cap,sz⟩) (.row s.c sz 0 len) (.slice (some ⟨w.heap.size,0,none⟩) len cap):=by
 have:=Rep.row (G:=G.addLoc s.c ⟨w.heap.size,cap,sz⟩) s.c 0 len ⟨w.heap.size,cap,sz⟩ (some ⟨w.heap.size,0,none⟩) (ca _ _ _) (by simpa using hl) (by simp) hb
 simpa using this
theorem wI {P:Program} {G:Gh} {s s':St} {w:World} {e:TypeId} {sz:Nat} {a av:AV} {x:Value} (h:jL a sz s=some (av,s')) (hr:Rep G a x) (hS:Sim G s w):Out P (Instr.box e x) G s w av s':=by
 unfold jL at h
 split at h
 ·rename_i hc
  injection h with h; injection h with h1 h2; subst h1; subst h2
  have hcells:a.cells.all AV.cell=true:=by have:=hc.2; simp only [aA,Bool.and_eq_true] at this; exact this.2
  have hrl:=hr.cellsOf hcells
  have hlen:x.cells.size=sz:=by
   have:=hrl.1
   have h2:=hc.2
   simp only [aA,Bool.and_eq_true,beq_iff_eq] at h2
   simp at this; omega
  obtain ⟨h1,h2⟩:=fq hS (cap:=1) (es:=[a.cells]) (C:=x.cells) (e:=e) hc.1 (by omega) (by simp) (Flat.one hc.2 hrl) (fun j v hv=>by simpa using hv)
  refine ⟨.pointer (some ⟨w.heap.size,0,none⟩),_,_,by simp [Instr.box,newVar,Go.newRow],h2,h1,?_⟩
  have:=Rep.ptr (G:=G.addLoc s.c ⟨w.heap.size,1,sz⟩) s.c 0 0 ⟨w.heap.size,1,sz⟩ (ca _ _ _)
  simpa using this
 ·cases h
def eK (P:Program) (e:TypeId):Option (List AV×TypeInfo):=match P.info? e with
 | some i=>match i.zero with
  | some z=>some ((ofValue z).cells,i)
  | none=>none
 | none=>none
theorem dF {P:Program} {e:TypeId} {zs:List AV} {i:TypeInfo} (h:eK P e=some (zs,i)):P.info? e=some i∧∃ z,i.zero=some z∧zs=(ofValue z).cells:=by
 unfold eK at h
 split at h
 ·split at h
  ·injection h with h; injection h with h1 h2; subst h1; subst h2
   exact ⟨by assumption,_,by assumption,rfl⟩
  ·cases h
 ·cases h
theorem bT {sz:Nat} {cs:List AV} (h:aA sz cs=true):cs.length=sz∧cs.all AV.cell=true:=by
 simpa [aA] using h
theorem fZ {G:Gh} {z:Value} {sz:Nat} (h:aA sz (ofValue z).cells=true):RepL G (ofValue z).cells z.cells.toList∧z.cells.size=sz:=by
 have:=(eT G z).cellsOf (bT h).2
 refine ⟨this,?_⟩
 have h1:=this.1
 have h2:=(bT h).1
 simp at h1; omega
theorem uA {P:Program} {G:Gh} {s s':St} {w:World} {e:TypeId} {zs:List AV} {i:TypeInfo} (hz:eK P e=some (zs,i)) {av:AV} (h:jL (.agg zs) zs.length s=some (av,s')) (hS:Sim G s w) :
  Out P (Instr.alloc e true (.tuple #[])) G s w av s':=by
 obtain ⟨hi,z,hz0,rfl⟩:=dF hz
 unfold jL at h
 split at h
 ·rename_i hc
  injection h with h; injection h with h1 h2; subst h1; subst h2
  have hc2:aA (ofValue z).cells.length (ofValue z).cells=true:=hc.2
  obtain ⟨hrl,hlen⟩:=fZ (G:=G) hc2
  obtain ⟨h1,h2⟩:=fq hS (cap:=1) (es:=[(ofValue z).cells]) (C:=z.cells) (e:=e) hc.1 (by omega) (by simp) (Flat.one hc2 hrl) (fun j v hv=>by simpa using hv)
  refine ⟨.pointer (some ⟨w.heap.size,0,none⟩),_,_,by simp [Instr.alloc,zeroValue,typeInfo,hi,hz0,newVar,Go.newRow],h2,h1,?_⟩
  have:=Rep.ptr (G:=G.addLoc s.c ⟨w.heap.size,1,(ofValue z).cells.length⟩) s.c 0 0 ⟨w.heap.size,1,(ofValue z).cells.length⟩ (ca _ _ _)
  simpa using this
 ·cases h
theorem Flat.setElem {G:Gh} {sz:Nat} {es:List (List AV)} {vs us:List Value} {e:Nat} {cs:List AV} (h:Flat G sz es vs) (he:e<es.length) (hc:aA sz cs=true) (hr:RepL G cs us) :
  Flat G sz (es.set e cs) (vs.take (e*sz)++us++vs.drop (e*sz+sz)):=by
 obtain ⟨hlen,hcell⟩:=bT hc
 have hus:us.length=sz:=by rw [←hr.1]; exact hlen
 have h1:Flat G sz (es.take e) (vs.take (e*sz)):=h.take e
 have h2:Flat G sz [cs] us:=Flat.one hc hr
 have h3:Flat G sz (es.drop (e+1)) (vs.drop ((e+1)*sz)):=h.drop (e+1)
 have:=(h1.append h2).append h3
 rw [Nat.add_mul,Nat.one_mul] at this
 rwa [List.set_eq_take_append_cons_drop,if_pos he,show es.take e++cs::es.drop (e+1)=es.take e++[cs]++es.drop (e+1) by simp]
theorem rp {cs vs:List AV} {o:Nat} (h:o+vs.length≤cs.length):(cZ cs o vs).length=cs.length:=by
 simp [cZ]; omega
theorem ro {cs vs:List AV} {o:Nat} (h:cs.all AV.cell=true) (h':vs.all AV.cell=true):(cZ cs o vs).all AV.cell=true:=by
 rw [List.all_eq_true] at *
 intro x hx
 simp only [cZ,List.mem_append] at hx
 rcases hx with (hx | hx) | hx
 ·exact h x (List.mem_of_mem_take hx)
 ·exact h' x hx
 ·exact h x (List.mem_of_mem_drop hx)
theorem lU {G:Gh} {cs vs:List AV} {us ws:List Value} {o:Nat} (h:RepL G cs us) (h':RepL G vs ws):RepL G (cZ cs o vs) (us.take o++ws++us.drop (o+ws.length)):=by
 have:=((h.take o).append h').append (h.drop (o+vs.length))
 rw [h'.1] at this
 unfold cZ
 rw [h'.1]
 exact this
theorem Flat.elem {G:Gh} {sz:Nat} {es:List (List AV)} {vs:List Value} {e:Nat} {cs:List AV} (h:Flat G sz es vs) (he:es[e]?=some cs):aA sz cs=true∧RepL G cs ((vs.drop (e*sz)).take sz):=by
 obtain ⟨h1,h2⟩:=h.2 e cs he
 have hlt:e<es.length:=(List.getElem?_eq_some_iff.1 he).1
 have hle:e*sz+sz≤vs.length:=by
  rw [h.1]
  have:=Nat.mul_le_mul_right sz (show e+1≤es.length by omega)
  rwa [Nat.add_mul,Nat.one_mul] at this
 refine ⟨?_,by simp; omega,fun j a v ha hv=>?_⟩
 ·simp only [aA,Bool.and_eq_true,beq_iff_eq]
  refine ⟨h1,List.all_eq_true.2 fun a ha=>?_⟩
  obtain ⟨j,hj⟩:=List.mem_iff_getElem?.1 ha
  exact (h2 j a hj).1
 ·obtain ⟨_,u,hu,hr⟩:=h2 j a ha
  rw [List.getElem?_take] at hv
  split at hv
  ·rw [List.getElem?_drop,hu] at hv; injection hv with hv; subst hv; exact hr
  ·cases hv
theorem ke {G:Gh} {s:St} {w:World} (hS:Sim G s w) {g sz:Nat} {es es':List (List AV)} {l:Loc} (hg:s.h g=some (.row sz es .live none)) (hl:G.loc g=some l) (hcap:0<l.cap)
  {C C':Array Value} {e:TypeId} (hC:w.heap[l.b]?=some (.cells C e (0,0))) (hsz:C'.size=C.size) (hle:l.cap*l.sz≤C.size) (hlen:es'.length≤l.cap) {vs:List Value} (hf:Flat G sz es' vs) (hv:∀ (j:Nat) (v:Value),vs[j]?=some v→C'[j]?=some v) :
  Sim G { s with h:=upd s.h g (some (.row sz es' .live none)) } (w.setRow l.b C')∧Stp G s w G { s with h:=upd s.h g (some (.row sz es' .live none)) } (w.setRow l.b C'):=by
 have hloc:=f7 hl
 obtain ⟨l',hl',hb1,hb2,hb3,hb4⟩:=hS.blk g _ hg
 rw [hl] at hl'; injection hl' with e1; subst e1
 have hother:∀ b,b<w.heap.size→(0<l.cap→b≠l.b)→(w.setRow l.b C').heap[b]?=w.heap[b]?:=fun b _ hne=>setRow_other w l.b b C' (hne hcap)
 have hsim:=Sim.put (g:=g) (b':=.row sz es' .live none) (l':=l) (c':=s.c) (w':=w.setRow l.b C') hS (Nat.le_refl _) (hS.hLt hg) (by rw [hloc]; exact .refl G)
  (fun hc=>hS.freeRow hg (by simp) hl hc) hother (fun o v hc hm=>by rw [hb4 (by simp) hc o] at hm; cases hm) (by simp)
  ⟨hb1,hb2,RowOk.ofFlat (C:=C') (e:=e) (vs:=vs) (setRow_heap w l.b C C' e _ hC) (by omega) hlen (by rw [hloc,hb1]; exact hf) hv,fun _ hc k=>by rw [hloc]; exact hb4 (by simp) hc k⟩
 rw [hloc] at hsim
 refine ⟨hsim,.refl G,Nat.le_refl _,rfl,rfl,rfl,by simp,fun b hb ho=>?_,?_⟩
 ·by_cases e2:b=l.b
  ·exact absurd ⟨g,_,l,hg,hl,e2.symm,hcap⟩ ho
  ·exact setRow_other w l.b b C' e2
 ·rintro b hb ⟨k,bk,lk,hk,hlk,he,hck⟩
  have hk':upd s.h g (some (.row sz es' .live none)) k=some bk:=hk
  unfold upd at hk'
  split at hk'
  ·rename_i e2; subst e2; exact ⟨k,_,lk,hg,hlk,he,hck⟩
  ·exact ⟨k,bk,lk,hk',hlk,he,hck⟩
theorem getElem?_mid {vs us:List Value} {o n k:Nat} {C:Array Value} (hC:∀ (j:Nat) (v:Value),vs[j]?=some v→C[j]?=some v) (hn:us.length=n) (hle:o+n≤vs.length) (hvs:vs.length≤C.size) {v:Value}
  (h:(vs.take o++us++vs.drop (o+n))[k]?=some v):(C.toList.take o++us++C.toList.drop (o+n)).toArray[k]?=some v:=by
 simp only [List.getElem?_toArray]
 have hlo:(vs.take o).length=o:=by simp; omega
 have hlC:(C.toList.take o).length=o:=by simp; omega
 rw [List.append_assoc,List.getElem?_append] at h ⊢
 rw [hlo] at h; rw [hlC]
 split
 ·rename_i hk
  rw [if_pos hk,List.getElem?_take_of_lt hk] at h
  rw [List.getElem?_take_of_lt hk]
  simpa using hC _ _ h
 ·rename_i hk
  rw [if_neg hk] at h
  rw [List.getElem?_append] at h ⊢
  split
  ·rename_i hk2; rw [if_pos hk2] at h; exact h
  ·rename_i hk2
   rw [if_neg hk2,List.getElem?_drop] at h
   rw [List.getElem?_drop]
   simpa using hC _ _ h
theorem yF {P:Program} {G:Gh} {s s':St} {w:World} {t:TypeId} {n:Nat} (ht:tSz P t=some n) {a v:AV} {x y:Value} (h:stI n a v s=some s') (hr:Rep G a x) (hv:Rep G v y) (hS:Sim G s w) :
  ∃ w' G',(Instr.storeAt t x y).run P w=.ok () w'∧Stp G s w G' s' w'∧Sim G' s' w':=by
 unfold stI at h
 split at h
 ·rename_i g e o
  split at h
  ·rename_i sz es hg
   split at h
   ·rename_i cs he
    split at h
    ·rename_i hc
     injection h with h; subst h
     obtain ⟨hn,hall,hfit⟩:=hc
     cases hr with
     | ptr _ _ _ l hl=>
      obtain ⟨l',hl',hb1,hb2,hb3,hb4⟩:=hS.blk g _ hg
      rw [hl] at hl'; injection hl' with e1; subst e1
      have helt:e<es.length:=(List.getElem?_eq_some_iff.1 he).1
      have hcap:0<l.cap:=by have:=hb3.1; omega
      obtain ⟨C,ty,hC,hsz,hflat⟩:=hb3.flat hcap
      have hrl:=hv.cellsOf hall
      have hyl:y.cells.toList.length=n:=by rw [←hrl.1]; exact hn
      have hys:y.cells.size=n:=by simpa using hyl
      obtain ⟨hok,hrc⟩:=hflat.elem he
      obtain ⟨hcl,hca⟩:=bT hok
      have hC':∀ (j:Nat) (v:Value),(C.toList.take (es.length*l.sz))[j]?=some v→C[j]?=some v:=by
       intro j v hj
       rw [List.getElem?_take] at hj
       split at hj
       ·simpa using hj
       ·cases hj
      have hesz:(e+1)*l.sz≤es.length*l.sz:=Nat.mul_le_mul_right _ (by omega)
      have hecap:es.length*l.sz≤C.size:=Nat.le_trans (Nat.mul_le_mul_right _ hb3.1) hsz
      rw [Nat.add_mul,Nat.one_mul] at hesz
      have hnew:aA l.sz (cZ cs o v.cells)=true:=by
       simp only [aA,Bool.and_eq_true,beq_iff_eq]
       exact ⟨by rw [rp (by omega)]; exact hcl,ro hca hall⟩
      have hrn:=lU (o:=o) hrc hrl
      have hf:=hflat.setElem helt hnew hrn
      have hones:∀ u∈y.cells.toList,u.oneCell'=true:=by
       intro u hu
       obtain ⟨j,hj⟩:=List.mem_iff_getElem?.1 hu
       have hjl:j<v.cells.length:=by rw [hrl.1]; exact (List.getElem?_eq_some_iff.1 hj).1
       exact (hrl.2 j _ u (List.getElem?_eq_getElem hjl) hj).oneCell (List.all_eq_true.1 hall _ (List.getElem_mem hjl))
      have hrun:=run_storeCells_at (P:=P) l.b (e*l.sz+o) ty y.cells.toList 0 C w hC (by rw [hyl]; omega) hones
      simp only [Nat.add_zero] at hrun
      rw [hb1] at hf
      have hkey:∀ (j:Nat) (u:Value),((C.toList.take (es.length*sz)).take (e*sz)++(((C.toList.take (es.length*sz)).drop (e*sz)).take sz).take o++y.cells.toList++((((C.toList.take (es.length*sz)).drop (e*sz)).take sz).drop (o+y.cells.toList.length)++(C.toList.take (es.length*sz)).drop (e*sz+sz)))[j]?=some u →
        (C.toList.take (e*l.sz+o)++y.cells.toList++C.toList.drop (e*l.sz+o+y.cells.toList.length)).toArray[j]?=some u:=by
       intro j u hj
       rw [hb1] at hecap hesz
       have key:(C.toList.take (es.length*sz)).take (e*sz)++(((C.toList.take (es.length*sz)).drop (e*sz)).take sz).take o++y.cells.toList++((((C.toList.take (es.length*sz)).drop (e*sz)).take sz).drop (o+y.cells.toList.length)++(C.toList.take (es.length*sz)).drop (e*sz+sz))
         = (C.toList.take (es.length*sz)).take (e*sz+o)++y.cells.toList++(C.toList.take (es.length*sz)).drop (e*sz+o+y.cells.toList.length):=by
        generalize hV:C.toList.take (es.length*sz)=V
        have hVl:e*sz+sz≤V.length:=by rw [←hV]; simp; omega
        have hosz:o+y.cells.toList.length≤sz:=by omega
        have e1:V.take (e*sz)++((V.drop (e*sz)).take sz).take o=V.take (e*sz+o):=by
         rw [List.take_take,Nat.min_eq_left (by omega),←List.take_add]
        have e2:((V.drop (e*sz)).take sz).drop (o+y.cells.toList.length)++V.drop (e*sz+sz)=V.drop (e*sz+o+y.cells.toList.length):=by
         have h1:V.drop (e*sz+sz)=(V.drop (e*sz)).drop sz:=by rw [List.drop_drop]
         have h2:V.drop (e*sz+o+y.cells.toList.length)=(V.drop (e*sz)).drop (o+y.cells.toList.length):=by rw [List.drop_drop,Nat.add_assoc]
         rw [h1,h2]
         have h3:((V.drop (e*sz)).take sz++(V.drop (e*sz)).drop sz).drop (o+y.cells.toList.length)=((V.drop (e*sz)).take sz).drop (o+y.cells.toList.length)++(V.drop (e*sz)).drop sz:=by
          rw [List.drop_append_of_le_length (by rw [List.length_take,List.length_drop]; omega)]
         rw [←h3,List.take_append_drop]
        rw [e1,e2]
       rw [key] at hj
       rw [hb1]
       exact getElem?_mid (fun j v h=>hC' j v (by rw [hb1]; exact h)) rfl (by simp only [List.length_take,Array.length_toList]; simp only [Array.length_toList] at hyl; omega) (by simp only [List.length_take,Array.length_toList]; omega) hj
      obtain ⟨h1,h2⟩:=ke hS hg hl hcap hC (C':=(C.toList.take (e*l.sz+o)++y.cells.toList++C.toList.drop (e*l.sz+o+y.cells.toList.length)).toArray) (by simp; omega) hsz
       (es':=es.set e (cZ cs o v.cells)) (by simpa using hb3.1) hf (fun j u hj=>hkey j u (by simpa [List.append_assoc] using hj))
      refine ⟨_,G,?_,h2,h1⟩
      simp only [Instr.storeAt,Instr.sureAddr,storeVar,Sem.run_bind,Sem.run_pure,Result.andThen_ok,rX ht,hys,ne_eq,not_true_eq_false,if_false]
      exact hrun
    ·cases h
   ·cases h
  ·cases h
 ·cases h
end Go.AM
