/- Part of the claim: see its last text. -/
import Derived.Test.YtjhogglgkjcacaaGreatMa5
set_option linter.all false
namespace Go.AM
theorem qg {G:Gh} {sz:Nat} (hsz:0<sz):∀ (ps:List (Nat×AV)) (qs:List (Nat×Value)) (es es':List (List AV)) (cells:Array Value),an sz es ps=some es'→ps.length=qs.length →
  (∀ (k:Nat) p q,ps[k]?=some p→qs[k]?=some q→p.1=q.1∧Rep G p.2 q.2)→Flat G sz es cells.toList →
  ∃ cells',Instr.fill (fun i=>some (i*sz,sz)) cells qs=some cells'∧Flat G sz es' cells'.toList∧es'.length=es.length
 | [],qs,es,es',cells,h,hl,hp,hr=>by
  cases qs with
  | nil=>simp [an] at h; subst h; exact ⟨cells,rfl,hr,rfl⟩
  | cons q qs=>simp at hl
 | (i,v)::ps,qs,es,es',cells,h,hl,hp,hr=>by
  cases qs with
  | nil=>simp at hl
  | cons q qs=>
   simp only [an] at h
   split at h
   ·rename_i hc
    obtain ⟨hok,hi⟩:=hc
    obtain ⟨hpl,hrep⟩:=hp 0 _ _ rfl rfl
    obtain ⟨hn,hall⟩:=bT hok
    have hrl:=hrep.cellsOf hall
    have hqs:q.2.cells.size=sz:=by have:=hrl.1; simp at this; omega
    have hcl:=hr.1
    simp only [Array.length_toList] at hcl
    have hle:i*sz+sz≤cells.size:=by
     rw [hcl]
     have:=Nat.mul_le_mul_right sz (show i+1≤es.length by omega)
     rwa [Nat.add_mul,Nat.one_mul] at this
    have hz:=qY q.2.cells.toList cells (i*sz) 0 (by simp; omega)
    simp only [Nat.add_zero,Array.length_toList] at hz
    have hr':Flat G sz (es.set i v.cells) (q.2.cells.zipIdx.foldl (fun cs (c:Value×Nat)=>cs.setIfInBounds (i*sz+c.2) c.1) cells).toList:=by
     have e:(q.2.cells.zipIdx.foldl (fun cs (c:Value×Nat)=>cs.setIfInBounds (i*sz+c.2) c.1) cells)=((q.2.cells.toList.zipIdx 0).foldl (fun cs (c:Value×Nat)=>cs.setIfInBounds (i*sz+c.2) c.1) cells):=by
      rw [←Array.foldl_toList]; simp
     rw [e,hz,hqs]
     exact hr.setElem hi hok hrl
    obtain ⟨cells',h1,h2,h3⟩:=qg hsz ps qs _ _ _ h (by simpa using hl) (fun k p q hk hq=>hp (k+1) p q (by simpa using hk) (by simpa using hq)) hr'
    refine ⟨cells',?_,h2,by rw [h3]; simp⟩
    obtain ⟨qi,qv⟩:=q
    simp only at hpl
    subst hpl
    simp only [Instr.fill]
    rw [if_neg (by simp at hqs ⊢; omega)]
    exact h1
   ·cases h
theorem qj {G:Gh} {sz:Nat} {es:List (List AV)} {C:Array Value} {b:Nat} (hf:Flat G sz es C.toList):∀ (i:Nat) (x:List AV) (j:Nat) (c:AV),es[i]?=some x→x[j]?=some c→C[i*sz+j]?=some (C.getD (i*sz+j) default)∧Rep G c (C.getD (i*sz+j) default):=by
 intro i x j c hx hj
 obtain ⟨_,v,h1,h2⟩:=(hf.2 i x hx).2 j c hj
 have h1':C[i*sz+j]?=some v:=by simpa using h1
 have:C.getD (i*sz+j) default=v:=by simp [Array.getD_eq_getD_getElem?,h1']
 rw [this]
 exact ⟨h1',h2⟩
theorem sY {G:Gh} {s:St} {w:World} (hS:Sim G s w) {sz:Nat} {es:List (List AV)} {C:Array Value} (e:TypeId) (hf:Flat G sz es C.toList) (hb:es.length≤68719476736) :
  Rep (G.addMem w.heap.size C) (.sl es true) (.slice (some ⟨w.heap.size,0,none⟩) es.length es.length):=by
 have hnew:=heap_alloc_new w (.cells C e)
 have hle:G.Le (G.addMem w.heap.size C):=(hS.grow (w':=w.alloc (.cells C e)) fun b hb=>heap_alloc_old w _ b hb).leMem hnew
 refine .sl es true _ es.length w.heap.size 0 sz (fun i j=>C.getD (i*sz+j) default) (Nat.le_refl _) (fun _=>rfl) (fun _=>rfl) (fun i x hx=>(hf.2 i x hx).1) ?_ ?_ hb
 ·intro i x j c hx hj
  show (if w.heap.size=w.heap.size then C[0+i*sz+j]? else G.mem w.heap.size _)=_
  rw [if_pos rfl,Nat.zero_add]
  exact (qj (b:=0) hf i x j c hx hj).1
 ·intro i x j c hx hj
  exact ((qj (b:=0) hf i x j c hx hj).2).mono hle
theorem xL {P:Program} {G:Gh} {s s':St} {w:World} {t e:TypeId} {i:TypeInfo} {zs:List AV} {n:Nat} (ht:dB P t=some (e,i)) (hz:eK P e=some (zs,i)) (hn:n*i.size≤2 ^ 24)
  {ps:List (Nat×AV)} {qs:Array (Nat×Value)} {md:Md} {av:AV} (h:bsI i.size zs n ps md s=some (av,s')) (hl:ps.length=qs.size) (hq:∀ (k:Nat) p q,ps[k]?=some p→qs[k]?=some q→p.1=q.1∧Rep G p.2 q.2)
  (hS:Sim G s w):Out P (Instr.buildSlice t n qs) G s w av s':=by
 obtain ⟨hu,hi⟩:=de ht
 obtain ⟨_,z,hz0,rfl⟩:=dF hz
 unfold bsI at h
 split at h
 case isFalse=>cases h
 case isTrue hc=>
 obtain ⟨hpos,hok,hnb⟩:=hc
 obtain ⟨hrl,hzs⟩:=fZ (G:=G) hok
 split at h
 case h_2=>cases h
 case h_1 es hfill=>
 let Z:Array Value:=(Array.range (n*i.size)).map (z.cells[· % z.cells.size]!)
 have hZ:Flat G i.size (List.replicate n (ofValue z).cells) Z.toList:=by
  have:=Flat.replicate hok hrl n
  have e1:Z.toList=(List.replicate n z.cells.toList).flatten:=by
   apply List.ext_getElem?
   intro k
   by_cases hk:k<n*i.size
   ·obtain ⟨v,hv⟩:∃ v,(List.replicate n z.cells.toList).flatten[k]?=some v:=by
     have hlen:(List.replicate n z.cells.toList).flatten.length=n*i.size:=by have:=this.1; simpa using this
     exact ⟨_,List.getElem?_eq_getElem (by rw [hlen]; exact hk)⟩
    obtain ⟨_,h2⟩:=fB (by simp; omega) _ _ _ hv
    simp only [Array.length_toList] at h2
    have hm:k % z.cells.size<z.cells.size:=Nat.mod_lt _ (by omega)
    rw [hv]
    simp only [Z,Array.getElem?_toList]
    have h3:z.cells[k % z.cells.size]?=some v:=by simpa using h2
    have h4:z.cells[k % z.cells.size]! = v:=by rw [getElem!_def,h3]
    simp [hk,h4]
   ·rw [List.getElem?_eq_none (by simp [Z]; omega),List.getElem?_eq_none (by
     have:=this.1
     rw [this]; simp; omega)]
  rw [e1]; exact this
 obtain ⟨cells',h1,h2,h3⟩:=qg hpos ps qs.toList _ es Z hfill (by simpa using hl) (fun k p q hk hq'=>hq k p q hk (by simpa using hq')) hZ
 simp only [List.length_replicate] at h3
 have hrun:(Instr.buildSlice t n qs).run P w=.ok (.slice (some ⟨w.heap.size,0,none⟩) n n) (w.alloc (.cells cells' e)):=by
  have hn':¬(16777216<n*i.size):=by omega
  by_cases h0:n*i.size=0
  ·have hn0:n=0:=by
    rcases Nat.mul_eq_zero.1 h0 with h | h
    ·exact h
    ·omega
   subst hn0
   have hZ0:Z=#[]:=by simp [Z,Array.range]
   rw [hZ0] at h1
   have hr0:Array.range 0=#[]:=by simp [Array.range]
   simp [Instr.buildSlice,run_underlying hu,run_sizeOf w hi,Program.cellsOf,hi,Go.newRow]
   rw [hr0]
   simp only [List.map_toArray,List.map_nil]
   rw [h1]; simp
  ·simp [Instr.buildSlice,run_underlying hu,run_sizeOf w hi,Program.cellsOf,hi,hn',h0,zeroValue,run_typeInfo w hi,hz0,Go.newRow]
   rw [show Instr.fill (fun i_1=>some (i_1*i.size,i.size)) (Array.map (fun x=>z.cells[x % z.cells.size]!) (Array.range (n*i.size))) qs.toList=some cells' from h1]
   simp
 split at h
 ·injection h with h; injection h with e1 e2; subst e1; subst e2
  have hsize:n*i.size≤cells'.size:=by have:=h2.1; simp at this; rw [this,h3]; exact Nat.le_refl _
  obtain ⟨h4,h5⟩:=fq (cap:=n) (es:=es) (C:=cells') (e:=e) hS hpos hsize (by omega) h2 (fun j v hj=>by simpa using hj)
  exact ⟨_,_,_,hrun,h5,h4,eI hS (Nat.le_refl _) (by omega)⟩
 ·injection h with h; injection h with e1 e2; subst e1; subst e2
  obtain ⟨h4,h5⟩:=hS.allocMem cells' e
  have:=sY hS e h2 (by omega)
  rw [h3] at this
  exact ⟨_,_,_,hrun,h5,h4,this⟩
theorem xO {P:Program} {G:Gh} {s s':St} {w:World} {t e ty:TypeId} {ats:Array TypeId} {i:TypeInfo} (hat:ats[0]?=some t) (ht:dB P t=some (e,i)) {d x av:AV} {dv xv:Value} (h:cpI i.size d x s=some (av,s'))
  (hd:Rep G d dv) (hx:Rep G x xv) (hS:Sim G s w):Out P (Builtin.copy_ ats ty #[dv,xv]) G s w av s':=by
 obtain ⟨hu,hi⟩:=de ht
 unfold cpI at h
 split at h
 case h_2=>cases h
 case h_1 xs g sz' off len hshow=>
 split at h
 case h_2=>cases h
 case h_1 sz'' es hg=>
 split at h
 case isFalse=>cases h
 case isTrue hc=>
 obtain ⟨hpos,e1,e2,hall,hsrc,hfit⟩:=hc
 injection h with h; injection h with q1 q2; subst q1; subst q2
 obtain ⟨xa,xcap,us,rfl,hxcap,hfx,hxl⟩:=dV hS hshow hx hall (by
  rintro g z o l rfl
  simpa [dW] using hsrc)
 cases hd with
 | row _ _ _ l a hl hlc ha=>
  obtain ⟨l',hl',hb1,hb2,hb3,hb4⟩:=hS.blk g _ hg
  rw [hl] at hl'; injection hl' with e4; subst e4
  have hmin:(xs.take len).length=min xs.length len:=by simp [Nat.min_comm]
  have hsrcrun:(Builtin.firstCells i.size (min xs.length len) (.slice xa xs.length xcap)).run P w=.ok (us.take (min xs.length len*i.size)).toArray w:=by
   have hf':=hfx.take (min xs.length len)
   have hl':(xs.take (min xs.length len)).length=min xs.length len:=by simp
   have:=fg (P:=P) (w:=w) (len:=xs.length) (cap:=xcap) (a:=xa) hf' (fun hne=>by
    obtain ⟨b,o,h1,h2⟩:=hxl (by intro e; subst e; simp at hne)
    refine ⟨b,o,h1,fun j v hj=>h2 j v ?_⟩
    rw [List.getElem?_take] at hj
    split at hj
    ·exact hj
    ·cases hj)
   rwa [hl'] at this
  by_cases hz:min xs.length len=0
  ·
   have hys:xs.take len=[]:=List.length_eq_zero_iff.1 (by rw [hmin]; exact hz)
   rw [hys]
   rw [hz] at hsrcrun
   simp only [Nat.zero_mul,List.take_zero] at hsrcrun
   have hsame:es.take off++([]:List (List AV))++es.drop (off+([]:List (List AV)).length)=es:=by simp
   have hupd:({ h:=upd s.h g (some (.row i.size (es.take off++([]:List (List AV))++es.drop (off+([]:List (List AV)).length)) .live none)),c:=s.c }:St)=s:=by
    rw [hsame]
    have:upd s.h g (some (.row i.size es .live none))=s.h:=by
     funext k
     unfold upd
     split
     ·rename_i e; subst e; rw [hg,e2]
     ·rfl
    rw [this]
   rw [hupd]
   refine .quiet hS (v:=goInt 0) ?_ (.sc _ rfl)
   cases a with
   | none=>simp [Builtin.copy_,hat,run_underlying hu,Builtin.lenOf,hz,run_sizeOf w hi,Program.cellsOf,hi,hsrcrun]
   | some a=>simp [Builtin.copy_,hat,run_underlying hu,Builtin.lenOf,hz,run_sizeOf w hi,Program.cellsOf,hi,hsrcrun,storeCells]
  ·have hlen0:0<len:=by omega
   have hoff:off<l.cap:=by omega
   have hao:=ha hoff
   subst hao
   have hcap:0<l.cap:=by omega
   obtain ⟨C,ty',hC,hcs,hflat⟩:=hb3.flat hcap
   have hfy:Flat G l.sz (xs.take len) (us.take (min xs.length len*i.size)):=by
    have:=hfx.take (min xs.length len)
    have e5:xs.take (min xs.length len)=xs.take len:=by
     rw [Nat.min_comm,←List.take_take,List.take_of_length_le (Nat.le_refl xs.length)]
    rw [e5] at this
    rw [e1] at this ⊢
    exact this
   generalize hy:us.take (min xs.length len*i.size)=ys at *
   have hyl:=hfy.1
   rw [hmin] at hyl
   have hes:es.length*l.sz≤C.size:=Nat.le_trans (Nat.mul_le_mul_right _ hb3.1) hcs
   have hle2:(off+min xs.length len)*l.sz≤es.length*l.sz:=Nat.mul_le_mul_right _ (by omega)
   rw [Nat.add_mul] at hle2
   have hrun:=run_storeCells_at (P:=P) l.b (off*l.sz) ty' ys 0 C w hC (by omega) (hfy.mem_cell (by omega))
   simp only [Nat.add_zero] at hrun
   have hfl:=((hflat.take off).append hfy).append (hflat.drop (off+(xs.take len).length))
   obtain ⟨h1,h2⟩:=ke hS hg hl hcap hC (es':=es.take off++xs.take len++es.drop (off+(xs.take len).length)) (C':=(C.toList.take (off*l.sz)++ys++C.toList.drop (off*l.sz+ys.length)).toArray) (by simp; omega) hcs
    (by have:=hb3.1; simp; omega) (by rw [hb1] at hfl; exact hfl) (fun j v hj=>by
     have e6:(C.toList.take (es.length*sz'')).take (off*sz'')=C.toList.take (off*sz''):=by
      rw [List.take_take,Nat.min_eq_left (Nat.mul_le_mul_right _ (by omega))]
     rw [hb1] at hyl hes hle2 ⊢
     refine getElem?_mid (vs:=C.toList.take (es.length*sz'')) (o:=off*sz'') (n:=ys.length) ?_ rfl (by simp; omega) (by simp; omega) ?_
     ·intro j v hj
      rw [List.getElem?_take] at hj
      split at hj
      ·simpa using hj
      ·cases hj
     ·rw [hmin] at hj
      rw [hyl,←Nat.add_mul]; exact hj)
   rw [←e2] at h1 h2
   refine ⟨goInt (min xs.length len:Nat),_,G,?_,h2,h1,?_⟩
   ·simp [Builtin.copy_,hat,run_underlying hu,Builtin.lenOf,run_sizeOf w hi,Program.cellsOf,hi,hsrcrun,hrun]
   ·rw [hmin]; exact .sc _ rfl
def vg (P:Program) (t:TypeId):Option Nat:=match P.underlying t with
 | some .string=>some 0
 | some (.slice _)=>some 1
 | some (.map _ _)=>some 2
 | _=>none
theorem wN {P:Program} {G:Gh} {s:St} {w:World} {t ty:TypeId} {ats:Array TypeId} {k:Nat} (hat:ats[0]?=some t) (hk:vg P t=some k)
  {a av:AV} {x:Value} (h:dT k a s=some av) (hr:Rep G a x) (hS:Sim G s w):Out P (Builtin.len_ ats ty #[x]) G s w av s:=by
 unfold vg at hk
 split at hk
 ·rename_i hu
  injection hk with hk; subst hk
  unfold dT at h
  split at h <;> first | (rename_i h0; cases h0; done) | skip
  ·injection h with h; subst h
   obtain ⟨rfl,_⟩:=bE hr
   exact .quiet hS (v:=goInt _) (by simp [Builtin.len_,hat,run_underlying hu]) (.sc _ rfl)
  all_goals simp_all
 ·rename_i e hu
  injection hk with hk; subst hk
  unfold dT at h
  split at h
  case h_2=>
   rename_i es b _
   injection h with h; subst h
   cases hr
   exact .quiet hS (v:=goInt es.length) (by simp [Builtin.len_,hat,run_underlying hu]) (.sc _ rfl)
  case h_3=>
   rename_i g z o l _
   injection h with h; subst h
   cases hr
   exact .quiet hS (v:=goInt l) (by simp [Builtin.len_,hat,run_underlying hu]) (.sc _ rfl)
  all_goals simp_all
 ·rename_i k0 e hu
  injection hk with hk; subst hk
  unfold dT at h
  split at h
  case h_4=>
   rename_i g _
   split at h
   ·rename_i kv ver hg
    injection h with h; subst h
    cases hr with
    | map _ l hl=>
     obtain ⟨l',hl',⟨h0,es,clock,h1,h2,h3⟩,_⟩:=hS.blk g _ hg
     rw [hl] at hl'; injection hl' with e4; subst e4
     refine .quiet hS (v:=goInt kv.length) ?_ (.sc _ rfl)
     simp [Builtin.len_,hat,run_underlying hu,getObj,Sem.run,h1,h2]
   ·cases h
  case h_5=>
   injection h with h; subst h
   obtain ⟨rfl,_⟩:=bE hr
   exact .quiet hS (v:=goInt 0) (by simp [Builtin.len_,hat,run_underlying hu]) (.sc _ rfl)
  all_goals simp_all
 ·cases hk
theorem rP {P:Program} {G:Gh} {w:World} {f:Int→Int→Int} {g:Value→Value→Sem Value} (hg:∀ k x y,(g (.int k x) (.int k y)).run P w=.ok (.int k (f x y)) w∧∀ k',(g (.int k x) (.int k' y)).run P w=.ok (.int k (f x y)) w) :
  ∀ (l:List AV) (vs:List Value) (k:IntKind) (a:Int) (av:AV),RepL G l vs→l.foldlM (fun x v=>match x,v with
   | .sc (.int k a),.sc (.int _ b)=>some (.sc (.int k (f a b)))
   | _,_=>none) (AV.sc (.int k a))=some av→∃ n,av=.sc (.int k n)∧(vs.foldlM g (.int k a)).run P w=.ok (.int k n) w
 | [],vs,k,a,av,hr,h=>by
  have:vs=[]:=List.length_eq_zero_iff.1 hr.1.symm
  subst this
  simp at h; subst h
  exact ⟨a,rfl,by simp⟩
 | b::l,[],k,a,av,hr,h=>by have:=hr.1; simp at this
 | b::l,v::vs,k,a,av,hr,h=>by
  simp only [List.foldlM_cons] at h
  have hb:=hr.2 0 b v rfl rfl
  split at h
  ·rename_i k0 a0 k' n e1
   injection e1 with e1; injection e1 with e1 e2; subst e1; subst e2
   obtain ⟨rfl,_⟩:=bE hb
   obtain ⟨m,h1,h2⟩:=rP hg l vs k _ av ⟨by simpa using hr.1,fun j c u hc hu=>hr.2 (j+1) c u (by simpa using hc) (by simpa using hu)⟩ (by simpa using h)
   refine ⟨m,h1,?_⟩
   simp [List.foldlM_cons,(hg k a n).2 k',h2]
  ·simp at h
theorem qk {P:Program} {G:Gh} {w:World} {f:Int→Int→Int} {g:Value→Value→Sem Value} (hg:∀ k x y,(g (.int k x) (.int k y)).run P w=.ok (.int k (f x y)) w∧∀ k',(g (.int k x) (.int k' y)).run P w=.ok (.int k (f x y)) w)
  {l:List AV} {vs:List Value} {av:AV} (hr:RepL G l vs) (h:gq f l=some av):∃ x rest r,vs=x::rest∧(rest.foldlM g x).run P w=.ok r w∧Rep G av r:=by
 unfold gq at h
 split at h
 ·rename_i k a l
  cases vs with
  | nil=>have:=hr.1; simp at this
  | cons v vs=>
   obtain ⟨rfl,_⟩:=bE (hr.2 0 _ v rfl rfl)
   obtain ⟨n,rfl,h2⟩:=rP hg l vs k a av ⟨by simpa using hr.1,fun j c u hc hu=>hr.2 (j+1) c u (by simpa using hc) (by simpa using hu)⟩ h
   exact ⟨_,_,_,rfl,h2,.sc _ rfl⟩
 ·cases h
theorem yg {P:Program} {G:Gh} {w:World} {l:List AV} {vs:Array Value} {av:AV} {ats:Array TypeId} {ty:TypeId} (hr:RepL G l vs.toList) (h:gq (fun a b=>if a<b then b else a) l=some av) :
  ∃ r,(Builtin.max_ ats ty vs).run P w=.ok r w∧Rep G av r:=by
 obtain ⟨x,rest,r,h1,h2,h3⟩:=qk (P:=P) (w:=w) (g:=Builtin.max2) (by intro k x y; constructor <;> (try intro k') <;> simp [Builtin.max2]) hr h
 exact ⟨r,by simp [Builtin.max_,h1,h2],h3⟩
theorem yd {P:Program} {G:Gh} {w:World} {l:List AV} {vs:Array Value} {av:AV} {ats:Array TypeId} {ty:TypeId} (hr:RepL G l vs.toList) (h:gq (fun a b=>if b<a then b else a) l=some av) :
  ∃ r,(Builtin.min_ ats ty vs).run P w=.ok r w∧Rep G av r:=by
 obtain ⟨x,rest,r,h1,h2,h3⟩:=qk (P:=P) (w:=w) (g:=Builtin.min2) (by intro k x y; constructor <;> (try intro k') <;> simp [Builtin.min2]) hr h
 exact ⟨r,by simp [Builtin.min_,h1,h2],h3⟩
end Go.AM
