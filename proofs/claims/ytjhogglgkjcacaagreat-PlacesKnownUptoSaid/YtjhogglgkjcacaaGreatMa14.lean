/- Part of the claim: see its last text. -/
import Derived.Test.YtjhogglgkjcacaaGreatMa13
import Derived.Test.YtjhogglgkjcacaaGreatMa9
set_option linter.all false
namespace Go.AM
theorem yo {P:Program} {G:Gh} {s s':St} {w:World} {t kt et:TypeId} (ht:P.underlying t=some (.map kt et)) {m av:AV} {xm:Value} (h:rgI m s=some (av,s')) (hm:Rep G m xm) (hS:Sim G s w):Out P (Instr.range t xm) G s w av s':=by
 unfold rgI at h
 split at h
 ·rename_i g
  split at h
  ·rename_i kv ver hg
   cases hm with
   | map _ l hl=>
    obtain ⟨hcap,hver,es,clock,h1,h2,h3,h4⟩:=hS.map hg hl
    injection h with h; injection h with e1 e2; subst e1; subst e2
    have hold:∀ b,b<w.heap.size→(w.alloc (.mapIter (some l.b) clock #[] clock)).heap[b]?=w.heap[b]?:=fun b hb=>heap_alloc_old w _ hb
    have hne:g≠s.c:=Nat.ne_of_lt (hS.hLt hg)
    have q1:=Sim.add (b':=.iter g ver []) (l':=⟨w.heap.size,1,0⟩) (c':=s.c+1) (w':=w.alloc (.mapIter (some l.b) clock #[] clock)) hS (Nat.lt_succ_self _) hold (fun _=>Nat.le_refl _) (by simp)
     ⟨by simp,Nat.lt_succ_of_lt hver,l,clock,clock,#[],(Gh.le_addLoc hS.fresh).loc _ _ hl,heap_alloc_new w _,fun kv' hkv'=>⟨es,clock,(hold _ (cO h1)).trans h1,rfl,rfl,fun i e he=>by simp,fun i e he=>by simp at he⟩⟩
    have q2:=Stp.add (b':=.iter g ver []) (l':=⟨w.heap.size,1,0⟩) (c':=s.c+1) (w':=w.alloc (.mapIter (some l.b) clock #[] clock)) hS (Nat.lt_succ_self _) hold (fun _=>Nat.le_refl _) (by simp) rfl rfl rfl
    refine ⟨_,_,_,run_range_map w t kt et l.b es clock ht h1,q2,q1,?_⟩
    have:=Rep.ptr (G:=G.addLoc s.c ⟨w.heap.size,1,0⟩) s.c 0 0 ⟨w.heap.size,1,0⟩ (bX _ _ _)
    simpa using this
  ·cases h
 ·cases h
theorem Sim.iter {G:Gh} {s:St} {w:World} (hS:Sim G s w) {g m ver:Nat} {kv:List (AV×AV)} {done:List Nat} {l:Loc} (hg:s.h g=some (.iter m ver done)) (hm:s.h m=some (.map kv ver)) (hl:G.loc g=some l) :
  0<l.cap∧ver<s.c∧∃ (lm:Loc) (clock:Nat) (seen:Array Nat) (es:Array MapEntry),G.loc m=some lm∧w.heap[l.b]?=some (.mapIter (some lm.b) clock seen clock)∧w.heap[lm.b]?=some (.map es clock)∧es.size=kv.length ∧
   (∀ (i:Nat) (e:MapEntry) (p:AV×AV),es[i]?=some e→kv[i]?=some p→Rep G p.1 e.key∧Rep G p.2 e.val∧e.born<clock) ∧
   (∀ (i j:Nat) (e e':MapEntry),es[i]?=some e→es[j]?=some e'→e.born=e'.born→i=j) ∧
   (∀ (i:Nat) (e:MapEntry),es[i]?=some e→(e.born∈seen↔i∈done))∧∀ (i:Nat) (e:MapEntry),done.getLast?=some i→es[i]?=some e→seen.back?=some e.born:=by
 obtain ⟨l',hl',h0,h1,lm,since,last,seen,h2,h3,h4⟩:=hS.blk g _ hg
 rw [hl] at hl'; injection hl' with e; subst e
 obtain ⟨es,clock,h5,h6,h7,h8,h9⟩:=h4 kv hm
 subst h6; subst h7
 obtain ⟨_,_,es',clock',a1,a2,a3,a4⟩:=hS.map hm h2
 rw [h5] at a1; injection a1 with a1; injection a1 with a1 a1'; subst a1; subst a1'
 exact ⟨h0,h1,lm,clock,seen,es,h2,h3,h5,a2,a3,a4,h8,h9⟩
theorem iX {P:Program} {w:World} {r:Nat} {a:Option Nat} {b c:Nat} {sn:Array Nat} (hb:w.heap[r]?=some (.mapIter a b sn c)):(getObj r).run P w=.ok (.mapIter a b sn c) w:=by
 simp [getObj,Sem.run,hb]
theorem nz {P:Program} {w:World} {r:Nat} {a:Option Nat} {b c:Nat} {sn:Array Nat} (o:Obj) (hb:w.heap[r]?=some (.mapIter a b sn c)):(setObj r o).run P w=.ok () { w with heap:=w.heap.setIfInBounds r o }:=by
 simp [setObj,Sem.run,hb]
theorem qU {P:Program} (w:World) (ty:TypeId) (r bm clock:Nat) (seen:Array Nat) (es:Array MapEntry) (hr:w.heap[r]?=some (.mapIter (some bm) clock seen clock)) (hb:w.heap[bm]?=some (.map es clock)) (hold:∀ x∈es.toList,x.born<clock) :
  ((leftOf es seen).size=0∧(Instr.next (.pointer (some ⟨r,0,none⟩)) false ty).run P w=.ok (.tuple #[.bool false]) w) ∨
  ∃ e∈(leftOf es seen).toList,∃ w1:World,(w1=w∨w1=w.drew)∧(Instr.next (.pointer (some ⟨r,0,none⟩)) false ty).run P w=.ok (.tuple #[.bool true,e.key,e.val]) { w1 with heap:=w1.heap.setIfInBounds r (.mapIter (some bm) clock (seen.push e.born) clock) }:=by
 have g1:=iX (P:=P) hr
 have g2:=MapKept.run_getObj_map (P:=P) hb
 simp only [Instr.next,Sem.run_bind,g1,g2,Result.andThen_ok,next_test_false seen es clock clock hold (Nat.le_refl _),Bool.false_eq_true,if_false]
 unfold leftOf
 have hmem:∀ x∈(Array.filter (fun e=>!seen.contains e.born) es).toList,x.born<clock:=fun x hx=>hold x (by simp at hx ⊢; exact hx.1)
 generalize Array.filter (fun e=>!seen.contains e.born) es=L at hmem ⊢
 have e1:L.filter (fun x=>decide (x.born<clock))=L:=Array.filter_eq_self.2 (fun x hx=>by simpa using hmem x (by simpa using hx))
 have e2:L.filter (fun x=>decide (x.born≥clock))=#[]:=by
  rw [Array.filter_eq_empty_iff]
  intro x hx
  have:=hmem x (by simpa using hx)
  simp
  omega
 simp only [e1,e2,Array.append_empty]
 by_cases h0:L.size=0
 ·left
  have:L=#[]:=Array.eq_empty_of_size_eq_zero h0
  subst this
  refine ⟨rfl,?_⟩
  simp [choose,Sem.run,Question.forced]
 ·right
  have hne:L.isEmpty=false:=by simp [Array.isEmpty,h0]
  simp only [hne,Bool.false_eq_true,if_false,Array.empty_append,Array.size_map]
  have hch:∃ (j:Nat) (w1:World),j<L.size∧(w1=w∨w1=w.drew)∧(choose (Question.mapNext L.size)).run P w=.ok j w1:=by
   by_cases hf:L.size≤1
   ·exact ⟨0,w,by omega,.inl rfl,by simp [choose,Sem.run,Question.forced,hf]⟩
   ·exact ⟨_,w.drew,Nat.mod_lt _ (by omega),.inr rfl,by
     simp only [choose,Sem.run,Question.forced,decide_eq_true_eq,hf,if_false,Question.cut]
     rfl⟩
  obtain ⟨j,w1,hj,hal,hrun⟩:=hch
  have hr1:w1.heap[r]?=some (.mapIter (some bm) clock seen clock):=by rcases hal with rfl | rfl <;> exact hr
  refine ⟨L[j],by simp,w1,hal,?_⟩
  simp only [hrun,Result.andThen_ok,Array.getElem?_map,Array.getElem?_eq_getElem hj,Option.map_some,Sem.run_bind,nz _ hr1,Sem.run_pure]
theorem tup3 {G:Gh} {a b c:AV} {x y z:Value} (ha:Rep G a x) (hb:Rep G b y) (hc:Rep G c z):Rep G (.tup [a,b,c]) (.tuple #[x,y,z]):=(RepL.cons ha (RepL.cons hb (RepL.cons hc (RepL.nil G)))).toTup
theorem yj {P:Program} {G:Gh} {s:St} {w:World} {K:AV→St→Prop} {it:AV} {xi:Value} (ty:TypeId) (h:nxW it s K) (hr:Rep G it xi) (hS:Sim G s w) :
  ∃ v w' av s',(Instr.next xi false ty).run P w=.ok v w'∧Stp G s w G s' w'∧Sim G s' w'∧Rep G av v∧K av s':=by
 unfold nxW at h
 split at h
 ·rename_i g
  split at h
  ·rename_i m ver done hg
   split at h
   ·rename_i kv ver' hm
    obtain ⟨hv,hover,hstep⟩:=h
    subst hv
    cases hr with
    | ptr _ _ _ l hl=>
     obtain ⟨h0,h1,lm,clock,seen,es,h2,h3,h4,h5,h6,h7,h8,h9⟩:=hS.iter hg hm hl
     have hborn:∀ x∈es.toList,x.born<clock:=by
      intro x hx
      obtain ⟨i,hi,hx⟩:=List.getElem_of_mem hx
      have hi':i<es.size:=by simpa using hi
      have he:es[i]?=some x:=by rw [←hx,Array.getElem?_eq_getElem hi']; simp
      exact (h6 i x _ he (List.getElem?_eq_getElem (by omega))).2.2
     simp only [Nat.zero_mul,Nat.add_zero]
     rcases qU (P:=P) w ty l.b lm.b clock seen es h3 h4 hborn with ⟨q1,q2⟩ | ⟨e,he,w1,hw,q2⟩
     ·refine ⟨_,w,.tup [.bool false],s,q2,Stp.refl G s w,hS,(RepL.cons (.sc _ rfl) (RepL.nil G)).toTup,hover ?_⟩
      intro i hi
      have hi':i<es.size:=by omega
      have hall:es[i]∉leftOf es seen:=by
       have:leftOf es seen=#[]:=Array.eq_empty_of_size_eq_zero q1
       rw [this]; simp
      refine (h8 i es[i] (Array.getElem?_eq_getElem hi')).1 ?_
      refine Classical.byContradiction fun hno=>hall ?_
      simp [leftOf,hno]
     ·obtain ⟨hmem,hseen⟩:=mem_left he
      obtain ⟨i,hi,hx⟩:=List.getElem_of_mem hmem
      have hi':i<es.size:=by simpa using hi
      have hei:es[i]?=some e:=by rw [←hx,Array.getElem?_eq_getElem hi']; simp
      have hns:e.born∉seen:=by simpa using hseen
      have hnd:i∉done:=fun hd=>hns ((h8 i e hei).2 hd)
      have hki:kv[i]?=some kv[i]:=List.getElem?_eq_getElem (by omega)
      obtain ⟨r1,r2,_⟩:=h6 i e _ hei hki
      have hS1:Sim G s w1∧w1.heap=w.heap∧w1.os=w.os∧w1.tape=w.tape∧w1.output=w.output:=by
       rcases hw with rfl | rfl
       ·exact ⟨hS,rfl,rfl,rfl,rfl⟩
       ·exact ⟨hS.drew,rfl,rfl,rfl,rfl⟩
      obtain ⟨hS1,hh,ho,htp,hop⟩:=hS1
      have hlt:l.b<w1.heap.size:=by rw [hh]; exact cO h3
      have hloc:=gB hl
      have hbm:lm.b≠l.b:=by
       intro e'
       rw [e'] at h4
       rw [h3] at h4; cases h4
      have hmg:m≠g:=by
       rintro rfl
       rw [hg] at hm; cases hm
      have hother:∀ b,b<w1.heap.size→b≠l.b→(w1.heap.setIfInBounds l.b (.mapIter (some lm.b) clock (seen.push e.born) clock))[b]?=w1.heap[b]?:=fun b _ hne=>by
       rw [Array.getElem?_setIfInBounds,if_neg (Ne.symm hne)]
      have hself:(w1.heap.setIfInBounds l.b (Obj.mapIter (some lm.b) clock (seen.push e.born) clock))[l.b]?=some (.mapIter (some lm.b) clock (seen.push e.born) clock):=by
       rw [Array.getElem?_setIfInBounds,if_pos rfl,if_pos hlt]
      have hsim:=Sim.put (g:=g) (b':=.iter m ver' (done++[i])) (l':=l) (c':=s.c) (w':={ w1 with heap:=w1.heap.setIfInBounds l.b (.mapIter (some lm.b) clock (seen.push e.born) clock) }) hS1 (Nat.le_refl _) (hS.hLt hg) (by rw [hloc]; exact .refl G)
       (fun hc=>hS1.freeOther hg (by simp) hl hc) (fun b hlt' hne=>hother b hlt' (hne h0)) (fun o v hc hmm=>by
        have:=hS1.mem _ _ _ hmm
        simp [World.cell?,hh,h3] at this) (by simp)
       ⟨h0,h1,lm,clock,clock,seen.push e.born,by rw [hloc]; exact h2,hself,fun kv' hkv'=>⟨es,clock,(hother _ (by rw [hh]; exact cO h4) hbm).trans (by rw [hh]; exact h4),rfl,rfl,fun j e' he'=>by
        constructor
        ·intro hin
         rcases Array.mem_push.1 hin with hin | hin
         ·simp [(h8 j e' he').1 hin]
         ·have:=h7 j i e' e he' hei hin
          subst this; simp
        ·intro hin
         rcases List.mem_append.1 hin with hin | hin
         ·exact Array.mem_push.2 (.inl ((h8 j e' he').2 hin))
         ·have:j=i:=by simpa using hin
          subst this
          rw [hei] at he'; injection he' with he'; subst he'
          exact Array.mem_push.2 (.inr rfl),fun j e' hj he'=>by
        have:j=i:=by simpa using hj.symm
        subst this
        rw [hei] at he'; injection he' with he'; subst he'
        simp⟩⟩
      rw [hloc] at hsim
      refine ⟨_,_,.tup [.bool true,kv[i].1,kv[i].2],{ h:=upd s.h g (some (.iter m ver' (done++[i]))),c:=s.c },q2,?_,hsim,tup3 (.sc _ rfl) r1 r2,hstep i _ hki hnd⟩
      refine ⟨.refl G,Nat.le_refl _,ho,htp,hop,by simp [hh],fun b hb' ho'=>?_,?_⟩
      ·by_cases e2:b=l.b
       ·exact absurd ⟨g,_,l,hg,hl,e2.symm,h0⟩ ho'
       ·rw [←hh]; exact hother b (by rw [hh]; exact hb') e2
      ·rintro b hb' ⟨k,bk,lk,hk,hlk,he',hck⟩
       have hk':upd s.h g (some (.iter m ver' (done++[i]))) k=some bk:=hk
       unfold upd at hk'
       split at hk'
       ·rename_i e2; subst e2; exact ⟨k,_,lk,hg,hlk,he',hck⟩
       ·exact ⟨k,bk,lk,hk',hlk,he',hck⟩
   ·exact h.elim
  ·exact h.elim
 ·exact h.elim
theorem yi {P:Program} {G:Gh} {s:St} {w:World} {it av:AV} {xi:Value} (h:ntI it s=some av) (hr:Rep G it xi) (hS:Sim G s w):Out P (Instr.entry xi) G s w av s:=by
 unfold ntI at h
 split at h
 ·rename_i g
  split at h
  ·rename_i m ver done hg
   split at h
   ·rename_i kv ver' i hm hd
    split at h
    ·rename_i hv
     subst hv
     obtain ⟨p,hp,rfl⟩:=fe h
     cases hr with
     | ptr _ _ _ l hl=>
      obtain ⟨h0,h1,lm,clock,seen,es,h2,h3,h4,h5,h6,h7,h8,h9⟩:=hS.iter hg hm hl
      have hi':i<es.size:=by rw [h5]; exact (List.getElem?_eq_some_iff.1 hp).1
      have hei:es[i]?=some es[i]:=Array.getElem?_eq_getElem hi'
      obtain ⟨r1,r2,_⟩:=h6 i _ p hei hp
      have hback:=h9 i _ hd hei
      have hfind:es.find? (fun x=>x.born==es[i].born)=some es[i]:=by
       cases hf:es.find? (fun x=>x.born==es[i].born) with
       | none=>
        rw [Array.find?_eq_none] at hf
        have:=hf es[i] (Array.getElem_mem hi')
        simp at this
       | some e'=>
        have hb:=Array.find?_some hf
        have hm':=Array.mem_of_find?_eq_some hf
        obtain ⟨j,hj,he'⟩:=Array.getElem_of_mem hm'
        have:=h7 j i e' es[i] (by rw [←he']; exact Array.getElem?_eq_getElem hj) hei (by simpa using hb)
        subst this
        rw [←he']
      refine Out.quiet hS (v:=.tuple #[es[i].key,es[i].val]) ?_ (tup2 r1 r2)
      simp only [Nat.zero_mul,Nat.add_zero]
      simp [Instr.entry,iX h3,hback,MapKept.run_getObj_map h4,hfind]
    ·cases h
   ·cases h
  ·cases h
 ·cases h
end Go.AM
