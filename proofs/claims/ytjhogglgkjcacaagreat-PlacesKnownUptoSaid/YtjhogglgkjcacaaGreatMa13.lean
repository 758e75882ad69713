/- Part of the claim: see its last text. -/
import Derived.Test.YtjhogglgkjcacaaGreatMa12
set_option linter.all false
namespace Go.AM
theorem oc {k:FK} {a:AV} (h:mT k a=true):∃ r,fN k a a=some r:=by
 unfold mT at h
 split at h <;> first | (simp [fN]; done) | cases h
theorem mU:∀ {ks:List FK} {as:List AV},iq ks as=true→∃ r,ci ks as as=some r
 | [],[],_=>⟨true,rfl⟩
 | [],_::_,h=>by simp [iq] at h
 | _::_,[],h=>by simp [iq] at h
 | k::ks,a::as,h=>by
  simp only [iq,Bool.and_eq_true] at h
  obtain ⟨r,hr⟩:=oc h.1
  obtain ⟨q,hq⟩:=mU h.2
  exact ⟨r&&q,by simp [ci,hr,hq]⟩
theorem qd {kk:KK} {a:AV} (h:lC kk a=true):∃ r,fQ kk a a=some r:=by
 cases kk with
 | one k=>exact oc h
 | agg ks=>
  cases a <;> simp [lC] at h
  obtain ⟨r,hr⟩:=mU h
  exact ⟨r,hr⟩
theorem qc {kk:KK} {a:AV} {kv:List (AV×AV)} {r:Option Nat} (h:iT kk a kv=some r):lC kk a=true∧dR kk a kv 0=some r:=by
 unfold iT at h
 split at h
 ·exact ⟨by assumption,h⟩
 ·cases h
theorem Sim.map {G:Gh} {s:St} {w:World} (hS:Sim G s w) {g ver:Nat} {kv:List (AV×AV)} {l:Loc} (hg:s.h g=some (.map kv ver)) (hl:G.loc g=some l) :
  0<l.cap∧ver<s.c∧∃ (es:Array MapEntry) (clock:Nat),w.heap[l.b]?=some (.map es clock)∧es.size=kv.length ∧
   (∀ (i:Nat) (e:MapEntry) (p:AV×AV),es[i]?=some e→kv[i]?=some p→Rep G p.1 e.key∧Rep G p.2 e.val∧e.born<clock) ∧
   (∀ (i j:Nat) (e e':MapEntry),es[i]?=some e→es[j]?=some e'→e.born=e'.born→i=j):=by
 obtain ⟨l',hl',⟨h0,es,clock,h1,h2,h3,h4⟩,h5⟩:=hS.blk g _ hg
 rw [hl] at hl'; injection hl' with e; subst e
 exact ⟨h0,h5,es,clock,h1,h2,h3,h4⟩
theorem gf {P:Program} {G:Gh} {t:TypeId} {kk:KK} (ht:eY P t=some kk) {a:AV} {x:Value} (ha:Rep G a x) (w:World) {es:Array MapEntry} {kv:List (AV×AV)} {r:Option Nat} (hl:es.size=kv.length) {clock:Nat}
  (hr:∀ (i:Nat) (e:MapEntry) (p:AV×AV),es[i]?=some e→kv[i]?=some p→Rep G p.1 e.key∧Rep G p.2 e.val∧e.born<clock) (h:iT kk a kv=some r) :
  (∀ em,(Instr.checkKey em 10000 t x).run P w=.ok () w)∧(Instr.findKey t x es.toList).run P w=.ok (r.bind fun j=>(es[j]?).map fun e=>(j,e.val)) w∧(∀ j,r=some j→j<es.size):=by
 obtain ⟨hw,hk⟩:=qc h
 obtain ⟨q,hq⟩:=qd hw
 obtain ⟨h1,h2⟩:=mY ht ha w (es:=es.toList) (kv:=kv) (by simpa using hl) (fun j e p he hp=>(hr j e p (by simpa using he) hp).1) hk
 exact ⟨fun em=>lL ht ha ha hq em w,by simpa using h1,fun j hj=>by simpa using h2 j hj⟩
theorem kO {G:Gh} {s:St} {w:World} (hS:Sim G s w) {g ver:Nat} {kv kv':List (AV×AV)} {l:Loc} (hg:s.h g=some (.map kv ver)) (hl:G.loc g=some l) {es es':Array MapEntry} {clock clock':Nat} (hb:w.heap[l.b]?=some (.map es clock))
  (hlen:es'.size=kv'.length) (hrep:∀ (i:Nat) (e:MapEntry) (p:AV×AV),es'[i]?=some e→kv'[i]?=some p→Rep G p.1 e.key∧Rep G p.2 e.val∧e.born<clock')
  (hinj:∀ (i j:Nat) (e e':MapEntry),es'[i]?=some e→es'[j]?=some e'→e.born=e'.born→i=j) :
  Sim G { h:=upd s.h g (some (.map kv' s.c)),c:=s.c+1 } { w with heap:=w.heap.setIfInBounds l.b (.map es' clock') } ∧
  Stp G s w G { h:=upd s.h g (some (.map kv' s.c)),c:=s.c+1 } { w with heap:=w.heap.setIfInBounds l.b (.map es' clock') }:=by
 obtain ⟨hcap,hver,_⟩:=hS.map hg hl
 have hlt:=cO hb
 have hloc:=gB hl
 have hother:∀ b,b<w.heap.size→b≠l.b→(w.heap.setIfInBounds l.b (.map es' clock'))[b]?=w.heap[b]?:=fun b _ hne=>by
  rw [Array.getElem?_setIfInBounds,if_neg (Ne.symm hne)]
 have hself:(w.heap.setIfInBounds l.b (Obj.map es' clock'))[l.b]?=some (.map es' clock'):=by
  rw [Array.getElem?_setIfInBounds,if_pos rfl,if_pos hlt]
 have hsim:=Sim.put (g:=g) (b':=.map kv' s.c) (l':=l) (c':=s.c+1) (w':={ w with heap:=w.heap.setIfInBounds l.b (.map es' clock') }) hS (Nat.le_succ _) (Nat.lt_succ_of_lt (hS.hLt hg)) (by rw [hloc]; exact .refl G)
  (fun hc=>hS.freeOther hg (by simp) hl hc) (fun b hlt' hne=>hother b hlt' (hne hcap)) (fun o v hc hm=>by
   have:=hS.mem _ _ _ hm
   simp [World.cell?,hb] at this) (by intro kv0 ver0 e; injection e with _ e; omega)
  ⟨⟨hcap,es',clock',hself,hlen,by rw [hloc]; exact hrep,hinj⟩,Nat.lt_succ_self _⟩
 rw [hloc] at hsim
 refine ⟨hsim,.refl G,Nat.le_succ _,rfl,rfl,rfl,by simp,fun b hb' ho=>?_,?_⟩
 ·by_cases e2:b=l.b
  ·exact absurd ⟨g,_,l,hg,hl,e2.symm,hcap⟩ ho
  ·exact hother b hb' e2
 ·rintro b hb' ⟨k,bk,lk,hk,hlk,he,hck⟩
  have hk':upd s.h g (some (.map kv' s.c)) k=some bk:=hk
  unfold upd at hk'
  split at hk'
  ·rename_i e2; subst e2; exact ⟨k,_,lk,hg,hlk,he,hck⟩
  ·exact ⟨k,bk,lk,hk',hlk,he,hck⟩
theorem rL {P:Program} {G:Gh} {s:St} {w:World} (t:TypeId) (hS:Sim G s w) :
  Out P (Instr.makeMap t none) G s w (.map s.c) { h:=upd s.h s.c (some (.map [] s.c)),c:=s.c+1 }:=by
 have hold:∀ b,b<w.heap.size→(w.alloc (.map #[] 0)).heap[b]?=w.heap[b]?:=fun b hb=>heap_alloc_old w _ hb
 have h1:=Sim.add (b':=.map [] s.c) (l':=⟨w.heap.size,1,0⟩) (c':=s.c+1) (w':=w.alloc (.map #[] 0)) hS (Nat.lt_succ_self _) hold (fun _=>Nat.le_refl _) (by intro kv0 ver0 e; injection e with _ e; omega)
  ⟨⟨by simp,#[],0,heap_alloc_new w _,rfl,fun i e p he=>by simp at he,fun i j e e' he=>by simp at he⟩,Nat.lt_succ_self _⟩
 have h2:=Stp.add (b':=.map [] s.c) (l':=⟨w.heap.size,1,0⟩) (c':=s.c+1) (w':=w.alloc (.map #[] 0)) hS (Nat.lt_succ_self _) hold (fun _=>Nat.le_refl _) (by simp) rfl rfl rfl
 exact ⟨.map (some w.heap.size),_,_,by simp [Instr.makeMap,newObj,Sem.run],h2,h1,.map s.c ⟨w.heap.size,1,0⟩ (bX _ _ _)⟩
theorem tup2 {G:Gh} {a b:AV} {x y:Value} (ha:Rep G a x) (hb:Rep G b y):Rep G (.tup [a,b]) (.tuple #[x,y]):=(RepL.cons ha (RepL.cons hb (RepL.nil G))).toTup
theorem xR {P:Program} {G:Gh} {s:St} {w:World} {t kt et:TypeId} {kk:KK} (ht:P.underlying t=some (.map kt et)) (hk:eY P kt=some kk) {i:TypeInfo} {z:Value} (hi:P.info? et=some i) (hz:i.zero=some z) {ok:Bool} {m k av:AV} {xm xk:Value}
  (h:lkI kk (ofValue z) ok m k s=some av) (hm:Rep G m xm) (hkr:Rep G k xk) (hS:Sim G s w):Out P (Instr.lookup t xm xk ok) G s w av s:=by
 have hzero:(zeroValue et).run P w=.ok z w:=by simp [zeroValue,typeInfo,hi,hz]
 have fin:∀ (b:Bool) (v:Value) (a:AV),Rep G a v→Rep G (if ok then .tup [a,.bool b] else a) (if ok then .tuple #[v,.bool b] else v):=by
  intro b v a ha
  cases ok
  ·simpa using ha
  ·simpa using tup2 ha (.sc _ rfl)
 unfold lkI at h
 split at h
 ·rename_i g
  split at h
  ·rename_i kv ver hg
   cases hm with
   | map _ l hl=>
    obtain ⟨_,_,es,clock,h1,h2,h3,h4⟩:=hS.map hg hl
    split at h
    ·rename_i j hj
     obtain ⟨c1,c2,c3⟩:=gf hk hkr w h2 h3 hj
     obtain ⟨p,hp,rfl⟩:=fe h
     have hlt:=c3 j rfl
     have he:es[j]?=some es[j]:=Array.getElem?_eq_getElem hlt
     refine Out.quiet hS (v:=if ok then .tuple #[es[j].val,.bool true] else es[j].val) ?_ (fin true _ _ (h3 j _ p he hp).2.1)
     simp [Instr.lookup,run_underlying ht,MapKept.run_getObj_map h1,c1,c2,he]
    ·rename_i hj
     obtain ⟨c1,c2,c3⟩:=gf hk hkr w h2 h3 hj
     injection h with h; subst h
     refine Out.quiet hS (v:=if ok then .tuple #[z,.bool false] else z) ?_ (fin false _ _ (ff G z))
     simp [Instr.lookup,run_underlying ht,MapKept.run_getObj_map h1,c1,c2,hzero]
    ·cases h
  ·cases h
 ·split at h
  ·rename_i hw
   injection h with h; subst h
   obtain ⟨rfl,_⟩:=bC hm
   obtain ⟨q,hq⟩:=qd hw
   have hc:=fun em=>lL hk hkr hkr hq em w
   have hf:=(mY hk hkr w (es:=[]) (kv:=[]) (r:=none) rfl (by simp) rfl).1
   refine Out.quiet hS (v:=if ok then .tuple #[z,.bool false] else z) ?_ (fin false _ _ (ff G z))
   simp [Instr.lookup,run_underlying ht,hc,hf,hzero]
  ·cases h
 ·cases h
theorem kr {k:FK} {x y:Value} {r:Bool} (h:Same k x y r) (n:Nat):Instr.sameBits n x x=true:=by
 cases n <;> cases h <;> simp [Instr.sameBits,fB]
theorem kB {f:Value×Value→Bool}:∀ (l:List Value),(∀ x∈l,f (x,x)=true)→(l.zip l).all f=true
 | [],_=>rfl
 | x::l,h=>by simp only [List.zip_cons_cons,List.all_cons,h x (by simp),Bool.true_and]; exact kB l fun y hy=>h y (by simp [hy])
theorem mV {G:Gh}:∀ {ks:List FK} {as bs:List AV} {xs ys:List Value},ci ks as bs=some true→RepL G as xs→RepL G bs ys→xs=ys∧∀ x∈xs,∀ n,Instr.sameBits n x x=true
 | [],as,bs,xs,ys,h,h1,h2=>by
  obtain ⟨rfl,rfl,_⟩:=qJ h
  have e1:xs=[]:=List.eq_nil_of_length_eq_zero h1.1.symm
  have e2:ys=[]:=List.eq_nil_of_length_eq_zero h2.1.symm
  subst e1; subst e2
  exact ⟨rfl,by simp⟩
 | k::ks,as,bs,xs,ys,h,h1,h2=>by
  obtain ⟨a,as',b,bs',r1,r2,rfl,rfl,q1,q2,q3⟩:=kE h
  have hb:r1=true∧r2=true:=by
   have:=q3.symm
   rwa [Bool.and_eq_true] at this
  obtain ⟨rfl,rfl⟩:=hb
  cases xs with
  | nil=>have:=h1.1; simp at this
  | cons x xs=>
   cases ys with
   | nil=>have:=h2.1; simp at this
   | cons y ys=>
    have hs:=dX q1 (h1.2 0 a x rfl rfl) (h2.2 0 b y rfl rfl)
    obtain ⟨e,hbits⟩:=mV q2 (xs:=xs) (ys:=ys) (by simpa using h1.drop 1) (by simpa using h2.drop 1)
    refine ⟨by rw [hs.eq,e],?_⟩
    intro z hz n
    rcases List.mem_cons.1 hz with rfl | hz
    ·exact kr hs n
    ·exact hbits z hz n
theorem uJ {P:Program} {G:Gh} {w:World} {kk:KK} {a b:AV} {x y:Value} (h:fQ kk a b=some true) (ha:Rep G a x) (hb:Rep G b y):(Instr.keyThatStays y x).run P w=.ok x w:=by
 have:y=x∧Instr.sameBits 10000 x x=true:=by
  cases kk with
  | one k=>have:=dX h ha hb; exact ⟨this.eq.symm,kr this _⟩
  | agg ks=>
   unfold fQ at h
   split at h
   ·rename_i e; cases e
   ·rename_i ks0 as bs e
    injection e with e; subst e
    obtain ⟨xs,rfl,hxs⟩:=ha.ofAgg
    obtain ⟨ys,rfl,hys⟩:=hb.ofAgg
    obtain ⟨e,hbits⟩:=mV h hxs hys
    have:xs=ys:=Array.toList_inj.1 e
    subst this
    refine ⟨rfl,?_⟩
    show Instr.sameBits (9999+1) _ _=true
    simp only [Instr.sameBits,beq_self_eq_true,Bool.true_and]
    exact kB _ fun x hx=>hbits x hx _
   ·cases h
 rw [this.1]
 simp [Instr.keyThatStays,this.2]
theorem qb {kk:KK} {a:AV}:∀ {kv:List (AV×AV)} {i j:Nat},dR kk a kv i=some (some j)→i≤j∧∃ p,kv[j-i]?=some p∧fQ kk a p.1=some true
 | [],i,j,h=>by simp [dR] at h
 | p::kv,i,j,h=>by
  simp only [dR] at h
  split at h
  ·rename_i hk
   injection h with h; injection h with h; subst h
   exact ⟨Nat.le_refl _,p,by simp,hk⟩
  ·obtain ⟨h1,q,h2,h3⟩:=qb h
   refine ⟨by omega,q,?_,h3⟩
   rw [show j-i=(j-(i+1))+1 by omega,List.getElem?_cons_succ]; exact h2
  ·cases h
theorem xW {P:Program} {G:Gh} {s s':St} {w:World} {t kt et:TypeId} {kk:KK} (ht:P.underlying t=some (.map kt et)) (hk:eY P kt=some kk) {m k v:AV} {xm xk xv:Value}
  (h:muI kk m k v s=some s') (hm:Rep G m xm) (hkr:Rep G k xk) (hv:Rep G v xv) (hS:Sim G s w):∃ w',(Instr.mapUpdate t xm xk xv).run P w=.ok () w'∧Stp G s w G s' w'∧Sim G s' w':=by
 unfold muI at h
 split at h
 ·rename_i g
  split at h
  ·rename_i kv ver hg
   cases hm with
   | map _ l hl=>
    obtain ⟨_,_,es,clock,h1,h2,h3,h4⟩:=hS.map hg hl
    split at h
    ·rename_i j hj
     obtain ⟨c1,c2,c3⟩:=gf hk hkr w h2 h3 hj
     injection h with h; subst h
     have hlt:=c3 j rfl
     have he:es[j]?=some es[j]:=Array.getElem?_eq_getElem hlt
     obtain ⟨_,p,hp,hpe⟩:=qb (qc hj).2
     simp only [Nat.sub_zero] at hp
     have hst:=uJ (P:=P) (w:=w) hpe hkr (h3 j _ p he hp).1
     obtain ⟨q1,q2⟩:=kO hS hg hl (es':=es.modify j fun e=>{ e with key:=xk,val:=xv }) (clock':=clock) (kv':=kv.set j (k,v)) h1 (by simpa using h2) (by
      intro i e q he' hq
      rw [Array.getElem?_modify] at he'
      rw [List.getElem?_set] at hq
      split at he'
      ·rename_i e1; subst e1
       rw [he] at he'; simp at he'; subst he'
       rw [if_pos rfl,if_pos (by omega)] at hq
       injection hq with hq; subst hq
       exact ⟨hkr,hv,(h3 j _ p he hp).2.2⟩
      ·rename_i e1
       rw [if_neg e1] at hq
       exact h3 i e q he' hq) (by
      intro i i' e e' he1 he2 hb
      have look:∀ (i:Nat) (e:MapEntry),(es.modify j fun e=>{ e with key:=xk,val:=xv })[i]?=some e→∃ e0:MapEntry,es[i]?=some e0∧e0.born=e.born:=by
       intro i e he'
       rw [Array.getElem?_modify] at he'
       split at he'
       ·rename_i e1; subst e1
        rw [he] at he'; simp at he'; subst he'
        exact ⟨_,he,rfl⟩
       ·exact ⟨e,he',rfl⟩
      obtain ⟨e0,a1,a2⟩:=look i e he1
      obtain ⟨e0',b1,b2⟩:=look i' e' he2
      exact h4 i i' e0 e0' a1 b1 (by rw [a2,b2,hb]))
     refine ⟨_,?_,q2,q1⟩
     simp [Instr.mapUpdate,run_underlying ht,MapKept.run_getObj_map h1,c1,c2,he,hst,MapKept.run_setObj_map _ h1]
    ·rename_i hj
     obtain ⟨c1,c2,c3⟩:=gf hk hkr w h2 h3 hj
     injection h with h; subst h
     obtain ⟨q1,q2⟩:=kO hS hg hl (es':=es.push ⟨xk,xv,clock⟩) (clock':=clock+1) (kv':=kv++[(k,v)]) h1 (by simp [h2]) (by
      intro i e q he' hq
      rw [Array.getElem?_push] at he'
      rw [List.getElem?_append] at hq
      split at he'
      ·rename_i e1; injection he' with he'; subst he'
       rw [if_neg (by omega)] at hq
       have:i-kv.length=0:=by omega
       rw [this] at hq; simp at hq; subst hq
       exact ⟨hkr,hv,Nat.lt_succ_self _⟩
      ·rename_i e1
       have hi:i<es.size:=(Array.getElem?_eq_some_iff.1 he').1
       rw [if_pos (by omega)] at hq
       obtain ⟨a1,a2,a3⟩:=h3 i e q he' hq
       exact ⟨a1,a2,Nat.lt_succ_of_lt a3⟩) (by
      have born:∀ (i:Nat) (e:MapEntry),es[i]?=some e→e.born<clock:=by
       intro i e he'
       have hi:i<es.size:=(Array.getElem?_eq_some_iff.1 he').1
       exact (h3 i e _ he' (List.getElem?_eq_getElem (by omega))).2.2
      intro i i' e e' he1 he2 hb
      rw [Array.getElem?_push] at he1 he2
      split at he1
      ·rename_i e1; injection he1 with he1; subst he1
       split at he2
       ·rename_i e2; omega
       ·have:=born i' e' he2
        simp at hb; omega
      ·split at he2
       ·rename_i e2; injection he2 with he2; subst he2
        have:=born i e he1
        simp at hb; omega
       ·exact h4 i i' e e' he1 he2 hb)
     refine ⟨_,?_,q2,q1⟩
     simp [Instr.mapUpdate,run_underlying ht,MapKept.run_getObj_map h1,c1,c2,MapKept.run_setObj_map _ h1]
    ·cases h
  ·cases h
 ·cases h
end Go.AM
