/- Part of the claim: see its last text. -/
import Derived.Test.YtjhogglgkjcacaaGreatMa7
import Derived.Test.YtjhogglgkjcacaaGreatMa5
set_option linter.all false
namespace Go.AM
theorem oO {k:FK} {a:AV} (h:mW k a=true):∃ r,gF k a a=some r:=by
 unfold mW at h
 split at h <;> first | (simp [gF]; done) | cases h
theorem mX:∀ {ks:List FK} {as:List AV},ii ks as=true→∃ r,cq ks as as=some r
 | [],[],_=>⟨true,rfl⟩
 | [],_::_,h=>by simp [ii] at h
 | _::_,[],h=>by simp [ii] at h
 | k::ks,a::as,h=>by
  simp only [ii,Bool.and_eq_true] at h
  obtain ⟨r,hr⟩:=oO h.1
  obtain ⟨q,hq⟩:=mX h.2
  exact ⟨r&&q,by simp [cq,hr,hq]⟩
theorem qt {kk:KK} {a:AV} (h:lD kk a=true):∃ r,fD kk a a=some r:=by
 cases kk with
 | one k=>exact oO h
 | agg ks=>
  cases a <;> simp [lD] at h
  obtain ⟨r,hr⟩:=mX h
  exact ⟨r,hr⟩
theorem qr {kk:KK} {a:AV} {kv:List (AV×AV)} {r:Option Nat} (h:iU kk a kv=some r):lD kk a=true∧dI kk a kv 0=some r:=by
 unfold iU at h
 split at h
 ·exact ⟨by assumption,h⟩
 ·cases h
theorem Sim.map {G:Gh} {s:St} {w:World} (hS:Sim G s w) {g ver:Nat} {kv:List (AV×AV)} {l:Loc} (hg:s.h g=some (.map kv ver)) (hl:G.loc g=some l) :
  0<l.cap∧ver<s.c∧∃ (es:Array MapEntry) (clock:Nat),w.heap[l.b]?=some (.map es clock)∧es.size=kv.length ∧
   (∀ (i:Nat) (e:MapEntry) (p:AV×AV),es[i]?=some e→kv[i]?=some p→Rep G p.1 e.key∧Rep G p.2 e.val∧e.born<clock) ∧
   (∀ (i j:Nat) (e e':MapEntry),es[i]?=some e→es[j]?=some e'→e.born=e'.born→i=j):=by
 obtain ⟨l',hl',⟨h0,es,clock,h1,h2,h3,h4⟩,h5⟩:=hS.blk g _ hg
 rw [hl] at hl'; injection hl' with e; subst e
 exact ⟨h0,h5,es,clock,h1,h2,h3,h4⟩
theorem fR {P:Program} {G:Gh} {t:TypeId} {kk:KK} (ht:eM P t=some kk) {a:AV} {x:Value} (ha:Rep G a x) (w:World) {es:Array MapEntry} {kv:List (AV×AV)} {r:Option Nat} (hl:es.size=kv.length) {clock:Nat}
  (hr:∀ (i:Nat) (e:MapEntry) (p:AV×AV),es[i]?=some e→kv[i]?=some p→Rep G p.1 e.key∧Rep G p.2 e.val∧e.born<clock) (h:iU kk a kv=some r) :
  (∀ em,(Instr.checkKey em 10000 t x).run P w=.ok () w)∧(Instr.findKey t x es.toList).run P w=.ok (r.bind fun j=>(es[j]?).map fun e=>(j,e.val)) w∧(∀ j,r=some j→j<es.size):=by
 obtain ⟨hw,hk⟩:=qr h
 obtain ⟨q,hq⟩:=qt hw
 obtain ⟨h1,h2⟩:=m7 ht ha w (es:=es.toList) (kv:=kv) (by simpa using hl) (fun j e p he hp=>(hr j e p (by simpa using he) hp).1) hk
 exact ⟨fun em=>lL ht ha ha hq em w,by simpa using h1,fun j hj=>by simpa using h2 j hj⟩
theorem kK {G:Gh} {s:St} {w:World} (hS:Sim G s w) {g ver:Nat} {kv kv':List (AV×AV)} {l:Loc} (hg:s.h g=some (.map kv ver)) (hl:G.loc g=some l) {es es':Array MapEntry} {clock clock':Nat} (hb:w.heap[l.b]?=some (.map es clock))
  (hlen:es'.size=kv'.length) (hrep:∀ (i:Nat) (e:MapEntry) (p:AV×AV),es'[i]?=some e→kv'[i]?=some p→Rep G p.1 e.key∧Rep G p.2 e.val∧e.born<clock')
  (hinj:∀ (i j:Nat) (e e':MapEntry),es'[i]?=some e→es'[j]?=some e'→e.born=e'.born→i=j) :
  Sim G { h:=upd s.h g (some (.map kv' s.c)),c:=s.c+1 } { w with heap:=w.heap.setIfInBounds l.b (.map es' clock') } ∧
  Stp G s w G { h:=upd s.h g (some (.map kv' s.c)),c:=s.c+1 } { w with heap:=w.heap.setIfInBounds l.b (.map es' clock') }:=by
 obtain ⟨hcap,hver,_⟩:=hS.map hg hl
 have hlt:=cK hb
 have hloc:=f7 hl
 have hother:∀ b,b<w.heap.size→b≠l.b→(w.heap.setIfInBounds l.b (.map es' clock'))[b]?=w.heap[b]?:=fun b _ hne=>by
  rw [Array.getElem?_setIfInBounds,if_neg (Ne.symm hne)]
 have hself:(w.heap.setIfInBounds l.b (Obj.map es' clock'))[l.b]?=some (.map es' clock'):=by
  rw [Array.getElem?_setIfInBounds,if_pos rfl,if_pos hlt]
 have hsim:=Sim.put (g:=g) (b':=.map kv' s.c) (l':=l) (c':=s.c+1) (w':={ w with heap:=w.heap.setIfInBounds l.b (.map es' clock') }) hS (Nat.le_succ _) (Nat.lt_succ_of_lt (hS.hLt hg)) (by rw [hloc]; exact .refl G)
  (fun hc=>hS.freeOther hg (by simp) hl hc) (fun b hlt' hne=>hother b hlt' (hne hcap)) (fun o v hc hm=>by
   have:=hS.mem _ _ _ hm
   simp [World.cell?,hb] at this) (by intro kv0 ver0 e; injection e with _ e; omega)
  ⟨⟨hcap,es',clock',hself,hlen,by rw [hloc]; exact hrep,hinj⟩,Nat.lt_succ_self _⟩
 rw [hloc] at hsim
 refine ⟨hsim,.refl G,Nat.le_succ _,rfl,rfl,rfl,by simp,fun b hb' ho=>?_,?_⟩
 ·by_cases e2:b=l.b
  ·exact absurd ⟨g,_,l,hg,hl,e2.symm,hcap⟩ ho
  ·exact hother b hb' e2
 ·rintro b hb' ⟨k,bk,lk,hk,hlk,he,hck⟩
  have hk':upd s.h g (some (.map kv' s.c)) k=some bk:=hk
  unfold upd at hk'
  split at hk'
  ·rename_i e2; subst e2; exact ⟨k,_,lk,hg,hlk,he,hck⟩
  ·exact ⟨k,bk,lk,hk',hlk,he,hck⟩
theorem sg {P:Program} {G:Gh} {s:St} {w:World} (t:TypeId) (hS:Sim G s w) :
  Out P (Instr.makeMap t none) G s w (.map s.c) { h:=upd s.h s.c (some (.map [] s.c)),c:=s.c+1 }:=by
 have hold:∀ b,b<w.heap.size→(w.alloc (.map #[] 0)).heap[b]?=w.heap[b]?:=fun b hb=>heap_alloc_old w _ hb
 have h1:=Sim.add (b':=.map [] s.c) (l':=⟨w.heap.size,1,0⟩) (c':=s.c+1) (w':=w.alloc (.map #[] 0)) hS (Nat.lt_succ_self _) hold (fun _=>Nat.le_refl _) (by intro kv0 ver0 e; injection e with _ e; omega)
  ⟨⟨by simp,#[],0,heap_alloc_new w _,rfl,fun i e p he=>by simp at he,fun i j e e' he=>by simp at he⟩,Nat.lt_succ_self _⟩
 have h2:=Stp.add (b':=.map [] s.c) (l':=⟨w.heap.size,1,0⟩) (c':=s.c+1) (w':=w.alloc (.map #[] 0)) hS (Nat.lt_succ_self _) hold (fun _=>Nat.le_refl _) (by simp) rfl rfl rfl
 exact ⟨.map (some w.heap.size),_,_,by simp [Instr.makeMap,newObj,Sem.run],h2,h1,.map s.c ⟨w.heap.size,1,0⟩ (ca _ _ _)⟩
theorem tup2 {G:Gh} {a b:AV} {x y:Value} (ha:Rep G a x) (hb:Rep G b y):Rep G (.tup [a,b]) (.tuple #[x,y]):=(RepL.cons ha (RepL.cons hb (RepL.nil G))).toTup
theorem ya {P:Program} {G:Gh} {s:St} {w:World} {t kt et:TypeId} {kk:KK} (ht:P.underlying t=some (.map kt et)) (hk:eM P kt=some kk) {i:TypeInfo} {z:Value} (hi:P.info? et=some i) (hz:i.zero=some z) {ok:Bool} {m k av:AV} {xm xk:Value}
  (h:lkI kk (ofValue z) ok m k s=some av) (hm:Rep G m xm) (hkr:Rep G k xk) (hS:Sim G s w):Out P (Instr.lookup t xm xk ok) G s w av s:=by
 have hzero:(zeroValue et).run P w=.ok z w:=by simp [zeroValue,typeInfo,hi,hz]
 have fin:∀ (b:Bool) (v:Value) (a:AV),Rep G a v→Rep G (if ok then .tup [a,.bool b] else a) (if ok then .tuple #[v,.bool b] else v):=by
  intro b v a ha
  cases ok
  ·simpa using ha
  ·simpa using tup2 ha (.sc _ rfl)
 unfold lkI at h
 split at h
 ·rename_i g
  split at h
  ·rename_i kv ver hg
   cases hm with
   | map _ l hl=>
    obtain ⟨_,_,es,clock,h1,h2,h3,h4⟩:=hS.map hg hl
    split at h
    ·rename_i j hj
     obtain ⟨c1,c2,c3⟩:=fR hk hkr w h2 h3 hj
     obtain ⟨p,hp,rfl⟩:=eR h
     have hlt:=c3 j rfl
     have he:es[j]?=some es[j]:=Array.getElem?_eq_getElem hlt
     refine Out.quiet hS (v:=if ok then .tuple #[es[j].val,.bool true] else es[j].val) ?_ (fin true _ _ (h3 j _ p he hp).2.1)
     simp [Instr.lookup,run_underlying ht,MapKept.run_getObj_map h1,c1,c2,he]
    ·rename_i hj
     obtain ⟨c1,c2,c3⟩:=fR hk hkr w h2 h3 hj
     injection h with h; subst h
     refine Out.quiet hS (v:=if ok then .tuple #[z,.bool false] else z) ?_ (fin false _ _ (eT G z))
     simp [Instr.lookup,run_underlying ht,MapKept.run_getObj_map h1,c1,c2,hzero]
    ·cases h
  ·cases h
 ·split at h
  ·rename_i hw
   injection h with h; subst h
   obtain ⟨rfl,_⟩:=bE hm
   obtain ⟨q,hq⟩:=qt hw
   have hc:=fun em=>lL hk hkr hkr hq em w
   have hf:=(m7 hk hkr w (es:=[]) (kv:=[]) (r:=none) rfl (by simp) rfl).1
   refine Out.quiet hS (v:=if ok then .tuple #[z,.bool false] else z) ?_ (fin false _ _ (eT G z))
   simp [Instr.lookup,run_underlying ht,hc,hf,hzero]
  ·cases h
 ·cases h
theorem kl {k:FK} {x y:Value} {r:Bool} (h:Same k x y r) (n:Nat):Instr.sameBits n x x=true:=by
 cases n <;> cases h <;> simp [Instr.sameBits,fj]
theorem ku {f:Value×Value→Bool}:∀ (l:List Value),(∀ x∈l,f (x,x)=true)→(l.zip l).all f=true
 | [],_=>rfl
 | x::l,h=>by simp only [List.zip_cons_cons,List.all_cons,h x (by simp),Bool.true_and]; exact ku l fun y hy=>h y (by simp [hy])
theorem mY {G:Gh}:∀ {ks:List FK} {as bs:List AV} {xs ys:List Value},cq ks as bs=some true→RepL G as xs→RepL G bs ys→xs=ys∧∀ x∈xs,∀ n,Instr.sameBits n x x=true
 | [],as,bs,xs,ys,h,h1,h2=>by
  obtain ⟨rfl,rfl,_⟩:=ra h
  have e1:xs=[]:=List.eq_nil_of_length_eq_zero h1.1.symm
  have e2:ys=[]:=List.eq_nil_of_length_eq_zero h2.1.symm
  subst e1; subst e2
  exact ⟨rfl,by simp⟩
 | k::ks,as,bs,xs,ys,h,h1,h2=>by
  obtain ⟨a,as',b,bs',r1,r2,rfl,rfl,q1,q2,q3⟩:=kB h
  have hb:r1=true∧r2=true:=by
   have:=q3.symm
   rwa [Bool.and_eq_true] at this
  obtain ⟨rfl,rfl⟩:=hb
  cases xs with
  | nil=>have:=h1.1; simp at this
  | cons x xs=>
   cases ys with
   | nil=>have:=h2.1; simp at this
   | cons y ys=>
    have hs:=dN q1 (h1.2 0 a x rfl rfl) (h2.2 0 b y rfl rfl)
    obtain ⟨e,hbits⟩:=mY q2 (xs:=xs) (ys:=ys) (by simpa using h1.drop 1) (by simpa using h2.drop 1)
    refine ⟨by rw [hs.eq,e],?_⟩
    intro z hz n
    rcases List.mem_cons.1 hz with rfl | hz
    ·exact kl hs n
    ·exact hbits z hz n
theorem uO {P:Program} {G:Gh} {w:World} {kk:KK} {a b:AV} {x y:Value} (h:fD kk a b=some true) (ha:Rep G a x) (hb:Rep G b y):(Instr.keyThatStays y x).run P w=.ok x w:=by
 have:y=x∧Instr.sameBits 10000 x x=true:=by
  cases kk with
  | one k=>have:=dN h ha hb; exact ⟨this.eq.symm,kl this _⟩
  | agg ks=>
   unfold fD at h
   split at h
   ·rename_i e; cases e
   ·rename_i ks0 as bs e
    injection e with e; subst e
    obtain ⟨xs,rfl,hxs⟩:=ha.ofAgg
    obtain ⟨ys,rfl,hys⟩:=hb.ofAgg
    obtain ⟨e,hbits⟩:=mY h hxs hys
    have:xs=ys:=Array.toList_inj.1 e
    subst this
    refine ⟨rfl,?_⟩
    show Instr.sameBits (9999+1) _ _=true
    simp only [Instr.sameBits,beq_self_eq_true,Bool.true_and]
    exact ku _ fun x hx=>hbits x hx _
   ·cases h
 rw [this.1]
 simp [Instr.keyThatStays,this.2]
theorem qq {kk:KK} {a:AV}:∀ {kv:List (AV×AV)} {i j:Nat},dI kk a kv i=some (some j)→i≤j∧∃ p,kv[j-i]?=some p∧fD kk a p.1=some true
 | [],i,j,h=>by simp [dI] at h
 | p::kv,i,j,h=>by
  simp only [dI] at h
  split at h
  ·rename_i hk
   injection h with h; injection h with h; subst h
   exact ⟨Nat.le_refl _,p,by simp,hk⟩
  ·obtain ⟨h1,q,h2,h3⟩:=qq h
   refine ⟨by omega,q,?_,h3⟩
   rw [show j-i=(j-(i+1))+1 by omega,List.getElem?_cons_succ]; exact h2
  ·cases h
theorem yf {P:Program} {G:Gh} {s s':St} {w:World} {t kt et:TypeId} {kk:KK} (ht:P.underlying t=some (.map kt et)) (hk:eM P kt=some kk) {m k v:AV} {xm xk xv:Value}
  (h:muI kk m k v s=some s') (hm:Rep G m xm) (hkr:Rep G k xk) (hv:Rep G v xv) (hS:Sim G s w):∃ w',(Instr.mapUpdate t xm xk xv).run P w=.ok () w'∧Stp G s w G s' w'∧Sim G s' w':=by
 unfold muI at h
 split at h
 ·rename_i g
  split at h
  ·rename_i kv ver hg
   cases hm with
   | map _ l hl=>
    obtain ⟨_,_,es,clock,h1,h2,h3,h4⟩:=hS.map hg hl
    split at h
    ·rename_i j hj
     obtain ⟨c1,c2,c3⟩:=fR hk hkr w h2 h3 hj
     injection h with h; subst h
     have hlt:=c3 j rfl
     have he:es[j]?=some es[j]:=Array.getElem?_eq_getElem hlt
     obtain ⟨_,p,hp,hpe⟩:=qq (qr hj).2
     simp only [Nat.sub_zero] at hp
     have hst:=uO (P:=P) (w:=w) hpe hkr (h3 j _ p he hp).1
     obtain ⟨q1,q2⟩:=kK hS hg hl (es':=es.modify j fun e=>{ e with key:=xk,val:=xv }) (clock':=clock) (kv':=kv.set j (k,v)) h1 (by simpa using h2) (by
      intro i e q he' hq
      rw [Array.getElem?_modify] at he'
      rw [List.getElem?_set] at hq
      split at he'
      ·rename_i e1; subst e1
       rw [he] at he'; simp at he'; subst he'
       rw [if_pos rfl,if_pos (by omega)] at hq
       injection hq with hq; subst hq
       exact ⟨hkr,hv,(h3 j _ p he hp).2.2⟩
      ·rename_i e1
       rw [if_neg e1] at hq
       exact h3 i e q he' hq) (by
      intro i i' e e' he1 he2 hb
      have look:∀ (i:Nat) (e:MapEntry),(es.modify j fun e=>{ e with key:=xk,val:=xv })[i]?=some e→∃ e0:MapEntry,es[i]?=some e0∧e0.born=e.born:=by
       intro i e he'
       rw [Array.getElem?_modify] at he'
       split at he'
       ·rename_i e1; subst e1
        rw [he] at he'; simp at he'; subst he'
        exact ⟨_,he,rfl⟩
       ·exact ⟨e,he',rfl⟩
      obtain ⟨e0,a1,a2⟩:=look i e he1
      obtain ⟨e0',b1,b2⟩:=look i' e' he2
      exact h4 i i' e0 e0' a1 b1 (by rw [a2,b2,hb]))
     refine ⟨_,?_,q2,q1⟩
     simp [Instr.mapUpdate,run_underlying ht,MapKept.run_getObj_map h1,c1,c2,he,hst,MapKept.run_setObj_map _ h1]
    ·rename_i hj
     obtain ⟨c1,c2,c3⟩:=fR hk hkr w h2 h3 hj
     injection h with h; subst h
     obtain ⟨q1,q2⟩:=kK hS hg hl (es':=es.push ⟨xk,xv,clock⟩) (clock':=clock+1) (kv':=kv++[(k,v)]) h1 (by simp [h2]) (by
      intro i e q he' hq
      rw [Array.getElem?_push] at he'
      rw [List.getElem?_append] at hq
      split at he'
      ·rename_i e1; injection he' with he'; subst he'
       rw [if_neg (by omega)] at hq
       have:i-kv.length=0:=by omega
       rw [this] at hq; simp at hq; subst hq
       exact ⟨hkr,hv,Nat.lt_succ_self _⟩
      ·rename_i e1
       have hi:i<es.size:=(Array.getElem?_eq_some_iff.1 he').1
       rw [if_pos (by omega)] at hq
       obtain ⟨a1,a2,a3⟩:=h3 i e q he' hq
       exact ⟨a1,a2,Nat.lt_succ_of_lt a3⟩) (by
      have born:∀ (i:Nat) (e:MapEntry),es[i]?=some e→e.born<clock:=by
       intro i e he'
       have hi:i<es.size:=(Array.getElem?_eq_some_iff.1 he').1
       exact (h3 i e _ he' (List.getElem?_eq_getElem (by omega))).2.2
      intro i i' e e' he1 he2 hb
      rw [Array.getElem?_push] at he1 he2
      split at he1
      ·rename_i e1; injection he1 with he1; subst he1
       split at he2
       ·rename_i e2; omega
       ·have:=born i' e' he2
        simp at hb; omega
      ·split at he2
       ·rename_i e2; injection he2 with he2; subst he2
        have:=born i e he1
        simp at hb; omega
       ·exact h4 i i' e e' he1 he2 hb)
     refine ⟨_,?_,q2,q1⟩
     simp [Instr.mapUpdate,run_underlying ht,MapKept.run_getObj_map h1,c1,c2,MapKept.run_setObj_map _ h1]
    ·cases h
  ·cases h
 ·cases h
end Go.AM
namespace Go.AM
theorem yz {P:Program} {G:Gh} {s s':St} {w:World} {t kt et:TypeId} (ht:P.underlying t=some (.map kt et)) {m av:AV} {xm:Value} (h:rgI m s=some (av,s')) (hm:Rep G m xm) (hS:Sim G s w):Out P (Instr.range t xm) G s w av s':=by
 unfold rgI at h
 split at h
 ·rename_i g
  split at h
  ·rename_i kv ver hg
   cases hm with
   | map _ l hl=>
    obtain ⟨hcap,hver,es,clock,h1,h2,h3,h4⟩:=hS.map hg hl
    injection h with h; injection h with e1 e2; subst e1; subst e2
    have hold:∀ b,b<w.heap.size→(w.alloc (.mapIter (some l.b) clock #[] clock)).heap[b]?=w.heap[b]?:=fun b hb=>heap_alloc_old w _ hb
    have hne:g≠s.c:=Nat.ne_of_lt (hS.hLt hg)
    have q1:=Sim.add (b':=.iter g ver []) (l':=⟨w.heap.size,1,0⟩) (c':=s.c+1) (w':=w.alloc (.mapIter (some l.b) clock #[] clock)) hS (Nat.lt_succ_self _) hold (fun _=>Nat.le_refl _) (by simp)
     ⟨by simp,Nat.lt_succ_of_lt hver,l,clock,clock,#[],(Gh.le_addLoc hS.fresh).loc _ _ hl,heap_alloc_new w _,fun kv' hkv'=>⟨es,clock,(hold _ (cK h1)).trans h1,rfl,rfl,fun i e he=>by simp,fun i e he=>by simp at he⟩⟩
    have q2:=Stp.add (b':=.iter g ver []) (l':=⟨w.heap.size,1,0⟩) (c':=s.c+1) (w':=w.alloc (.mapIter (some l.b) clock #[] clock)) hS (Nat.lt_succ_self _) hold (fun _=>Nat.le_refl _) (by simp) rfl rfl rfl
    refine ⟨_,_,_,run_range_map w t kt et l.b es clock ht h1,q2,q1,?_⟩
    have:=Rep.ptr (G:=G.addLoc s.c ⟨w.heap.size,1,0⟩) s.c 0 0 ⟨w.heap.size,1,0⟩ (ca _ _ _)
    simpa using this
  ·cases h
 ·cases h
theorem Sim.iter {G:Gh} {s:St} {w:World} (hS:Sim G s w) {g m ver:Nat} {kv:List (AV×AV)} {done:List Nat} {l:Loc} (hg:s.h g=some (.iter m ver done)) (hm:s.h m=some (.map kv ver)) (hl:G.loc g=some l) :
  0<l.cap∧ver<s.c∧∃ (lm:Loc) (clock:Nat) (seen:Array Nat) (es:Array MapEntry),G.loc m=some lm∧w.heap[l.b]?=some (.mapIter (some lm.b) clock seen clock)∧w.heap[lm.b]?=some (.map es clock)∧es.size=kv.length ∧
   (∀ (i:Nat) (e:MapEntry) (p:AV×AV),es[i]?=some e→kv[i]?=some p→Rep G p.1 e.key∧Rep G p.2 e.val∧e.born<clock) ∧
   (∀ (i j:Nat) (e e':MapEntry),es[i]?=some e→es[j]?=some e'→e.born=e'.born→i=j) ∧
   (∀ (i:Nat) (e:MapEntry),es[i]?=some e→(e.born∈seen↔i∈done))∧∀ (i:Nat) (e:MapEntry),done.getLast?=some i→es[i]?=some e→seen.back?=some e.born:=by
 obtain ⟨l',hl',h0,h1,lm,since,last,seen,h2,h3,h4⟩:=hS.blk g _ hg
 rw [hl] at hl'; injection hl' with e; subst e
 obtain ⟨es,clock,h5,h6,h7,h8,h9⟩:=h4 kv hm
 subst h6; subst h7
 obtain ⟨_,_,es',clock',a1,a2,a3,a4⟩:=hS.map hm h2
 rw [h5] at a1; injection a1 with a1; injection a1 with a1 a1'; subst a1; subst a1'
 exact ⟨h0,h1,lm,clock,seen,es,h2,h3,h5,a2,a3,a4,h8,h9⟩
theorem iZ {P:Program} {w:World} {r:Nat} {a:Option Nat} {b c:Nat} {sn:Array Nat} (hb:w.heap[r]?=some (.mapIter a b sn c)):(getObj r).run P w=.ok (.mapIter a b sn c) w:=by
 simp [getObj,Sem.run,hb]
theorem nO {P:Program} {w:World} {r:Nat} {a:Option Nat} {b c:Nat} {sn:Array Nat} (o:Obj) (hb:w.heap[r]?=some (.mapIter a b sn c)):(setObj r o).run P w=.ok () { w with heap:=w.heap.setIfInBounds r o }:=by
 simp [setObj,Sem.run,hb]
theorem rr {P:Program} (w:World) (ty:TypeId) (r bm clock:Nat) (seen:Array Nat) (es:Array MapEntry) (hr:w.heap[r]?=some (.mapIter (some bm) clock seen clock)) (hb:w.heap[bm]?=some (.map es clock)) (hold:∀ x∈es.toList,x.born<clock) :
  ((leftOf es seen).size=0∧(Instr.next (.pointer (some ⟨r,0,none⟩)) false ty).run P w=.ok (.tuple #[.bool false]) w) ∨
  ∃ e∈(leftOf es seen).toList,∃ w1:World,(w1=w∨w1=w.drew)∧(Instr.next (.pointer (some ⟨r,0,none⟩)) false ty).run P w=.ok (.tuple #[.bool true,e.key,e.val]) { w1 with heap:=w1.heap.setIfInBounds r (.mapIter (some bm) clock (seen.push e.born) clock) }:=by
 have g1:=iZ (P:=P) hr
 have g2:=MapKept.run_getObj_map (P:=P) hb
 simp only [Instr.next,Sem.run_bind,g1,g2,Result.andThen_ok,next_test_false seen es clock clock hold (Nat.le_refl _),Bool.false_eq_true,if_false]
 unfold leftOf
 have hmem:∀ x∈(Array.filter (fun e=>!seen.contains e.born) es).toList,x.born<clock:=fun x hx=>hold x (by simp at hx ⊢; exact hx.1)
 generalize Array.filter (fun e=>!seen.contains e.born) es=L at hmem ⊢
 have e1:L.filter (fun x=>decide (x.born<clock))=L:=Array.filter_eq_self.2 (fun x hx=>by simpa using hmem x (by simpa using hx))
 have e2:L.filter (fun x=>decide (x.born≥clock))=#[]:=by
  rw [Array.filter_eq_empty_iff]
  intro x hx
  have:=hmem x (by simpa using hx)
  simp
  omega
 simp only [e1,e2,Array.append_empty]
 by_cases h0:L.size=0
 ·left
  have:L=#[]:=Array.eq_empty_of_size_eq_zero h0
  subst this
  refine ⟨rfl,?_⟩
  simp [choose,Sem.run,Question.forced]
 ·right
  have hne:L.isEmpty=false:=by simp [Array.isEmpty,h0]
  simp only [hne,Bool.false_eq_true,if_false,Array.empty_append,Array.size_map]
  have hch:∃ (j:Nat) (w1:World),j<L.size∧(w1=w∨w1=w.drew)∧(choose (Question.mapNext L.size)).run P w=.ok j w1:=by
   by_cases hf:L.size≤1
   ·exact ⟨0,w,by omega,.inl rfl,by simp [choose,Sem.run,Question.forced,hf]⟩
   ·exact ⟨_,w.drew,Nat.mod_lt _ (by omega),.inr rfl,by
     simp only [choose,Sem.run,Question.forced,decide_eq_true_eq,hf,if_false,Question.cut]
     rfl⟩
  obtain ⟨j,w1,hj,hal,hrun⟩:=hch
  have hr1:w1.heap[r]?=some (.mapIter (some bm) clock seen clock):=by rcases hal with rfl | rfl <;> exact hr
  refine ⟨L[j],by simp,w1,hal,?_⟩
  simp only [hrun,Result.andThen_ok,Array.getElem?_map,Array.getElem?_eq_getElem hj,Option.map_some,Sem.run_bind,nO _ hr1,Sem.run_pure]
theorem tup3 {G:Gh} {a b c:AV} {x y z:Value} (ha:Rep G a x) (hb:Rep G b y) (hc:Rep G c z):Rep G (.tup [a,b,c]) (.tuple #[x,y,z]):=(RepL.cons ha (RepL.cons hb (RepL.cons hc (RepL.nil G)))).toTup
theorem yv {P:Program} {G:Gh} {s:St} {w:World} {K:AV→St→Prop} {it:AV} {xi:Value} (ty:TypeId) (h:nxW it s K) (hr:Rep G it xi) (hS:Sim G s w) :
  ∃ v w' av s',(Instr.next xi false ty).run P w=.ok v w'∧Stp G s w G s' w'∧Sim G s' w'∧Rep G av v∧K av s':=by
 unfold nxW at h
 split at h
 ·rename_i g
  split at h
  ·rename_i m ver done hg
   split at h
   ·rename_i kv ver' hm
    obtain ⟨hv,hover,hstep⟩:=h
    subst hv
    cases hr with
    | ptr _ _ _ l hl=>
     obtain ⟨h0,h1,lm,clock,seen,es,h2,h3,h4,h5,h6,h7,h8,h9⟩:=hS.iter hg hm hl
     have hborn:∀ x∈es.toList,x.born<clock:=by
      intro x hx
      obtain ⟨i,hi,hx⟩:=List.getElem_of_mem hx
      have hi':i<es.size:=by simpa using hi
      have he:es[i]?=some x:=by rw [←hx,Array.getElem?_eq_getElem hi']; simp
      exact (h6 i x _ he (List.getElem?_eq_getElem (by omega))).2.2
     simp only [Nat.zero_mul,Nat.add_zero]
     rcases rr (P:=P) w ty l.b lm.b clock seen es h3 h4 hborn with ⟨q1,q2⟩ | ⟨e,he,w1,hw,q2⟩
     ·refine ⟨_,w,.tup [.bool false],s,q2,Stp.refl G s w,hS,(RepL.cons (.sc _ rfl) (RepL.nil G)).toTup,hover ?_⟩
      intro i hi
      have hi':i<es.size:=by omega
      have hall:es[i]∉leftOf es seen:=by
       have:leftOf es seen=#[]:=Array.eq_empty_of_size_eq_zero q1
       rw [this]; simp
      refine (h8 i es[i] (Array.getElem?_eq_getElem hi')).1 ?_
      refine Classical.byContradiction fun hno=>hall ?_
      simp [leftOf,hno]
     ·obtain ⟨hmem,hseen⟩:=mem_left he
      obtain ⟨i,hi,hx⟩:=List.getElem_of_mem hmem
      have hi':i<es.size:=by simpa using hi
      have hei:es[i]?=some e:=by rw [←hx,Array.getElem?_eq_getElem hi']; simp
      have hns:e.born∉seen:=by simpa using hseen
      have hnd:i∉done:=fun hd=>hns ((h8 i e hei).2 hd)
      have hki:kv[i]?=some kv[i]:=List.getElem?_eq_getElem (by omega)
      obtain ⟨r1,r2,_⟩:=h6 i e _ hei hki
      have hS1:Sim G s w1∧w1.heap=w.heap∧w1.os=w.os∧w1.tape=w.tape∧w1.output=w.output:=by
       rcases hw with rfl | rfl
       ·exact ⟨hS,rfl,rfl,rfl,rfl⟩
       ·exact ⟨hS.drew,rfl,rfl,rfl,rfl⟩
      obtain ⟨hS1,hh,ho,htp,hop⟩:=hS1
      have hlt:l.b<w1.heap.size:=by rw [hh]; exact cK h3
      have hloc:=f7 hl
      have hbm:lm.b≠l.b:=by
       intro e'
       rw [e'] at h4
       rw [h3] at h4; cases h4
      have hmg:m≠g:=by
       rintro rfl
       rw [hg] at hm; cases hm
      have hother:∀ b,b<w1.heap.size→b≠l.b→(w1.heap.setIfInBounds l.b (.mapIter (some lm.b) clock (seen.push e.born) clock))[b]?=w1.heap[b]?:=fun b _ hne=>by
       rw [Array.getElem?_setIfInBounds,if_neg (Ne.symm hne)]
      have hself:(w1.heap.setIfInBounds l.b (Obj.mapIter (some lm.b) clock (seen.push e.born) clock))[l.b]?=some (.mapIter (some lm.b) clock (seen.push e.born) clock):=by
       rw [Array.getElem?_setIfInBounds,if_pos rfl,if_pos hlt]
      have hsim:=Sim.put (g:=g) (b':=.iter m ver' (done++[i])) (l':=l) (c':=s.c) (w':={ w1 with heap:=w1.heap.setIfInBounds l.b (.mapIter (some lm.b) clock (seen.push e.born) clock) }) hS1 (Nat.le_refl _) (hS.hLt hg) (by rw [hloc]; exact .refl G)
       (fun hc=>hS1.freeOther hg (by simp) hl hc) (fun b hlt' hne=>hother b hlt' (hne h0)) (fun o v hc hmm=>by
        have:=hS1.mem _ _ _ hmm
        simp [World.cell?,hh,h3] at this) (by simp)
       ⟨h0,h1,lm,clock,clock,seen.push e.born,by rw [hloc]; exact h2,hself,fun kv' hkv'=>⟨es,clock,(hother _ (by rw [hh]; exact cK h4) hbm).trans (by rw [hh]; exact h4),rfl,rfl,fun j e' he'=>by
        constructor
        ·intro hin
         rcases Array.mem_push.1 hin with hin | hin
         ·simp [(h8 j e' he').1 hin]
         ·have:=h7 j i e' e he' hei hin
          subst this; simp
        ·intro hin
         rcases List.mem_append.1 hin with hin | hin
         ·exact Array.mem_push.2 (.inl ((h8 j e' he').2 hin))
         ·have:j=i:=by simpa using hin
          subst this
          rw [hei] at he'; injection he' with he'; subst he'
          exact Array.mem_push.2 (.inr rfl),fun j e' hj he'=>by
        have:j=i:=by simpa using hj.symm
        subst this
        rw [hei] at he'; injection he' with he'; subst he'
        simp⟩⟩
      rw [hloc] at hsim
      refine ⟨_,_,.tup [.bool true,kv[i].1,kv[i].2],{ h:=upd s.h g (some (.iter m ver' (done++[i]))),c:=s.c },q2,?_,hsim,tup3 (.sc _ rfl) r1 r2,hstep i _ hki hnd⟩
      refine ⟨.refl G,Nat.le_refl _,ho,htp,hop,by simp [hh],fun b hb' ho'=>?_,?_⟩
      ·by_cases e2:b=l.b
       ·exact absurd ⟨g,_,l,hg,hl,e2.symm,h0⟩ ho'
       ·rw [←hh]; exact hother b (by rw [hh]; exact hb') e2
      ·rintro b hb' ⟨k,bk,lk,hk,hlk,he',hck⟩
       have hk':upd s.h g (some (.iter m ver' (done++[i]))) k=some bk:=hk
       unfold upd at hk'
       split at hk'
       ·rename_i e2; subst e2; exact ⟨k,_,lk,hg,hlk,he',hck⟩
       ·exact ⟨k,bk,lk,hk',hlk,he',hck⟩
   ·exact h.elim
  ·exact h.elim
 ·exact h.elim
theorem yu {P:Program} {G:Gh} {s:St} {w:World} {it av:AV} {xi:Value} (h:ntI it s=some av) (hr:Rep G it xi) (hS:Sim G s w):Out P (Instr.entry xi) G s w av s:=by
 unfold ntI at h
 split at h
 ·rename_i g
  split at h
  ·rename_i m ver done hg
   split at h
   ·rename_i kv ver' i hm hd
    split at h
    ·rename_i hv
     subst hv
     obtain ⟨p,hp,rfl⟩:=eR h
     cases hr with
     | ptr _ _ _ l hl=>
      obtain ⟨h0,h1,lm,clock,seen,es,h2,h3,h4,h5,h6,h7,h8,h9⟩:=hS.iter hg hm hl
      have hi':i<es.size:=by rw [h5]; exact (List.getElem?_eq_some_iff.1 hp).1
      have hei:es[i]?=some es[i]:=Array.getElem?_eq_getElem hi'
      obtain ⟨r1,r2,_⟩:=h6 i _ p hei hp
      have hback:=h9 i _ hd hei
      have hfind:es.find? (fun x=>x.born==es[i].born)=some es[i]:=by
       cases hf:es.find? (fun x=>x.born==es[i].born) with
       | none=>
        rw [Array.find?_eq_none] at hf
        have:=hf es[i] (Array.getElem_mem hi')
        simp at this
       | some e'=>
        have hb:=Array.find?_some hf
        have hm':=Array.mem_of_find?_eq_some hf
        obtain ⟨j,hj,he'⟩:=Array.getElem_of_mem hm'
        have:=h7 j i e' es[i] (by rw [←he']; exact Array.getElem?_eq_getElem hj) hei (by simpa using hb)
        subst this
        rw [←he']
      refine Out.quiet hS (v:=.tuple #[es[i].key,es[i].val]) ?_ (tup2 r1 r2)
      simp only [Nat.zero_mul,Nat.add_zero]
      simp [Instr.entry,iZ h3,hback,MapKept.run_getObj_map h4,hfind]
    ·cases h
   ·cases h
  ·cases h
 ·cases h
end Go.AM
