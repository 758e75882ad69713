/- Part of the claim: see its last text. -/
import Derived.Test.YtjhogglgkjcacaaGreatMa1
set_option linter.all false
namespace Go.AM
def RowOk (G:Gh) (hp:Array Obj) (l:Loc) (es:List (List AV)):Prop:=
 es.length≤l.cap∧(0<l.cap→∃ (C:Array Value) (e:TypeId),hp[l.b]?=some (.cells C e (0,0))∧l.cap*l.sz≤C.size ∧
  ∀ (i:Nat) (x:List AV),es[i]?=some x→x.length=l.sz∧∀ (j:Nat) (a:AV),x[j]?=some a→a.cell=true∧∃ v,C[i*l.sz+j]?=some v∧Rep G a v)
def MapOk (G:Gh) (hp:Array Obj) (l:Loc) (kv:List (AV×AV)):Prop:=
 0<l.cap∧∃ (es:Array MapEntry) (clock:Nat),hp[l.b]?=some (.map es clock)∧es.size=kv.length ∧
  (∀ (i:Nat) (e:MapEntry) (p:AV×AV),es[i]?=some e→kv[i]?=some p→Rep G p.1 e.key∧Rep G p.2 e.val∧e.born<clock) ∧
  (∀ (i j:Nat) (e e':MapEntry),es[i]?=some e→es[j]?=some e'→e.born=e'.born→i=j)
def wu (G:Gh) (s:St) (hp:Array Obj) (l:Loc) (m ver:Nat) (done:List Nat):Prop:=
 0<l.cap∧ver<s.c∧∃ (lm:Loc) (since last:Nat) (seen:Array Nat),G.loc m=some lm∧hp[l.b]?=some (.mapIter (some lm.b) since seen last) ∧
  ∀ kv,s.h m=some (.map kv ver)→∃ (es:Array MapEntry) (clock:Nat),hp[lm.b]?=some (.map es clock)∧clock=since∧clock=last ∧
   (∀ (i:Nat) (e:MapEntry),es[i]?=some e→(e.born∈seen↔i∈done))∧∀ (i:Nat) (e:MapEntry),done.getLast?=some i→es[i]?=some e→seen.back?=some e.born
def lq (G:Gh) (s:St) (hp:Array Obj) (l:Loc):Body→Prop
 | .row sz es st par=>l.sz=sz∧0<sz∧RowOk G hp l es∧(st≠.frz→0<l.cap→∀ k,G.mem l.b k=none)
 | .map kv ver=>MapOk G hp l kv∧ver<s.c
 | .iter m ver done=>wu G s hp l m ver done
def kz (G:Gh) (s:St) (i j:Nat) (li:Loc):Prop:=
 ∃ (sz k:Nat) (es:List (List AV)) (par:Option Nat),s.h i=some (.row sz es (.lent k) par)∧k≤j ∧
  (∃ (sz':Nat) (es':List (List AV)) (st':RSt) (par':Option Nat) (lk:Loc),s.h k=some (.row sz' es' st' par')∧G.loc k=some lk∧lk.b=li.b∧0<lk.cap) ∧
  ∃ (sz':Nat) (es':List (List AV)) (st':RSt) (p:Nat),s.h j=some (.row sz' es' st' (some p))∧es.length≤es'.length∧sz=sz'
structure Sim (G:Gh) (s:St) (w:World):Prop where
 mem:∀ b o v,G.mem b o=some v→w.cell? ⟨b,o,none⟩=some v
 dom:∀ g l,G.loc g=some l→g<s.c
 blk:∀ g b,s.h g=some b→∃ l,G.loc g=some l∧lq G s w.heap l b
 ov:∀ i j bi bj li lj,i<j→s.h i=some bi→s.h j=some bj→G.loc i=some li→G.loc j=some lj→li.b=lj.b→0<li.cap→0<lj.cap→kz G s i j li
def mN (G:Gh) (s:St) (b:Nat):Prop:=∃ g body l,s.h g=some body∧G.loc g=some l∧l.b=b∧0<l.cap
structure Stp (G:Gh) (s:St) (w:World) (G':Gh) (s':St) (w':World):Prop where
 le:G.Le G'
 c:s.c≤s'.c
 os:w'.os=w.os
 tape:w'.tape=w.tape
 output:w'.output=w.output
 size:w.heap.size≤w'.heap.size
 keep:∀ b,b<w.heap.size→¬mN G s b→w'.heap[b]?=w.heap[b]?
 own:∀ b,b<w.heap.size→mN G' s' b→mN G s b
theorem Stp.refl (G:Gh) (s:St) (w:World):Stp G s w G s w:=⟨.refl G,Nat.le_refl _,rfl,rfl,rfl,Nat.le_refl _,fun _ _ _=>rfl,fun _ _ h=>h⟩
theorem Stp.trans {G G1 G2:Gh} {s s1 s2:St} {w w1 w2:World} (h:Stp G s w G1 s1 w1) (k:Stp G1 s1 w1 G2 s2 w2):Stp G s w G2 s2 w2 where
 le:=h.le.trans k.le
 c:=Nat.le_trans h.c k.c
 os:=k.os.trans h.os
 tape:=k.tape.trans h.tape
 output:=k.output.trans h.output
 size:=Nat.le_trans h.size k.size
 keep b hb ho:=(k.keep b (Nat.lt_of_lt_of_le hb h.size) fun x=>ho (h.own b hb x)).trans (h.keep b hb ho)
 own b hb x:=h.own b hb (k.own b (Nat.lt_of_lt_of_le hb h.size) x)
theorem dH {w w':World} {b o:Nat} (h:w'.heap[b]?=w.heap[b]?):w'.cell? ⟨b,o,none⟩=w.cell? ⟨b,o,none⟩:=by
 simp [World.cell?,h]
theorem lz {w:World} {b o:Nat} {C:Array Value} {e:TypeId} {fr:Nat×Nat} (h:w.heap[b]?=some (.cells C e fr)):w.cell? ⟨b,o,none⟩=C[o]?:=by
 simp [World.cell?,h]
theorem cO {w:World} {b:Nat} {o:Obj} (h:w.heap[b]?=some o):b<w.heap.size:=(Array.getElem?_eq_some_iff.1 h).1
theorem RowOk.keep {G G':Gh} {hp hp':Array Obj} {l:Loc} {es:List (List AV)} (h:RowOk G hp l es) (hle:G.Le G') (hb:0<l.cap→hp'[l.b]?=hp[l.b]?):RowOk G' hp' l es:=
 ⟨h.1,fun hc=>by
  obtain ⟨C,e,h1,h2,h3⟩:=h.2 hc
  refine ⟨C,e,(hb hc).trans h1,h2,fun i x hx=>⟨(h3 i x hx).1,fun j a ha=>?_⟩⟩
  obtain ⟨h4,v,h5,h6⟩:=(h3 i x hx).2 j a ha
  exact ⟨h4,v,h5,h6.mono hle⟩⟩
theorem MapOk.keep {G G':Gh} {hp hp':Array Obj} {l:Loc} {kv:List (AV×AV)} (h:MapOk G hp l kv) (hle:G.Le G') (hb:hp'[l.b]?=hp[l.b]?):MapOk G' hp' l kv:=by
 obtain ⟨h0,es,clock,h1,h2,h3,h4⟩:=h
 exact ⟨h0,es,clock,hb.trans h1,h2,fun i e p he hp=>⟨((h3 i e p he hp).1).mono hle,((h3 i e p he hp).2.1).mono hle,(h3 i e p he hp).2.2⟩,h4⟩
theorem Sim.grow {G:Gh} {s:St} {w w':World} (hS:Sim G s w) (hb:∀ b,b<w.heap.size→w'.heap[b]?=w.heap[b]?):Sim G s w':=by
 have hlt:∀ g b l,s.h g=some b→G.loc g=some l→0<l.cap→w'.heap[l.b]?=w.heap[l.b]?:=by
  intro g b l hg hl hc
  obtain ⟨l',hl',hok⟩:=hS.blk g b hg
  rw [hl] at hl'; injection hl' with e; subst e
  cases b with
  | row sz es st par=>obtain ⟨C,e,h1,_⟩:=hok.2.2.1.2 hc; exact hb _ (cO h1)
  | map kv ver=>obtain ⟨⟨_,es,clock,h1,_⟩,_⟩:=hok; exact hb _ (cO h1)
  | iter m ver done=>obtain ⟨_,_,lm,since,last,seen,h1,h2,_⟩:=hok; exact hb _ (cO h2)
 refine ⟨fun b o v hm=>?_,hS.dom,fun g b hg=>?_,hS.ov⟩
 ·have h:=hS.mem b o v hm
  have hlt':b<w.heap.size:=World.block_lt_of_cell? w ⟨b,o,none⟩ h
  rw [dH (hb b hlt')]; exact h
 ·obtain ⟨l,hl,hok⟩:=hS.blk g b hg
  refine ⟨l,hl,?_⟩
  cases b with
  | row sz es st par=>exact ⟨hok.1,hok.2.1,hok.2.2.1.keep (.refl G) (fun hc=>hlt g _ l hg hl hc),hok.2.2.2⟩
  | map kv ver=>exact ⟨MapOk.keep hok.1 (.refl G) (hlt g _ l hg hl hok.1.1),hok.2⟩
  | iter m ver done=>
   obtain ⟨h0,hv,lm,since,last,seen,h1,h2,h3⟩:=hok
   refine ⟨h0,hv,lm,since,last,seen,h1,(hb _ (cO h2)).trans h2,fun kv hkv=>?_⟩
   obtain ⟨es,clock,h4,h5⟩:=h3 kv hkv
   exact ⟨es,clock,(hb _ (cO h4)).trans h4,h5⟩
theorem Sim.drew {G:Gh} {s:St} {w:World} (hS:Sim G s w):Sim G s w.drew:=hS.grow fun _ _=>rfl
def Gh.addLoc (G:Gh) (g:Nat) (l:Loc):Gh:={ G with loc:=fun k=>if k=g then some l else G.loc k }
theorem Gh.le_addLoc {G:Gh} {g:Nat} {l:Loc} (h:G.loc g=none):G.Le (G.addLoc g l):=
 ⟨fun k l' hk=>by
  simp only [Gh.addLoc]
  split
  ·rename_i e; subst e; rw [h] at hk; cases hk
  ·exact hk,fun _ _ _ h=>h⟩
theorem Sim.fresh {G:Gh} {s:St} {w:World} (hS:Sim G s w):G.loc s.c=none:=by
 cases h:G.loc s.c with
 | none=>rfl
 | some l=>exact absurd (hS.dom _ _ h) (Nat.lt_irrefl _)
theorem Sim.blkLt {G:Gh} {s:St} {w:World} (hS:Sim G s w) {g:Nat} {b:Body} {l:Loc} (hg:s.h g=some b) (hl:G.loc g=some l) (hc:0<l.cap):l.b<w.heap.size:=by
 obtain ⟨l',hl',hok⟩:=hS.blk g b hg
 rw [hl] at hl'; injection hl' with e; subst e
 cases b with
 | row sz es st par=>obtain ⟨C,e,h1,_⟩:=hok.2.2.1.2 hc; exact cO h1
 | map kv ver=>obtain ⟨⟨_,es,clock,h1,_⟩,_⟩:=hok; exact cO h1
 | iter m ver done=>obtain ⟨_,_,lm,since,last,seen,h1,h2,_⟩:=hok; exact cO h2
theorem Sim.hLt {G:Gh} {s:St} {w:World} (hS:Sim G s w) {g:Nat} {b:Body} (hg:s.h g=some b):g<s.c:=by
 obtain ⟨l,hl,_⟩:=hS.blk g b hg
 exact hS.dom g l hl
theorem Sim.memLt {G:Gh} {s:St} {w:World} (hS:Sim G s w) {b o:Nat} {v:Value} (h:G.mem b o=some v):b<w.heap.size:=
 World.block_lt_of_cell? w ⟨b,o,none⟩ (hS.mem b o v h)
theorem uN {G:Gh} {s:St} {i j:Nat} {li:Loc} {l:Loc} {b:Body} {c':Nat} (hS:∀ g b,s.h g=some b→g<s.c) (h:kz G s i j li) :
  kz (G.addLoc s.c l) { h:=upd s.h s.c (some b),c:=c' } i j li:=by
 obtain ⟨sz,k,es,par,h1,h2,⟨sz',es',st',par',lk,h3,h4,h5⟩,sz'',es'',st'',p,h6,h7⟩:=h
 have hi:=hS _ _ h1
 have hk:=hS _ _ h3
 have hj:=hS _ _ h6
 refine ⟨sz,k,es,par,?_,h2,⟨sz',es',st',par',lk,?_,?_,h5⟩,sz'',es'',st'',p,?_,h7⟩
 ·show upd s.h s.c (some b) i=_; unfold upd; rw [if_neg (Nat.ne_of_lt hi)]; exact h1
 ·show upd s.h s.c (some b) k=_; unfold upd; rw [if_neg (Nat.ne_of_lt hk)]; exact h3
 ·show (if k=s.c then some l else G.loc k)=_; rw [if_neg (Nat.ne_of_lt hk)]; exact h4
 ·show upd s.h s.c (some b) j=_; unfold upd; rw [if_neg (Nat.ne_of_lt hj)]; exact h6
theorem su {G:Gh} {s:St} {w w':World} {g:Nat} {b b':Body} {l l':Loc} {c':Nat} (hS:Sim G s w) (hc:s.c<c') (hg:s.h g=some b) (hl:G.loc g=some l)
  (hok:lq G s w.heap l b) (hb:∀ b,b<w.heap.size→w'.heap[b]?=w.heap[b]?) (hv:∀ kv ver,b'=.map kv ver→s.c≤ver) :
  lq (G.addLoc s.c l') { h:=upd s.h s.c (some b'),c:=c' } w'.heap l b:=by
 have hle:G.Le (G.addLoc s.c l'):=Gh.le_addLoc hS.fresh
 cases b with
 | row sz es st par=>
  exact ⟨hok.1,hok.2.1,hok.2.2.1.keep hle (fun h=>hb _ (hS.blkLt hg hl h)),hok.2.2.2⟩
 | map kv ver=>exact ⟨MapOk.keep hok.1 hle (hb _ (hS.blkLt hg hl hok.1.1)),Nat.lt_trans hok.2 hc⟩
 | iter m ver done=>
  obtain ⟨h0,hv',lm,since,last,seen,h1,h2,h3⟩:=hok
  have hm:=hS.dom _ _ h1
  refine ⟨h0,Nat.lt_trans hv' hc,lm,since,last,seen,hle.loc _ _ h1,(hb _ (cO h2)).trans h2,fun kv hkv=>?_⟩
  have hkv':s.h m=some (.map kv ver):=by
   have:upd s.h s.c (some b') m=some (.map kv ver):=hkv
   unfold upd at this; rwa [if_neg (Nat.ne_of_lt hm)] at this
  obtain ⟨es,clock,h4,h5⟩:=h3 kv hkv'
  exact ⟨es,clock,(hb _ (cO h4)).trans h4,h5⟩
theorem Sim.add {G:Gh} {s:St} {w w':World} {b':Body} {l':Loc} {c':Nat} (hS:Sim G s w) (hc:s.c<c') (hb:∀ b,b<w.heap.size→w'.heap[b]?=w.heap[b]?)
  (hnew:0<l'.cap→w.heap.size≤l'.b) (hv:∀ kv ver,b'=.map kv ver→s.c≤ver)
  (hok:lq (G.addLoc s.c l') { h:=upd s.h s.c (some b'),c:=c' } w'.heap l' b') :
  Sim (G.addLoc s.c l') { h:=upd s.h s.c (some b'),c:=c' } w':=by
 have hle:G.Le (G.addLoc s.c l'):=Gh.le_addLoc hS.fresh
 refine ⟨fun b o v hm=>?_,fun g l hg=>?_,fun g b hg=>?_,?_⟩
 ·have h:=hS.mem b o v hm
  rw [dH (hb b (hS.memLt hm))]; exact h
 ·have:(if g=s.c then some l' else G.loc g)=some l:=hg
  split at this
  ·rename_i e; subst e; exact hc
  ·exact Nat.lt_trans (hS.dom g l this) hc
 ·have:upd s.h s.c (some b') g=some b:=hg
  unfold upd at this
  split at this
  ·rename_i e; subst e; injection this with e; subst e
   exact ⟨l',by simp [Gh.addLoc],hok⟩
  ·obtain ⟨l,hl,hok'⟩:=hS.blk g b this
   exact ⟨l,hle.loc _ _ hl,su hS hc this hl hok' hb hv⟩
 ·intro i j bi bj li lj hij hi hj hli hlj he hci hcj
  have hi':upd s.h s.c (some b') i=some bi:=hi
  have hj':upd s.h s.c (some b') j=some bj:=hj
  have hli':(if i=s.c then some l' else G.loc i)=some li:=hli
  have hlj':(if j=s.c then some l' else G.loc j)=some lj:=hlj
  unfold upd at hi' hj'
  by_cases e1:j=s.c
  ·rw [if_pos e1] at hlj'; injection hlj' with e; subst e
   have e2:i≠s.c:=by omega
   rw [if_neg e2] at hi' hli'
   have:=hS.blkLt hi' hli' hci
   have:=hnew hcj
   omega
  ·rw [if_neg e1] at hj' hlj'
   have hjc:=hS.hLt hj'
   have e2:i≠s.c:=by omega
   rw [if_neg e2] at hi' hli'
   exact uN (fun g b h=>hS.hLt h) (hS.ov i j bi bj li lj hij hi' hj' hli' hlj' he hci hcj)
theorem Stp.add {G:Gh} {s:St} {w w':World} {b':Body} {l':Loc} {c':Nat} (hS:Sim G s w) (hc:s.c<c') (hb:∀ b,b<w.heap.size→w'.heap[b]?=w.heap[b]?)
  (hnew:0<l'.cap→w.heap.size≤l'.b) (hsz:w.heap.size≤w'.heap.size) (ho:w'.os=w.os) (ht:w'.tape=w.tape) (hp:w'.output=w.output) :
  Stp G s w (G.addLoc s.c l') { h:=upd s.h s.c (some b'),c:=c' } w' where
 le:=Gh.le_addLoc hS.fresh
 c:=Nat.le_of_lt hc
 os:=ho
 tape:=ht
 output:=hp
 size:=hsz
 keep b hlt _:=hb b hlt
 own b hlt:=by
  rintro ⟨g,body,l,hg,hl,he,hcap⟩
  have hg':upd s.h s.c (some b') g=some body:=hg
  have hl':(if g=s.c then some l' else G.loc g)=some l:=hl
  unfold upd at hg'
  by_cases e:g=s.c
  ·rw [if_pos e] at hl'; injection hl' with e'; subst e'
   have:=hnew hcap
   omega
  ·rw [if_neg e] at hg' hl'
   exact ⟨g,body,l,hg',hl',he,hcap⟩
end Go.AM
