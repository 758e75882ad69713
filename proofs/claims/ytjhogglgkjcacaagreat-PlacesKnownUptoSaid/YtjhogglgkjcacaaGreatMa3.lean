/- Part of the claim: see its last text. -/
import Derived.Test.YtjhogglgkjcacaaGreatMa2
set_option linter.all false
namespace Go.AM
def mj (G:Gh) (s:St) (g b:Nat):Prop:=∀ k bk lk,k≠g→s.h k=some bk→G.loc k=some lk→0<lk.cap→lk.b≠b
theorem vX {G:Gh} {s:St} {i j:Nat} {li l':Loc} {g c':Nat} {b':Body} (hle:G.Le (G.addLoc g l')) (h:kz G s i j li) (hfree:mj G s g l'.b) (hi:i≠g) (hj:j≠g)
  (hli:G.loc i=some li) (hci:0<li.cap) (hne:li.b≠l'.b∨(∀ k lk,G.loc k=some lk→k=g→lk.b=li.b→0<lk.cap→s.h k=none)) :
  kz (G.addLoc g l') { h:=upd s.h g (some b'),c:=c' } i j li:=by
 obtain ⟨sz,k,es,par,h1,h2,⟨sz',es',st',par',lk,h3,h4,h5,h5c⟩,sz'',es'',st'',p,h6,h7⟩:=h
 have hk:k≠g:=by
  intro e
  rcases hne with hne | hne
  ·subst e
   have hl:=hle.loc _ _ h4
   have:(if k=k then some l' else G.loc k)=some lk:=hl
   rw [if_pos rfl] at this; injection this with e; subst e
   exact hne h5.symm
  ·have:=hne k lk h4 e h5 h5c
   rw [h3] at this; cases this
 refine ⟨sz,k,es,par,?_,h2,⟨sz',es',st',par',lk,?_,hle.loc _ _ h4,h5,h5c⟩,sz'',es'',st'',p,?_,h7⟩
 ·show upd s.h g (some b') i=_; unfold upd; rw [if_neg hi]; exact h1
 ·show upd s.h g (some b') k=_; unfold upd; rw [if_neg hk]; exact h3
 ·show upd s.h g (some b') j=_; unfold upd; rw [if_neg hj]; exact h6
theorem Sim.put {G:Gh} {s:St} {w w':World} {g:Nat} {b':Body} {l':Loc} {c':Nat} (hS:Sim G s w) (hc:s.c≤c') (hgc:g<c') (hle:G.Le (G.addLoc g l'))
  (hfree:0<l'.cap→mj G s g l'.b) (hb:∀ b,b<w.heap.size→(0<l'.cap→b≠l'.b)→w'.heap[b]?=w.heap[b]?)
  (hmem:∀ o v,0<l'.cap→G.mem l'.b o=some v→w'.cell? ⟨l'.b,o,none⟩=some v) (hv:∀ kv ver,b'=.map kv ver→s.c≤ver)
  (hok:lq (G.addLoc g l') { h:=upd s.h g (some b'),c:=c' } w'.heap l' b') :
  Sim (G.addLoc g l') { h:=upd s.h g (some b'),c:=c' } w':=by
 have hbk:∀ k bk lk,k≠g→s.h k=some bk→G.loc k=some lk→0<lk.cap→w'.heap[lk.b]?=w.heap[lk.b]?:=fun k bk lk hk h1 h2 h3=>
  hb _ (hS.blkLt h1 h2 h3) fun h0=>hfree h0 k bk lk hk h1 h2 h3
 refine ⟨fun b o v hm=>?_,fun k l hk=>?_,fun k b hk=>?_,?_⟩
 ·by_cases e:0<l'.cap∧b=l'.b
  ·obtain ⟨e0,e⟩:=e; subst e; exact hmem o v e0 hm
  ·rw [dH (hb b (hS.memLt hm) fun h0 e'=>e ⟨h0,e'⟩)]; exact hS.mem b o v hm
 ·have:(if k=g then some l' else G.loc k)=some l:=hk
  split at this
  ·rename_i e; subst e; exact hgc
  ·exact Nat.lt_of_lt_of_le (hS.dom k l this) hc
 ·have:upd s.h g (some b') k=some b:=hk
  unfold upd at this
  split at this
  ·rename_i e; subst e; injection this with e; subst e
   exact ⟨l',by simp [Gh.addLoc],hok⟩
  ·rename_i hne
   obtain ⟨l,hl,hok'⟩:=hS.blk k b this
   refine ⟨l,hle.loc _ _ hl,?_⟩
   cases b with
   | row sz es st par=>exact ⟨hok'.1,hok'.2.1,hok'.2.2.1.keep hle (fun h=>hbk k _ l hne this hl h),hok'.2.2.2⟩
   | map kv ver=>exact ⟨MapOk.keep hok'.1 hle (hbk k _ l hne this hl hok'.1.1),Nat.lt_of_lt_of_le hok'.2 hc⟩
   | iter m ver done=>
    obtain ⟨h0,hv',lm,since,last,seen,h1,h2,h3⟩:=hok'
    refine ⟨h0,Nat.lt_of_lt_of_le hv' hc,lm,since,last,seen,hle.loc _ _ h1,(hbk k _ l hne this hl h0).trans h2,fun kv hkv=>?_⟩
    have hkv':upd s.h g (some b') m=some (.map kv ver):=hkv
    unfold upd at hkv'
    split at hkv'
    ·injection hkv' with e
     have:=hv kv ver e
     omega
    ·rename_i hmg
     obtain ⟨es,clock,h4,h5⟩:=h3 kv hkv'
     have hcap:0<lm.cap:=by
      obtain ⟨l2,hl2,hok2⟩:=hS.blk m _ hkv'
      rw [h1] at hl2; injection hl2 with e; subst e
      exact hok2.1.1
     exact ⟨es,clock,(hbk m _ lm hmg hkv' h1 hcap).trans h4,h5⟩
 ·intro i j bi bj li lj hij hi hj hli hlj he hci hcj
  have hi':upd s.h g (some b') i=some bi:=hi
  have hj':upd s.h g (some b') j=some bj:=hj
  have hli':(if i=g then some l' else G.loc i)=some li:=hli
  have hlj':(if j=g then some l' else G.loc j)=some lj:=hlj
  unfold upd at hi' hj'
  by_cases e1:i=g
  ·rw [if_pos e1] at hli'; injection hli' with e; subst e
   have e2:j≠g:=by omega
   rw [if_neg e2] at hj' hlj'
   exact absurd he.symm (hfree hci j bj lj e2 hj' hlj' hcj)
  ·rw [if_neg e1] at hi' hli'
   by_cases e2:j=g
   ·rw [if_pos e2] at hlj'; injection hlj' with e; subst e
    exact absurd he (hfree hcj i bi li e1 hi' hli' hci)
   ·rw [if_neg e2] at hj' hlj'
    have hL:=hS.ov i j bi bj li lj hij hi' hj' hli' hlj' he hci hcj
    by_cases hcap:0<l'.cap
    ·exact vX hle hL (hfree hcap) e1 e2 hli' hci (.inl (hfree hcap i bi li e1 hi' hli' hci))
    ·
     obtain ⟨sz,k,es,par,h1,h2,⟨sz',es',st',par',lk,h3,h4,h5,h5c⟩,sz'',es'',st'',p,h6,h7⟩:=hL
     have hk:k≠g:=by
      intro e; subst e
      have:=hle.loc _ _ h4
      have:(if k=k then some l' else G.loc k)=some lk:=this
      rw [if_pos rfl] at this; injection this with e; subst e
      omega
     refine ⟨sz,k,es,par,?_,h2,⟨sz',es',st',par',lk,?_,hle.loc _ _ h4,h5,h5c⟩,sz'',es'',st'',p,?_,h7⟩
     ·show upd s.h g (some b') i=_; unfold upd; rw [if_neg e1]; exact h1
     ·show upd s.h g (some b') k=_; unfold upd; rw [if_neg hk]; exact h3
     ·show upd s.h g (some b') j=_; unfold upd; rw [if_neg e2]; exact h6
theorem gB {G:Gh} {g:Nat} {l:Loc} (h:G.loc g=some l):G.addLoc g l=G:=by
 unfold Gh.addLoc
 have:(fun k=>if k=g then some l else G.loc k)=G.loc:=by funext k; split <;> simp_all
 rw [this]
theorem Sim.freeRow {G:Gh} {s:St} {w:World} (hS:Sim G s w) {g sz:Nat} {es:List (List AV)} {st:RSt} {l:Loc} (hg:s.h g=some (.row sz es st none)) (hst:∀ k,st≠.lent k)
  (hl:G.loc g=some l) (hc:0<l.cap):mj G s g l.b:=by
 intro k bk lk hk h1 h2 h3 he
 rcases Nat.lt_or_gt_of_ne hk with h | h
 ·obtain ⟨_,_,_,_,_,_,_,_,_,_,p,h6,_⟩:=hS.ov k g bk _ lk l h h1 hg h2 hl he h3 hc
  rw [hg] at h6; cases h6
 ·obtain ⟨_,k',_,_,h6,_⟩:=hS.ov g k _ bk l lk h hg h1 hl h2 he.symm hc h3
  rw [hg] at h6; injection h6 with h6; injection h6 with _ _ h6; exact hst _ h6
theorem Sim.freeOther {G:Gh} {s:St} {w:World} (hS:Sim G s w) {g:Nat} {b:Body} {l:Loc} (hg:s.h g=some b) (hb:∀ sz es st par,b≠.row sz es st par)
  (hl:G.loc g=some l) (hc:0<l.cap):mj G s g l.b:=by
 intro k bk lk hk h1 h2 h3 he
 rcases Nat.lt_or_gt_of_ne hk with h | h
 ·obtain ⟨_,_,_,_,_,_,_,sz,es,st,p,h6,_⟩:=hS.ov k g bk _ lk l h h1 hg h2 hl he h3 hc
  rw [hg] at h6; injection h6 with h6; exact hb _ _ _ _ h6
 ·obtain ⟨_,k',_,_,h6,_⟩:=hS.ov g k _ bk l lk h hg h1 hl h2 he.symm hc h3
  rw [hg] at h6; injection h6 with h6; exact hb _ _ _ _ h6
theorem Sim.sub {G:Gh} {s s':St} {w:World} (hS:Sim G s w) (hc:s.c≤s'.c) (hh:∀ g b,s'.h g=some b→s.h g=some b)
  (hk:∀ i j bi bj li lj,i<j→s'.h i=some bi→s'.h j=some bj→G.loc i=some li→G.loc j=some lj→li.b=lj.b→0<li.cap→0<lj.cap →
   ∀ sz k es par,s.h i=some (.row sz es (.lent k) par)→k≤j→∀ b,s.h k=some b→s'.h k=some b):Sim G s' w:=by
 refine ⟨hS.mem,fun g l h=>Nat.lt_of_lt_of_le (hS.dom g l h) hc,fun g b hg=>?_,?_⟩
 ·obtain ⟨l,hl,hok⟩:=hS.blk g b (hh g b hg)
  refine ⟨l,hl,?_⟩
  cases b with
  | row sz es st par=>exact hok
  | map kv ver=>exact ⟨hok.1,Nat.lt_of_lt_of_le hok.2 hc⟩
  | iter m ver done=>
   obtain ⟨h0,hv,lm,since,last,seen,h1,h2,h3⟩:=hok
   exact ⟨h0,Nat.lt_of_lt_of_le hv hc,lm,since,last,seen,h1,h2,fun kv hkv=>h3 kv (hh m _ hkv)⟩
 ·intro i j bi bj li lj hij hi hj hli hlj he hci hcj
  obtain ⟨sz,k,es,par,h1,h2,⟨sz',es',st',par',lk,h3,h4,h5,h5c⟩,sz'',es'',st'',p,h6,h7⟩:=hS.ov i j bi bj li lj hij (hh i _ hi) (hh j _ hj) hli hlj he hci hcj
  have e1:bi=.row sz es (.lent k) par:=by have:=hh i _ hi; rw [this] at h1; exact Option.some.inj h1
  have e2:bj=.row sz'' es'' st'' (some p):=by have:=hh j _ hj; rw [this] at h6; exact Option.some.inj h6
  subst e1; subst e2
  exact ⟨sz,k,es,par,hi,h2,⟨sz',es',st',par',lk,hk i j _ _ li lj hij hi hj hli hlj he hci hcj sz k es par h1 h2 _ h3,h4,h5,h5c⟩,sz'',es'',st'',p,hj,h7⟩
theorem Sim.ret {G:Gh} {s:St} {w:World} {c0:Nat} {h0:Heap} (hS:Sim G s w) (h0n:∀ k,c0≤k→h0 k=none):Sim G { h:=retH c0 h0 s.h,c:=s.c } w:=by
 have hh:∀ g b,retH c0 h0 s.h g=some b→g<c0∧s.h g=some b:=by
  intro g b hg
  unfold retH at hg
  split at hg
  ·rename_i h; exact ⟨h,hg⟩
  ·rename_i h; rw [h0n g (by omega)] at hg; cases hg
 refine hS.sub (Nat.le_refl _) (fun g b hg=>(hh g b hg).2) ?_
 intro i j bi bj li lj hij hi hj hli hlj he hci hcj sz k es par h1 h2 b hb
 have:=(hh j bj hj).1
 show retH c0 h0 s.h k=some b
 unfold retH; rw [if_pos (by omega)]; exact hb
theorem Sim.dropOne {G:Gh} {s:St} {w:World} {g:Nat} {b:Body} {l:Loc} (hS:Sim G s w) (hg:s.h g=some b) (hl:G.loc g=some l) (hfree:0<l.cap→mj G s g l.b) :
  Sim G { s with h:=upd s.h g none } w:=by
 have hh:∀ k b,upd s.h g none k=some b→k≠g∧s.h k=some b:=by
  intro k b hk
  unfold upd at hk
  split at hk
  ·cases hk
  ·rename_i h; exact ⟨h,hk⟩
 refine hS.sub (Nat.le_refl _) (fun k b hk=>(hh k b hk).2) ?_
 intro i j bi bj li lj hij hi hj hli hlj he hci hcj sz k es par h1 h2 b' hb
 show upd s.h g none k=some b'
 unfold upd
 rw [if_neg]
 ·exact hb
 ·intro e
  subst e
  obtain ⟨sz',k',es',par',h1',_,⟨_,_,_,_,lk,h3,h4,h5,h5c⟩,_⟩:=hS.ov i j bi bj li lj hij (hh i _ hi).2 (hh j _ hj).2 hli hlj he hci hcj
  rw [h1] at h1'; injection h1' with h1'; injection h1' with _ _ h1'; injection h1' with h1'; subst h1'
  rw [hl] at h4; injection h4 with h4; subst h4
  exact hfree h5c i bi li (hh i _ hi).1 (hh i _ hi).2 hli hci h5.symm
theorem Stp.sub {G:Gh} {s s':St} {w:World} (hc:s.c≤s'.c) (hh:∀ g b,s'.h g=some b→s.h g=some b):Stp G s w G s' w where
 le:=.refl G
 c:=hc
 os:=rfl
 tape:=rfl
 output:=rfl
 size:=Nat.le_refl _
 keep _ _ _:=rfl
 own b hb:=fun ⟨g,body,l,hg,hl,he,hcap⟩=>⟨g,body,l,hh g body hg,hl,he,hcap⟩
def Gh.addMem (G:Gh) (b:Nat) (C:Array Value):Gh:={ G with mem:=fun b' o=>if b'=b then C[o]? else G.mem b' o }
theorem Sim.leMem {G:Gh} {s:St} {w:World} {b:Nat} {C:Array Value} {e:TypeId} {fr:Nat×Nat} (hS:Sim G s w) (hb:w.heap[b]?=some (.cells C e fr)):G.Le (G.addMem b C):=
 ⟨fun _ _ h=>h,fun b' o v hm=>by
  show (if b'=b then C[o]? else G.mem b' o)=some v
  split
  ·rename_i e; subst e
   have:=hS.mem b' o v hm
   rwa [lz hb] at this
  ·exact hm⟩
theorem Sim.addMem {G:Gh} {s:St} {w:World} {b:Nat} {C:Array Value} {e:TypeId} {fr:Nat×Nat} (hS:Sim G s w) (hb:w.heap[b]?=some (.cells C e fr))
  (hfree:∀ k sz es st par lk,s.h k=some (.row sz es st par)→st≠.frz→G.loc k=some lk→0<lk.cap→lk.b≠b):Sim (G.addMem b C) s w:=by
 have hle:=hS.leMem hb
 refine ⟨fun b' o v hm=>?_,hS.dom,fun k bk hk=>?_,?_⟩
 ·have:(if b'=b then C[o]? else G.mem b' o)=some v:=hm
  split at this
  ·rename_i e; subst e; rw [lz hb]; exact this
  ·exact hS.mem b' o v this
 ·obtain ⟨l,hl,hok⟩:=hS.blk k bk hk
  refine ⟨l,hl,?_⟩
  cases bk with
  | row sz es st par=>
   refine ⟨hok.1,hok.2.1,hok.2.2.1.keep hle (fun _=>rfl),fun hst hc o=>?_⟩
   show (if l.b=b then C[o]? else G.mem l.b o)=none
   rw [if_neg (hfree k sz es st par l hk hst hl hc)]
   exact hok.2.2.2 hst hc o
  | map kv ver=>exact ⟨MapOk.keep hok.1 hle rfl,hok.2⟩
  | iter m ver done=>
   obtain ⟨h0,hv,lm,since,last,seen,h1,h2,h3⟩:=hok
   exact ⟨h0,hv,lm,since,last,seen,h1,h2,h3⟩
 ·exact hS.ov
theorem Stp.addMem {G:Gh} {s:St} {w:World} {b:Nat} {C:Array Value} (hle:G.Le (G.addMem b C)):Stp G s w (G.addMem b C) s w where
 le:=hle
 c:=Nat.le_refl _
 os:=rfl
 tape:=rfl
 output:=rfl
 size:=Nat.le_refl _
 keep _ _ _:=rfl
 own b hb:=fun h=>h
theorem Sim.allocMem {G:Gh} {s:St} {w:World} (hS:Sim G s w) (C:Array Value) (e:TypeId):Sim (G.addMem w.heap.size C) s (w.alloc (.cells C e))∧Stp G s w (G.addMem w.heap.size C) s (w.alloc (.cells C e)):=by
 have hold:∀ b,b<w.heap.size→(w.alloc (.cells C e)).heap[b]?=w.heap[b]?:=fun b hb=>heap_alloc_old w _ b hb
 have hS1:Sim G s (w.alloc (.cells C e)):=hS.grow hold
 have hnew:=heap_alloc_new w (.cells C e)
 have hS2:=hS1.addMem hnew (fun k sz es st par lk hk _ hl hc=>Nat.ne_of_lt (hS.blkLt hk hl hc))
 refine ⟨hS2,?_⟩
 exact { le:=hS1.leMem hnew,c:=Nat.le_refl _,os:=rfl,tape:=rfl,output:=rfl,size:=by simp,keep:=fun b hb _=>hold b hb,own:=fun b hb h=>h }
end Go.AM
