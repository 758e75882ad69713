/- Part of the claim: see its last text. -/
import Derived.Test.YtjhogglgkjcacaaGreatMa1
import Derived.Laws.Entries
import Derived.Laws.CopyRow
import Derived.ChangeKeysEq
set_option linter.all false
namespace Go.AM
def mp (G:Gh) (s:St) (g b:Nat):Prop:=∀ k bk lk,k≠g→s.h k=some bk→G.loc k=some lk→0<lk.cap→lk.b≠b
theorem wh {G:Gh} {s:St} {i j:Nat} {li l':Loc} {g c':Nat} {b':Body} (hle:G.Le (G.addLoc g l')) (h:kr G s i j li) (hfree:mp G s g l'.b) (hi:i≠g) (hj:j≠g)
  (hli:G.loc i=some li) (hci:0<li.cap) (hne:li.b≠l'.b∨(∀ k lk,G.loc k=some lk→k=g→lk.b=li.b→0<lk.cap→s.h k=none)) :
  kr (G.addLoc g l') { h:=upd s.h g (some b'),c:=c' } i j li:=by
 obtain ⟨sz,k,es,par,h1,h2,⟨sz',es',st',par',lk,h3,h4,h5,h5c⟩,sz'',es'',st'',p,h6,h7⟩:=h
 have hk:k≠g:=by
  intro e
  rcases hne with hne | hne
  ·subst e
   have hl:=hle.loc _ _ h4
   have:(if k=k then some l' else G.loc k)=some lk:=hl
   rw [if_pos rfl] at this; injection this with e; subst e
   exact hne h5.symm
  ·have:=hne k lk h4 e h5 h5c
   rw [h3] at this; cases this
 refine ⟨sz,k,es,par,?_,h2,⟨sz',es',st',par',lk,?_,hle.loc _ _ h4,h5,h5c⟩,sz'',es'',st'',p,?_,h7⟩
 ·show upd s.h g (some b') i=_; unfold upd; rw [if_neg hi]; exact h1
 ·show upd s.h g (some b') k=_; unfold upd; rw [if_neg hk]; exact h3
 ·show upd s.h g (some b') j=_; unfold upd; rw [if_neg hj]; exact h6
theorem Sim.put {G:Gh} {s:St} {w w':World} {g:Nat} {b':Body} {l':Loc} {c':Nat} (hS:Sim G s w) (hc:s.c≤c') (hgc:g<c') (hle:G.Le (G.addLoc g l'))
  (hfree:0<l'.cap→mp G s g l'.b) (hb:∀ b,b<w.heap.size→(0<l'.cap→b≠l'.b)→w'.heap[b]?=w.heap[b]?)
  (hmem:∀ o v,0<l'.cap→G.mem l'.b o=some v→w'.cell? ⟨l'.b,o,none⟩=some v) (hv:∀ kv ver,b'=.map kv ver→s.c≤ver)
  (hok:lh (G.addLoc g l') { h:=upd s.h g (some b'),c:=c' } w'.heap l' b') :
  Sim (G.addLoc g l') { h:=upd s.h g (some b'),c:=c' } w':=by
 have hbk:∀ k bk lk,k≠g→s.h k=some bk→G.loc k=some lk→0<lk.cap→w'.heap[lk.b]?=w.heap[lk.b]?:=fun k bk lk hk h1 h2 h3=>
  hb _ (hS.blkLt h1 h2 h3) fun h0=>hfree h0 k bk lk hk h1 h2 h3
 refine ⟨fun b o v hm=>?_,fun k l hk=>?_,fun k b hk=>?_,?_⟩
 ·by_cases e:0<l'.cap∧b=l'.b
  ·obtain ⟨e0,e⟩:=e; subst e; exact hmem o v e0 hm
  ·rw [du (hb b (hS.memLt hm) fun h0 e'=>e ⟨h0,e'⟩)]; exact hS.mem b o v hm
 ·have:(if k=g then some l' else G.loc k)=some l:=hk
  split at this
  ·rename_i e; subst e; exact hgc
  ·exact Nat.lt_of_lt_of_le (hS.dom k l this) hc
 ·have:upd s.h g (some b') k=some b:=hk
  unfold upd at this
  split at this
  ·rename_i e; subst e; injection this with e; subst e
   exact ⟨l',by simp [Gh.addLoc],hok⟩
  ·rename_i hne
   obtain ⟨l,hl,hok'⟩:=hS.blk k b this
   refine ⟨l,hle.loc _ _ hl,?_⟩
   cases b with
   | row sz es st par=>exact ⟨hok'.1,hok'.2.1,hok'.2.2.1.keep hle (fun h=>hbk k _ l hne this hl h),hok'.2.2.2⟩
   | map kv ver=>exact ⟨MapOk.keep hok'.1 hle (hbk k _ l hne this hl hok'.1.1),Nat.lt_of_lt_of_le hok'.2 hc⟩
   | iter m ver done=>
    obtain ⟨h0,hv',lm,since,last,seen,h1,h2,h3⟩:=hok'
    refine ⟨h0,Nat.lt_of_lt_of_le hv' hc,lm,since,last,seen,hle.loc _ _ h1,(hbk k _ l hne this hl h0).trans h2,fun kv hkv=>?_⟩
    have hkv':upd s.h g (some b') m=some (.map kv ver):=hkv
    unfold upd at hkv'
    split at hkv'
    ·injection hkv' with e
     have:=hv kv ver e
     omega
    ·rename_i hmg
     obtain ⟨es,clock,h4,h5⟩:=h3 kv hkv'
     have hcap:0<lm.cap:=by
      obtain ⟨l2,hl2,hok2⟩:=hS.blk m _ hkv'
      rw [h1] at hl2; injection hl2 with e; subst e
      exact hok2.1.1
     exact ⟨es,clock,(hbk m _ lm hmg hkv' h1 hcap).trans h4,h5⟩
 ·intro i j bi bj li lj hij hi hj hli hlj he hci hcj
  have hi':upd s.h g (some b') i=some bi:=hi
  have hj':upd s.h g (some b') j=some bj:=hj
  have hli':(if i=g then some l' else G.loc i)=some li:=hli
  have hlj':(if j=g then some l' else G.loc j)=some lj:=hlj
  unfold upd at hi' hj'
  by_cases e1:i=g
  ·rw [if_pos e1] at hli'; injection hli' with e; subst e
   have e2:j≠g:=by omega
   rw [if_neg e2] at hj' hlj'
   exact absurd he.symm (hfree hci j bj lj e2 hj' hlj' hcj)
  ·rw [if_neg e1] at hi' hli'
   by_cases e2:j=g
   ·rw [if_pos e2] at hlj'; injection hlj' with e; subst e
    exact absurd he (hfree hcj i bi li e1 hi' hli' hci)
   ·rw [if_neg e2] at hj' hlj'
    have hL:=hS.ov i j bi bj li lj hij hi' hj' hli' hlj' he hci hcj
    by_cases hcap:0<l'.cap
    ·exact wh hle hL (hfree hcap) e1 e2 hli' hci (.inl (hfree hcap i bi li e1 hi' hli' hci))
    ·
     obtain ⟨sz,k,es,par,h1,h2,⟨sz',es',st',par',lk,h3,h4,h5,h5c⟩,sz'',es'',st'',p,h6,h7⟩:=hL
     have hk:k≠g:=by
      intro e; subst e
      have:=hle.loc _ _ h4
      have:(if k=k then some l' else G.loc k)=some lk:=this
      rw [if_pos rfl] at this; injection this with e; subst e
      omega
     refine ⟨sz,k,es,par,?_,h2,⟨sz',es',st',par',lk,?_,hle.loc _ _ h4,h5,h5c⟩,sz'',es'',st'',p,?_,h7⟩
     ·show upd s.h g (some b') i=_; unfold upd; rw [if_neg e1]; exact h1
     ·show upd s.h g (some b') k=_; unfold upd; rw [if_neg hk]; exact h3
     ·show upd s.h g (some b') j=_; unfold upd; rw [if_neg e2]; exact h6
theorem f7 {G:Gh} {g:Nat} {l:Loc} (h:G.loc g=some l):G.addLoc g l=G:=by
 unfold Gh.addLoc
 have:(fun k=>if k=g then some l else G.loc k)=G.loc:=by funext k; split <;> simp_all
 rw [this]
theorem Sim.freeRow {G:Gh} {s:St} {w:World} (hS:Sim G s w) {g sz:Nat} {es:List (List AV)} {st:RSt} {l:Loc} (hg:s.h g=some (.row sz es st none)) (hst:∀ k,st≠.lent k)
  (hl:G.loc g=some l) (hc:0<l.cap):mp G s g l.b:=by
 intro k bk lk hk h1 h2 h3 he
 rcases Nat.lt_or_gt_of_ne hk with h | h
 ·obtain ⟨_,_,_,_,_,_,_,_,_,_,p,h6,_⟩:=hS.ov k g bk _ lk l h h1 hg h2 hl he h3 hc
  rw [hg] at h6; cases h6
 ·obtain ⟨_,k',_,_,h6,_⟩:=hS.ov g k _ bk l lk h hg h1 hl h2 he.symm hc h3
  rw [hg] at h6; injection h6 with h6; injection h6 with _ _ h6; exact hst _ h6
theorem Sim.freeOther {G:Gh} {s:St} {w:World} (hS:Sim G s w) {g:Nat} {b:Body} {l:Loc} (hg:s.h g=some b) (hb:∀ sz es st par,b≠.row sz es st par)
  (hl:G.loc g=some l) (hc:0<l.cap):mp G s g l.b:=by
 intro k bk lk hk h1 h2 h3 he
 rcases Nat.lt_or_gt_of_ne hk with h | h
 ·obtain ⟨_,_,_,_,_,_,_,sz,es,st,p,h6,_⟩:=hS.ov k g bk _ lk l h h1 hg h2 hl he h3 hc
  rw [hg] at h6; injection h6 with h6; exact hb _ _ _ _ h6
 ·obtain ⟨_,k',_,_,h6,_⟩:=hS.ov g k _ bk l lk h hg h1 hl h2 he.symm hc h3
  rw [hg] at h6; injection h6 with h6; exact hb _ _ _ _ h6
theorem Sim.sub {G:Gh} {s s':St} {w:World} (hS:Sim G s w) (hc:s.c≤s'.c) (hh:∀ g b,s'.h g=some b→s.h g=some b)
  (hk:∀ i j bi bj li lj,i<j→s'.h i=some bi→s'.h j=some bj→G.loc i=some li→G.loc j=some lj→li.b=lj.b→0<li.cap→0<lj.cap →
   ∀ sz k es par,s.h i=some (.row sz es (.lent k) par)→k≤j→∀ b,s.h k=some b→s'.h k=some b):Sim G s' w:=by
 refine ⟨hS.mem,fun g l h=>Nat.lt_of_lt_of_le (hS.dom g l h) hc,fun g b hg=>?_,?_⟩
 ·obtain ⟨l,hl,hok⟩:=hS.blk g b (hh g b hg)
  refine ⟨l,hl,?_⟩
  cases b with
  | row sz es st par=>exact hok
  | map kv ver=>exact ⟨hok.1,Nat.lt_of_lt_of_le hok.2 hc⟩
  | iter m ver done=>
   obtain ⟨h0,hv,lm,since,last,seen,h1,h2,h3⟩:=hok
   exact ⟨h0,Nat.lt_of_lt_of_le hv hc,lm,since,last,seen,h1,h2,fun kv hkv=>h3 kv (hh m _ hkv)⟩
 ·intro i j bi bj li lj hij hi hj hli hlj he hci hcj
  obtain ⟨sz,k,es,par,h1,h2,⟨sz',es',st',par',lk,h3,h4,h5,h5c⟩,sz'',es'',st'',p,h6,h7⟩:=hS.ov i j bi bj li lj hij (hh i _ hi) (hh j _ hj) hli hlj he hci hcj
  have e1:bi=.row sz es (.lent k) par:=by have:=hh i _ hi; rw [this] at h1; exact Option.some.inj h1
  have e2:bj=.row sz'' es'' st'' (some p):=by have:=hh j _ hj; rw [this] at h6; exact Option.some.inj h6
  subst e1; subst e2
  exact ⟨sz,k,es,par,hi,h2,⟨sz',es',st',par',lk,hk i j _ _ li lj hij hi hj hli hlj he hci hcj sz k es par h1 h2 _ h3,h4,h5,h5c⟩,sz'',es'',st'',p,hj,h7⟩
theorem Sim.ret {G:Gh} {s:St} {w:World} {c0:Nat} {h0:Heap} (hS:Sim G s w) (h0n:∀ k,c0≤k→h0 k=none):Sim G { h:=retH c0 h0 s.h,c:=s.c } w:=by
 have hh:∀ g b,retH c0 h0 s.h g=some b→g<c0∧s.h g=some b:=by
  intro g b hg
  unfold retH at hg
  split at hg
  ·rename_i h; exact ⟨h,hg⟩
  ·rename_i h; rw [h0n g (by omega)] at hg; cases hg
 refine hS.sub (Nat.le_refl _) (fun g b hg=>(hh g b hg).2) ?_
 intro i j bi bj li lj hij hi hj hli hlj he hci hcj sz k es par h1 h2 b hb
 have:=(hh j bj hj).1
 show retH c0 h0 s.h k=some b
 unfold retH; rw [if_pos (by omega)]; exact hb
theorem Sim.dropOne {G:Gh} {s:St} {w:World} {g:Nat} {b:Body} {l:Loc} (hS:Sim G s w) (hg:s.h g=some b) (hl:G.loc g=some l) (hfree:0<l.cap→mp G s g l.b) :
  Sim G { s with h:=upd s.h g none } w:=by
 have hh:∀ k b,upd s.h g none k=some b→k≠g∧s.h k=some b:=by
  intro k b hk
  unfold upd at hk
  split at hk
  ·cases hk
  ·rename_i h; exact ⟨h,hk⟩
 refine hS.sub (Nat.le_refl _) (fun k b hk=>(hh k b hk).2) ?_
 intro i j bi bj li lj hij hi hj hli hlj he hci hcj sz k es par h1 h2 b' hb
 show upd s.h g none k=some b'
 unfold upd
 rw [if_neg]
 ·exact hb
 ·intro e
  subst e
  obtain ⟨sz',k',es',par',h1',_,⟨_,_,_,_,lk,h3,h4,h5,h5c⟩,_⟩:=hS.ov i j bi bj li lj hij (hh i _ hi).2 (hh j _ hj).2 hli hlj he hci hcj
  rw [h1] at h1'; injection h1' with h1'; injection h1' with _ _ h1'; injection h1' with h1'; subst h1'
  rw [hl] at h4; injection h4 with h4; subst h4
  exact hfree h5c i bi li (hh i _ hi).1 (hh i _ hi).2 hli hci h5.symm
theorem Stp.sub {G:Gh} {s s':St} {w:World} (hc:s.c≤s'.c) (hh:∀ g b,s'.h g=some b→s.h g=some b):Stp G s w G s' w where
 le:=.refl G
 c:=hc
 os:=rfl
 tape:=rfl
 output:=rfl
 size:=Nat.le_refl _
 keep _ _ _:=rfl
 own b hb:=fun ⟨g,body,l,hg,hl,he,hcap⟩=>⟨g,body,l,hh g body hg,hl,he,hcap⟩
def Gh.addMem (G:Gh) (b:Nat) (C:Array Value):Gh:={ G with mem:=fun b' o=>if b'=b then C[o]? else G.mem b' o }
theorem Sim.leMem {G:Gh} {s:St} {w:World} {b:Nat} {C:Array Value} {e:TypeId} {fr:Nat×Nat} (hS:Sim G s w) (hb:w.heap[b]?=some (.cells C e fr)):G.Le (G.addMem b C):=
 ⟨fun _ _ h=>h,fun b' o v hm=>by
  show (if b'=b then C[o]? else G.mem b' o)=some v
  split
  ·rename_i e; subst e
   have:=hS.mem b' o v hm
   rwa [lq hb] at this
  ·exact hm⟩
theorem Sim.addMem {G:Gh} {s:St} {w:World} {b:Nat} {C:Array Value} {e:TypeId} {fr:Nat×Nat} (hS:Sim G s w) (hb:w.heap[b]?=some (.cells C e fr))
  (hfree:∀ k sz es st par lk,s.h k=some (.row sz es st par)→st≠.frz→G.loc k=some lk→0<lk.cap→lk.b≠b):Sim (G.addMem b C) s w:=by
 have hle:=hS.leMem hb
 refine ⟨fun b' o v hm=>?_,hS.dom,fun k bk hk=>?_,?_⟩
 ·have:(if b'=b then C[o]? else G.mem b' o)=some v:=hm
  split at this
  ·rename_i e; subst e; rw [lq hb]; exact this
  ·exact hS.mem b' o v this
 ·obtain ⟨l,hl,hok⟩:=hS.blk k bk hk
  refine ⟨l,hl,?_⟩
  cases bk with
  | row sz es st par=>
   refine ⟨hok.1,hok.2.1,hok.2.2.1.keep hle (fun _=>rfl),fun hst hc o=>?_⟩
   show (if l.b=b then C[o]? else G.mem l.b o)=none
   rw [if_neg (hfree k sz es st par l hk hst hl hc)]
   exact hok.2.2.2 hst hc o
  | map kv ver=>exact ⟨MapOk.keep hok.1 hle rfl,hok.2⟩
  | iter m ver done=>
   obtain ⟨h0,hv,lm,since,last,seen,h1,h2,h3⟩:=hok
   exact ⟨h0,hv,lm,since,last,seen,h1,h2,h3⟩
 ·exact hS.ov
theorem Stp.addMem {G:Gh} {s:St} {w:World} {b:Nat} {C:Array Value} (hle:G.Le (G.addMem b C)):Stp G s w (G.addMem b C) s w where
 le:=hle
 c:=Nat.le_refl _
 os:=rfl
 tape:=rfl
 output:=rfl
 size:=Nat.le_refl _
 keep _ _ _:=rfl
 own b hb:=fun h=>h
theorem Sim.allocMem {G:Gh} {s:St} {w:World} (hS:Sim G s w) (C:Array Value) (e:TypeId):Sim (G.addMem w.heap.size C) s (w.alloc (.cells C e))∧Stp G s w (G.addMem w.heap.size C) s (w.alloc (.cells C e)):=by
 have hold:∀ b,b<w.heap.size→(w.alloc (.cells C e)).heap[b]?=w.heap[b]?:=fun b hb=>heap_alloc_old w _ b hb
 have hS1:Sim G s (w.alloc (.cells C e)):=hS.grow hold
 have hnew:=heap_alloc_new w (.cells C e)
 have hS2:=hS1.addMem hnew (fun k sz es st par lk hk _ hl hc=>Nat.ne_of_lt (hS.blkLt hk hl hc))
 refine ⟨hS2,?_⟩
 exact { le:=hS1.leMem hnew,c:=Nat.le_refl _,os:=rfl,tape:=rfl,output:=rfl,size:=by simp,keep:=fun b hb _=>hold b hb,own:=fun b hb h=>h }
end Go.AM
namespace Go.AM
def Out (P:Program) (x:Sem Value) (G:Gh) (s:St) (w:World) (av:AV) (s':St):Prop:=
 ∃ v w' G',x.run P w=.ok v w'∧Stp G s w G' s' w'∧Sim G' s' w'∧Rep G' av v
theorem Out.quiet {P:Program} {x:Sem Value} {G:Gh} {s:St} {w:World} {av:AV} {v:Value} (hS:Sim G s w) (h:x.run P w=.ok v w) (hr:Rep G av v):Out P x G s w av s:=
 ⟨v,w,G,h,Stp.refl G s w,hS,hr⟩
def tAg (P:Program) (t:TypeId):Option (Option Nat):=match P.underlying t with
 | some (.struct _) | some (.array _ _)=>(P.info? t).map fun i=>some i.size
 | some _=>some none
 | none=>none
theorem qR {P:Program} {t:TypeId} {n:Nat} (h:tAg P t=some (some n)) (w:World):(isAgg t).run P w=.ok true w∧(sizeOf t).run P w=.ok n w:=by
 unfold tAg at h
 have hs:∀ d,P.underlying t=some d→(match d with | .struct _ | .array _ _=>true | _=>false)=true→(P.info? t).map (fun i=>some i.size)=some (some n)→(isAgg t).run P w=.ok true w∧(sizeOf t).run P w=.ok n w:=by
  intro d hu hd hi
  cases hi':P.info? t with
  | none=>simp [hi'] at hi
  | some i=>
   simp [hi'] at hi
   refine ⟨?_,by simp [sizeOf,typeInfo,hi',hi]⟩
   cases d <;> simp at hd <;> simp [isAgg,run_underlying hu]
 split at h
 ·exact hs _ ‹_› rfl h
 ·exact hs _ ‹_› rfl h
 ·simp at h
 ·simp at h
theorem qQ {P:Program} {t:TypeId} (h:tAg P t=some none) (w:World):(isAgg t).run P w=.ok false w:=by
 unfold tAg at h
 split at h
 ·simp at h
 ·simp at h
 ·rename_i d h1 h2 hu
  cases d <;> first | (exact absurd rfl (h1 _)) | (exact absurd rfl (h2 _ _)) | simp [isAgg,run_underlying hu]
 ·simp at h
def pS (w:World) (b o:Nat) (vs:List Value):Prop:=∀ (j:Nat) (v:Value),vs[j]?=some v→w.cell? ⟨b,o+j,none⟩=some v
theorem d7 (b o j:Nat):(⟨b,o,none⟩:Addr).add j=⟨b,o+j,none⟩:=by unfold Addr.add; split <;> simp_all
theorem eY {P:Program} {w:World} {t:TypeId} {b o:Nat} {cs:List AV} {G:Gh} {vs:List Value} (hl:pS w b o vs) (hr:RepL G cs vs) {ag:Option Nat} (hag:tAg P t=some ag) {k:Nat} {av:AV}
  (h:cG ag cs k=some av):∃ v,(loadVar t ⟨b,o+k,none⟩).run P w=.ok v w∧Rep G av v:=by
 cases ag with
 | some n=>
  simp only [cG] at h
  split at h
  ·rename_i hle
   injection h with h; subst h
   obtain ⟨h1,h2⟩:=qR hag w
   refine ⟨.agg ((vs.drop k).take n).toArray,?_,(hr.drop k |>.take n).toAgg⟩
   have hlen:((vs.drop k).take n).length=n:=by simp [←hr.1]; omega
   have hc:=run_loadCells_list (P:=P) w ⟨b,o+k,none⟩ ((vs.drop k).take n) (fun j v hv=>by
    rw [d7,Nat.add_assoc]
    rw [List.getElem?_take] at hv
    split at hv
    ·rw [List.getElem?_drop] at hv; exact hl _ _ hv
    ·cases hv)
   rw [hlen] at hc
   simp [loadVar,h1,h2,hc]
  ·cases h
 | none=>
  simp only [cG] at h
  obtain ⟨v,hv,hrep⟩:=hr.get h
  refine ⟨v,?_,hrep⟩
  simp [loadVar,qQ hag w,hl _ _ hv]
theorem Sim.elem {G:Gh} {s:St} {w:World} (hS:Sim G s w) {g e:Nat} {cs:List AV} (h:s.elem g e=some cs) :
  ∃ l,G.loc g=some l∧∃ vs,pS w l.b (e*l.sz) vs∧RepL G cs vs∧0<l.cap∧cs.length=l.sz:=by
 unfold St.elem at h
 split at h
 ·rename_i sz es st par hg
  obtain ⟨l,hl,hsz,hpos,hrow,_⟩:=hS.blk g _ hg
  have hlt:e<es.length:=(List.getElem?_eq_some_iff.1 h).1
  have hcap:0<l.cap:=by have:=hrow.1; omega
  obtain ⟨C,t,h1,h2,h3⟩:=hrow.2 hcap
  obtain ⟨h4,h5⟩:=h3 e cs h
  refine ⟨l,hl,(List.range cs.length).map (fun j=>C.getD (e*l.sz+j) default),?_,⟨by simp,?_⟩,hcap,h4⟩
  ·intro j v hv
   have hj:j<cs.length:=by have:=(List.getElem?_eq_some_iff.1 hv).1; simpa using this
   obtain ⟨_,u,hu,_⟩:=h5 j _ (List.getElem?_eq_getElem hj)
   simp [List.getElem?_map,List.getElem?_range hj] at hv
   rw [lq h1,hu,←hv,hu]; rfl
  ·intro j a v ha hv
   have hj:j<cs.length:=(List.getElem?_eq_some_iff.1 ha).1
   obtain ⟨_,u,hu,hrep⟩:=h5 j a ha
   simp [List.getElem?_map,List.getElem?_range hj,hu] at hv
   subst hv; exact hrep
 ·cases h
theorem Sim.zp {G:Gh} {s:St} {w:World} (hS:Sim G s w) {cs:List AV} {o:Nat} {v:Value} (h:Rep G (.zp cs o) v) :
  ∃ b a vs,v=.pointer (some ⟨b,a+o,none⟩)∧pS w b a vs∧RepL G cs vs:=by
 cases h with
 | zp _ _ b a f hm h=>
  refine ⟨b,a,(List.range cs.length).map f,rfl,fun j v hv=>?_,by simp,fun j c v hc hv=>?_⟩
  ·have hj:j<cs.length:=by have:=(List.getElem?_eq_some_iff.1 hv).1; simpa using this
   simp [List.getElem?_map,List.getElem?_range hj] at hv
   subst hv
   exact hS.mem _ _ _ (hm j _ (List.getElem?_eq_getElem hj))
  ·have hj:j<cs.length:=(List.getElem?_eq_some_iff.1 hc).1
   simp [List.getElem?_map,List.getElem?_range hj] at hv
   subst hv; exact h j c hc
theorem x9 {P:Program} {G:Gh} {s:St} {w:World} {t:TypeId} {ag:Option Nat} (hag:tAg P t=some ag) {a av:AV} {x:Value} (h:ldI ag a s=some av) (hr:Rep G a x) (hS:Sim G s w) :
  Out P (Instr.loadAt t x) G s w av s:=by
 unfold ldI at h
 split at h
 ·rename_i g e o
  cases he:s.elem g e with
  | none=>simp [he] at h
  | some cs=>
   simp [he] at h
   obtain ⟨l,hl,vs,hlies,hrl,_⟩:=hS.elem he
   cases hr with
   | ptr _ _ _ l' hg=>
    rw [hl] at hg; injection hg with hg; subst hg
    obtain ⟨v,hv,hrep⟩:=eY (P:=P) hlies hrl hag h
    exact .quiet hS (by simp [Instr.loadAt,Instr.sureAddr,hv]) hrep
 ·rename_i cs o
  obtain ⟨b,a,vs,rfl,hlies,hrl⟩:=hS.zp hr
  obtain ⟨v,hv,hrep⟩:=eY (P:=P) hlies hrl hag h
  exact .quiet hS (by simp [Instr.loadAt,Instr.sureAddr,hv]) hrep
 ·cases h
def tSz (P:Program) (t:TypeId):Option Nat:=(P.info? t).map (·.size)
theorem rX {P:Program} {t:TypeId} {n:Nat} (h:tSz P t=some n) (w:World):(sizeOf t).run P w=.ok n w:=by
 unfold tSz at h
 cases hi:P.info? t with
 | none=>simp [hi] at h
 | some i=>simp [hi] at h; simp [sizeOf,typeInfo,hi,h]
def vf (P:Program) (st:TypeId) (f:Nat):Option Nat:=match P.underlying st with
 | some (.struct fields)=>match fields[f]? with
  | some fd=>match tSz P fd.type with
   | some (_+1)=>some fd.offset
   | _=>none
  | none=>none
 | _=>none
theorem xT {P:Program} {G:Gh} {s:St} {w:World} {t:TypeId} {f off:Nat} (ht:vf P t f=some off) {a av:AV} {x:Value} (h:faI off a=some av) (hr:Rep G a x) (hS:Sim G s w) :
  Out P (Instr.fieldAt t x f) G s w av s:=by
 unfold vf at ht
 split at ht
 ·rename_i fields hu
  split at ht
  ·rename_i fd hf
   split at ht
   ·rename_i n hn
    injection ht with ht; subst ht
    have hrun:∀ (b o:Nat),(Instr.fieldAt t (.pointer (some ⟨b,o,none⟩)) f).run P w=.ok (.pointer (some ⟨b,o+fd.offset,none⟩)) w:=by
     intro b o
     simp [Instr.fieldAt,run_underlying hu,hf,Instr.sureAddr,fieldPlace,rX hn,d7]
    unfold faI at h
    split at h
    ·rename_i g e o
     injection h with h; subst h
     cases hr with
     | ptr _ _ _ l hg=>exact .quiet hS (hrun _ _) (by rw [Nat.add_assoc]; exact .ptr g e (o+fd.offset) l hg)
    ·rename_i cs o
     injection h with h; subst h
     cases hr with
     | zp _ _ b a f' hm hz=>exact .quiet hS (hrun _ _) (by rw [Nat.add_assoc]; exact .zp cs (o+fd.offset) b a f' hm hz)
    ·cases h
   ·cases ht
  ·cases ht
 ·cases ht
def tFd (P:Program) (st:TypeId) (f:Nat):Option (Option Nat×Nat):=match P.underlying st with
 | some (.struct fields)=>match fields[f]? with
  | some fd=>(tAg P fd.type).map fun ag=>(ag,fd.offset)
  | none=>none
 | _=>none
theorem rt {P:Program} {G:Gh} {w:World} {t:TypeId} {ag:Option Nat} (hag:tAg P t=some ag) {cs:List AV} {vs:Array Value} (hr:RepL G cs vs.toList) {off:Nat} {av:AV}
  (h:cG ag cs off=some av):∃ v,(part t vs off).run P w=.ok v w∧Rep G av v:=by
 cases ag with
 | some n=>
  simp only [cG] at h
  split at h
  ·injection h with h; subst h
   obtain ⟨h1,h2⟩:=qR hag w
   refine ⟨.agg (vs.extract off (off+n)),by simp [part,h1,h2],?_⟩
   have:=(hr.drop off |>.take n).toAgg
   have e:((vs.toList.drop off).take n).toArray=vs.extract off (off+n):=by
    apply Array.ext'
    simp [Array.toList_extract,List.extract_eq_take_drop]
   rwa [e] at this
  ·cases h
 | none=>
  simp only [cG] at h
  obtain ⟨v,hv,hrep⟩:=hr.get h
  exact ⟨v,by simp [part,qQ hag w,(by simpa using hv:vs[off]?=some v)],hrep⟩
theorem xU {P:Program} {G:Gh} {s:St} {w:World} {t:TypeId} {f:Nat} {ag:Option Nat} {off:Nat} (ht:tFd P t f=some (ag,off)) {a av:AV} {x:Value} (h:fdI ag off a=some av) (hr:Rep G a x) (hS:Sim G s w) :
  Out P (Instr.field t x f) G s w av s:=by
 unfold tFd at ht
 split at ht
 ·rename_i fields hu
  split at ht
  ·rename_i fd hf
   cases hag:tAg P fd.type with
   | none=>simp [hag] at ht
   | some ag'=>
    simp [hag] at ht
    obtain ⟨e1,e2⟩:=ht
    subst e1; subst e2
    unfold fdI at h
    split at h
    ·obtain ⟨vs,rfl,hrl⟩:=hr.ofAgg
     obtain ⟨v,hv,hrep⟩:=rt (P:=P) (w:=w) hag hrl h
     exact .quiet hS (by simp [Instr.field,run_underlying hu,hf,asAgg,hv]) hrep
    ·cases h
  ·cases ht
 ·cases ht
def dB (P:Program) (t:TypeId):Option (TypeId×TypeInfo):=match P.underlying t with
 | some (.slice e)=>(P.info? e).map fun i=>(e,i)
 | _=>none
theorem de {P:Program} {t e:TypeId} {i:TypeInfo} (h:dB P t=some (e,i)):P.underlying t=some (.slice e)∧P.info? e=some i:=by
 unfold dB at h
 split at h
 ·rename_i e' hu
  cases hi:P.info? e' with
  | none=>simp [hi] at h
  | some i'=>simp [hi] at h; obtain ⟨rfl,rfl⟩:=h; exact ⟨hu,hi⟩
 ·cases h
theorem im {G:Gh} {a:AV} {x:Value} {n:Int} (h:asI a=some n) (hr:Rep G a x):∃ k,x=.int k n:=by
 unfold asI at h
 split at h
 ·injection h with h; subst h
  cases hr with
  | sc _ _=>exact ⟨_,rfl⟩
 ·cases h
theorem xY {P:Program} {G:Gh} {s:St} {w:World} {t e:TypeId} {i:TypeInfo} (ht:dB P t=some (e,i)) {a ai av:AV} {x xi:Value} (h:iaI i.size a ai=some av)
  (hr:Rep G a x) (hri:Rep G ai xi) (hS:Sim G s w):Out P (Instr.indexAt t x xi) G s w av s:=by
 obtain ⟨hu,hi⟩:=de ht
 unfold iaI at h
 cases hn:asI ai with
 | none=>simp [hn] at h
 | some n=>
  obtain ⟨k,rfl⟩:=im hn hri
  simp only [hn] at h
  split at h
  ·rename_i g sz' off len
   split at h
   ·rename_i hc
    obtain ⟨hse,h0,hlt⟩:=hc
    injection h with h; subst h
    cases hr with
    | row _ _ _ l ao hg hcap ha=>
     have hoff:off<l.cap:=by omega
     have hao:=ha hoff
     subst hao
     refine .quiet hS (v:=.pointer (some ⟨l.b,(off+n.toNat)*l.sz+0,none⟩)) ?_ (.ptr _ _ 0 l hg)
     have hlt':n<(len:Int):=hlt
     simp [Instr.indexAt,asIntOf,run_underlying hu,sizeOf,typeInfo,d7,Nat.add_mul, *]
   ·cases h
  ·rename_i es full
   split at h
   ·rename_i h0
    split at h
    ·rename_i cs hcs
     split at h
     ·rename_i hlen
      injection h with h; subst h
      have hlt:n.toNat<es.length:=(List.getElem?_eq_some_iff.1 hcs).1
      cases hr with
      | sl _ _ ao cap b o sz f hc hf ha hz hm hrep=>
       have hao:=ha (by intro e; subst e; simp at hlt)
       subst hao
       have hsz:=hz _ _ hcs
       have hsz':sz=i.size:=by omega
       subst hsz'
       refine .quiet hS (v:=.pointer (some ⟨b,o+n.toNat*i.size+0,none⟩)) ?_ (.zp cs 0 b _ (f n.toNat) (fun j c hj=>hm _ _ _ _ hcs hj) (fun j c hj=>hrep _ _ _ _ hcs hj))
       have hlt':n<(es.length:Int):=by omega
       simp [Instr.indexAt,asIntOf,run_underlying hu,h0,hlt',sizeOf,typeInfo,hi,d7]
     ·cases h
    ·cases h
   ·cases h
  ·cases h
theorem xZ {P:Program} {G:Gh} {s:St} {w:World} {t:TypeId} (hu:P.underlying t=some .string) {a ai av:AV} {x xi:Value} (h:ixI a ai=some av)
  (hr:Rep G a x) (hri:Rep G ai xi) (hS:Sim G s w):Out P (Instr.index t x xi) G s w av s:=by
 unfold ixI at h
 split at h
 ·rename_i st n hn
  obtain ⟨k,rfl⟩:=im hn hri
  cases hr with
  | sc _ _=>
   split at h
   ·rename_i h0
    cases hb:st[n.toNat]? with
    | none=>simp [hb] at h
    | some b=>
     simp [hb] at h; subst h
     exact .quiet hS (v:=.int .u8 b.toNat) (by simp [Instr.index,asIntOf,run_underlying hu,h0,hb]) (.sc _ rfl)
   ·cases h
 ·cases h
theorem yh {P:Program} {G:Gh} {w:World} {a:AV} {x:Value} (hr:Rep G a x) (h:(∃ g e o,a=.ptr g e o)∨(∃ cs o,a=.zp cs o)∨(∃ f l m,a=.fn (.func f) l m)) {o:Oper} {y:Operand} {ρ:Operand→Value} (ho:o.op=.nilCheck y)
  (hx:ρ y=x):(execOp ρ o).run P w=.ok (.value x) w:=by
 rcases h with ⟨g,e,oo,rfl⟩ | ⟨cs,oo,rfl⟩ | ⟨f,l,m,rfl⟩ <;> cases hr <;> simp [execOp,ho,hx]
theorem xS {P:Program} {G:Gh} {s:St} {w:World} {a av:AV} {x:Value} {i:Nat} (h:exI a i=some av) (hr:Rep G a x) (hS:Sim G s w):Out P (Instr.extract x i) G s w av s:=by
 unfold exI at h
 split at h
 ·obtain ⟨vs,rfl,hrl⟩:=hr.ofTup
  obtain ⟨v,hv,hrep⟩:=hrl.get h
  exact .quiet hS (by simp [Instr.extract,(by simpa using hv:vs[i]?=some v)]) hrep
 ·cases h
end Go.AM
