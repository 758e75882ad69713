/- Part of the claim: see its last text. -/
import Derived.Test.YtjhogglgkjcacaaGreatMa10
set_option linter.all false
namespace Go.AM
def pC (G:Gh) (s:St) (g b:Nat):Prop:=∀ j bj lj,g<j→s.h j=some bj→G.loc j=some lj→0<lj.cap→lj.b≠b
def dI (s:St) (g sz:Nat) (es xs:List (List AV)) (par:Option Nat):St:=
 { h:=upd (upd s.h g (some (.row sz es (.lent s.c) par))) s.c (some (.row sz (es++xs) .live (some g))),c:=s.c+1 }
theorem dk {s:St} {g sz:Nat} {es xs:List (List AV)} {par:Option Nat} (hg:g≠s.c) (k:Nat):(dI s g sz es xs par).h k =
  if k=s.c then some (.row sz (es++xs) .live (some g)) else if k=g then some (.row sz es (.lent s.c) par) else s.h k:=by
 simp only [dI,upd]
theorem oz {G:Gh} {s:St} {w:World} (hS:Sim G s w) {g:Nat} {sz:Nat} {es xs:List (List AV)} {st:RSt} {par:Option Nat} {l l':Loc} (hg:s.h g=some (.row sz es st par)) {i j:Nat} {li:Loc} (hig:i≠g) (h:kz G s i j li) (hl':G.loc s.c=none) :
  kz (G.addLoc s.c l') (dI s g sz es xs par) i j li:=by
 obtain ⟨sz1,k,es1,par1,h1,h2,⟨sz2,es2,st2,par2,lk,h3,h4,h5,h5c⟩,sz3,es3,st3,p,h6,h7⟩:=h
 have hgc:g≠s.c:=Nat.ne_of_lt (hS.hLt hg)
 have hic:i≠s.c:=Nat.ne_of_lt (hS.hLt h1)
 have hkc:k≠s.c:=Nat.ne_of_lt (hS.hLt h3)
 have hjc:j≠s.c:=Nat.ne_of_lt (hS.hLt h6)
 have hle:G.Le (G.addLoc s.c l'):=Gh.le_addLoc hl'
 refine ⟨sz1,k,es1,par1,by rw [dk hgc,if_neg hic,if_neg hig]; exact h1,h2,?_,?_⟩
 ·by_cases hk:k=g
  ·subst hk
   exact ⟨sz,es,.lent s.c,par,lk,by rw [dk hgc,if_neg hkc,if_pos rfl],hle.loc _ _ h4,h5,h5c⟩
  ·exact ⟨sz2,es2,st2,par2,lk,by rw [dk hgc,if_neg hkc,if_neg hk]; exact h3,hle.loc _ _ h4,h5,h5c⟩
 ·by_cases hj:j=g
  ·subst hj
   rw [hg] at h6; injection h6 with h6; injection h6 with e1 e2 e3 e4
   subst e1; subst e2; subst e3; subst e4
   exact ⟨sz,es,.lent s.c,p,by rw [dk hgc,if_neg hjc,if_pos rfl],h7⟩
  ·exact ⟨sz3,es3,st3,p,by rw [dk hgc,if_neg hjc,if_neg hj]; exact h6,h7⟩
theorem uE {G:Gh} {s:St} {w w':World} (hS:Sim G s w) {g sz:Nat} {es xs:List (List AV)} {st:RSt} {par:Option Nat} {l':Loc} (hg:s.h g=some (.row sz es st par)) {k:Nat} {b:Body} {lk:Loc} (hk:s.h k=some b) (hlk:G.loc k=some lk)
  (hrow:∀ sz' es' st' par',b=.row sz' es' st' par'→RowOk (G.addLoc s.c l') w'.heap lk es') (hb:∀ (r:Nat) (o:Obj),w.heap[r]?=some o→(∀ C t f,o≠Obj.cells C t f)→w'.heap[r]?=some o) :
  lq (G.addLoc s.c l') (dI s g sz es xs par) w'.heap lk b:=by
 obtain ⟨l,hl,hok⟩:=hS.blk k b hk
 rw [hlk] at hl; injection hl with e; subst e
 have hgc:g≠s.c:=Nat.ne_of_lt (hS.hLt hg)
 have hle:G.Le (G.addLoc s.c l'):=Gh.le_addLoc hS.fresh
 cases b with
 | row sz' es' st' par'=>exact ⟨hok.1,hok.2.1,hrow _ _ _ _ rfl,hok.2.2.2⟩
 | map kv ver=>
  obtain ⟨h0,es0,clock,h1,h2⟩:=hok.1
  exact ⟨MapOk.keep hok.1 hle (by rw [hb _ _ h1 (by simp),h1]),Nat.lt_succ_of_lt hok.2⟩
 | iter m ver done=>
  obtain ⟨h0,hv,lm,since,last,seen,h1,h2,h3⟩:=hok
  refine ⟨h0,Nat.lt_succ_of_lt hv,lm,since,last,seen,hle.loc _ _ h1,hb _ _ h2 (by simp),fun kv hkv=>?_⟩
  have hmc:m≠s.c:=Nat.ne_of_lt (hS.dom _ _ h1)
  rw [dk hgc,if_neg hmc] at hkv
  split at hkv
  ·cases hkv
  ·obtain ⟨es0,clock,h4,h5⟩:=h3 kv hkv
   exact ⟨es0,clock,hb _ _ h4 (by simp),h5⟩
theorem vT {G:Gh} {s:St} {w:World} (hS:Sim G s w) {g sz:Nat} {es xs:List (List AV)} {st:RSt} {par:Option Nat} {l l':Loc} (hg:s.h g=some (.row sz es st par)) (hl:G.loc g=some l) (hlast:0<l.cap→pC G s g l.b)
  (hnew:0<l'.cap→(l'.b=l.b∧0<l.cap)∨w.heap.size≤l'.b) :
  ∀ i j bi bj li lj,i<j→(dI s g sz es xs par).h i=some bi→(dI s g sz es xs par).h j=some bj→(G.addLoc s.c l').loc i=some li→(G.addLoc s.c l').loc j=some lj→li.b=lj.b→0<li.cap→0<lj.cap →
   kz (G.addLoc s.c l') (dI s g sz es xs par) i j li:=by
 have hgc:g≠s.c:=Nat.ne_of_lt (hS.hLt hg)
 have hgc':=hS.hLt hg
 have hle:G.Le (G.addLoc s.c l'):=Gh.le_addLoc hS.fresh
 have hloc:∀ k lk,k≠s.c→(G.addLoc s.c l').loc k=some lk→G.loc k=some lk:=by
  intro k lk hk h
  have:(if k=s.c then some l' else G.loc k)=some lk:=h
  rwa [if_neg hk] at this
 intro i j bi bj li lj hij hi hj hli hlj he hci hcj
 rw [dk hgc] at hi hj
 by_cases hjc:j=s.c
 ·subst hjc
  have hic:i≠s.c:=Nat.ne_of_lt hij
  rw [if_neg hic] at hi
  have hli':=hloc i li hic hli
  have hlj':lj=l':=by
   have:(if s.c=s.c then some l' else G.loc s.c)=some lj:=hlj
   rw [if_pos rfl] at this; injection this with this; exact this.symm
  subst hlj'
  have hnewrow:(dI s g sz es xs par).h s.c=some (.row sz (es++xs) .live (some g)):=by rw [dk hgc,if_pos rfl]
  have hnewloc:(G.addLoc s.c lj).loc s.c=some lj:=bX _ _ _
  have hold:∃ bi',s.h i=some bi':=by
   split at hi
   ·rename_i e; subst e; exact ⟨_,hg⟩
   ·exact ⟨_,hi⟩
  obtain ⟨bi',hbi'⟩:=hold
  rcases hnew hcj with ⟨hb,hc0⟩ | hb
  ·by_cases hig:i=g
   ·subst hig
    have:li=l:=by rw [hl] at hli'; injection hli' with e; exact e.symm
    subst this
    exact ⟨sz,s.c,es,par,by rw [dk hgc,if_neg hic,if_pos rfl],Nat.le_refl _,⟨_,_,_,_,lj,hnewrow,hnewloc,hb,hcj⟩,_,_,_,i,hnewrow,by simp,rfl⟩
   ·rw [if_neg hig] at hi
    have hlt:i<g:=by
     rcases Nat.lt_or_gt_of_ne hig with h | h
     ·exact h
     ·exact absurd (he.trans hb) (hlast hc0 i bi li h hi hli' hci)
    have hL:=hS.ov i g bi _ li l hlt hi hg hli' hl (he.trans hb) hci hc0
    have hL':=oz (xs:=xs) (l:=l) (l':=lj) hS hg hig hL hS.fresh
    obtain ⟨sz1,k,es1,par1,h1,h2,h3,sz3,es3,st3,p,h6,h7,h8⟩:=hL'
    rw [dk hgc,if_neg hgc,if_pos rfl] at h6
    injection h6 with h6; injection h6 with e1 e2 e3 e4
    subst e1; subst e2
    exact ⟨sz1,k,es1,par1,h1,by omega,h3,_,_,_,g,hnewrow,by simp; omega,h8⟩
  ·have:=hS.blkLt hbi' hli' hci
   omega
 ·have hic:i≠s.c:=by
   intro e
   have:j<s.c:=by
    rw [if_neg hjc] at hj
    split at hj
    ·rename_i e'; omega
    ·exact hS.hLt hj
   omega
  rw [if_neg hic] at hi
  rw [if_neg hjc] at hj
  have hli':=hloc i li hic hli
  have hlj':=hloc j lj hjc hlj
  by_cases hig:i=g
  ·subst hig
   have:li=l:=by rw [hl] at hli'; injection hli' with e; exact e.symm
   subst this
   have hjg:j≠i:=by omega
   rw [if_neg hjg] at hj
   exact absurd he.symm (hlast hci j bj lj hij hj hlj' hcj)
  ·rw [if_neg hig] at hi
   have hj0:∃ bj',s.h j=some bj':=by
    split at hj
    ·rename_i e; subst e; exact ⟨_,hg⟩
    ·exact ⟨_,hj⟩
   obtain ⟨bj',hbj'⟩:=hj0
   exact oz (l:=l) hS hg hig (hS.ov i j bi bj' li lj hij hi hbj' hli' hlj' he hci hcj) hS.fresh
end Go.AM
