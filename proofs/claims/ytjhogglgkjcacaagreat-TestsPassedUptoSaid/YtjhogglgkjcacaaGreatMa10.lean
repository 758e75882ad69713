/- Part of the claim: see its last text. -/
import Derived.Test.YtjhogglgkjcacaaGreatMa6
import Derived.Test.YtjhogglgkjcacaaGreatMa5
set_option linter.all false
namespace Go.AM
def pR (G:Gh) (s:St) (g b:Nat):Prop:=∀ j bj lj,g<j→s.h j=some bj→G.loc j=some lj→0<lj.cap→lj.b≠b
def dw (s:St) (g sz:Nat) (es xs:List (List AV)) (par:Option Nat):St:=
 { h:=upd (upd s.h g (some (.row sz es (.lent s.c) par))) s.c (some (.row sz (es++xs) .live (some g))),c:=s.c+1 }
theorem dc {s:St} {g sz:Nat} {es xs:List (List AV)} {par:Option Nat} (hg:g≠s.c) (k:Nat):(dw s g sz es xs par).h k =
  if k=s.c then some (.row sz (es++xs) .live (some g)) else if k=g then some (.row sz es (.lent s.c) par) else s.h k:=by
 simp only [dw,upd]
theorem oZ {G:Gh} {s:St} {w:World} (hS:Sim G s w) {g:Nat} {sz:Nat} {es xs:List (List AV)} {st:RSt} {par:Option Nat} {l l':Loc} (hg:s.h g=some (.row sz es st par)) {i j:Nat} {li:Loc} (hig:i≠g) (h:kr G s i j li) (hl':G.loc s.c=none) :
  kr (G.addLoc s.c l') (dw s g sz es xs par) i j li:=by
 obtain ⟨sz1,k,es1,par1,h1,h2,⟨sz2,es2,st2,par2,lk,h3,h4,h5,h5c⟩,sz3,es3,st3,p,h6,h7⟩:=h
 have hgc:g≠s.c:=Nat.ne_of_lt (hS.hLt hg)
 have hic:i≠s.c:=Nat.ne_of_lt (hS.hLt h1)
 have hkc:k≠s.c:=Nat.ne_of_lt (hS.hLt h3)
 have hjc:j≠s.c:=Nat.ne_of_lt (hS.hLt h6)
 have hle:G.Le (G.addLoc s.c l'):=Gh.le_addLoc hl'
 refine ⟨sz1,k,es1,par1,by rw [dc hgc,if_neg hic,if_neg hig]; exact h1,h2,?_,?_⟩
 ·by_cases hk:k=g
  ·subst hk
   exact ⟨sz,es,.lent s.c,par,lk,by rw [dc hgc,if_neg hkc,if_pos rfl],hle.loc _ _ h4,h5,h5c⟩
  ·exact ⟨sz2,es2,st2,par2,lk,by rw [dc hgc,if_neg hkc,if_neg hk]; exact h3,hle.loc _ _ h4,h5,h5c⟩
 ·by_cases hj:j=g
  ·subst hj
   rw [hg] at h6; injection h6 with h6; injection h6 with e1 e2 e3 e4
   subst e1; subst e2; subst e3; subst e4
   exact ⟨sz,es,.lent s.c,p,by rw [dc hgc,if_neg hjc,if_pos rfl],h7⟩
  ·exact ⟨sz3,es3,st3,p,by rw [dc hgc,if_neg hjc,if_neg hj]; exact h6,h7⟩
theorem uI {G:Gh} {s:St} {w w':World} (hS:Sim G s w) {g sz:Nat} {es xs:List (List AV)} {st:RSt} {par:Option Nat} {l':Loc} (hg:s.h g=some (.row sz es st par)) {k:Nat} {b:Body} {lk:Loc} (hk:s.h k=some b) (hlk:G.loc k=some lk)
  (hrow:∀ sz' es' st' par',b=.row sz' es' st' par'→RowOk (G.addLoc s.c l') w'.heap lk es') (hb:∀ (r:Nat) (o:Obj),w.heap[r]?=some o→(∀ C t f,o≠Obj.cells C t f)→w'.heap[r]?=some o) :
  lh (G.addLoc s.c l') (dw s g sz es xs par) w'.heap lk b:=by
 obtain ⟨l,hl,hok⟩:=hS.blk k b hk
 rw [hlk] at hl; injection hl with e; subst e
 have hgc:g≠s.c:=Nat.ne_of_lt (hS.hLt hg)
 have hle:G.Le (G.addLoc s.c l'):=Gh.le_addLoc hS.fresh
 cases b with
 | row sz' es' st' par'=>exact ⟨hok.1,hok.2.1,hrow _ _ _ _ rfl,hok.2.2.2⟩
 | map kv ver=>
  obtain ⟨h0,es0,clock,h1,h2⟩:=hok.1
  exact ⟨MapOk.keep hok.1 hle (by rw [hb _ _ h1 (by simp),h1]),Nat.lt_succ_of_lt hok.2⟩
 | iter m ver done=>
  obtain ⟨h0,hv,lm,since,last,seen,h1,h2,h3⟩:=hok
  refine ⟨h0,Nat.lt_succ_of_lt hv,lm,since,last,seen,hle.loc _ _ h1,hb _ _ h2 (by simp),fun kv hkv=>?_⟩
  have hmc:m≠s.c:=Nat.ne_of_lt (hS.dom _ _ h1)
  rw [dc hgc,if_neg hmc] at hkv
  split at hkv
  ·cases hkv
  ·obtain ⟨es0,clock,h4,h5⟩:=h3 kv hkv
   exact ⟨es0,clock,hb _ _ h4 (by simp),h5⟩
theorem wa {G:Gh} {s:St} {w:World} (hS:Sim G s w) {g sz:Nat} {es xs:List (List AV)} {st:RSt} {par:Option Nat} {l l':Loc} (hg:s.h g=some (.row sz es st par)) (hl:G.loc g=some l) (hlast:0<l.cap→pR G s g l.b)
  (hnew:0<l'.cap→(l'.b=l.b∧0<l.cap)∨w.heap.size≤l'.b) :
  ∀ i j bi bj li lj,i<j→(dw s g sz es xs par).h i=some bi→(dw s g sz es xs par).h j=some bj→(G.addLoc s.c l').loc i=some li→(G.addLoc s.c l').loc j=some lj→li.b=lj.b→0<li.cap→0<lj.cap →
   kr (G.addLoc s.c l') (dw s g sz es xs par) i j li:=by
 have hgc:g≠s.c:=Nat.ne_of_lt (hS.hLt hg)
 have hgc':=hS.hLt hg
 have hle:G.Le (G.addLoc s.c l'):=Gh.le_addLoc hS.fresh
 have hloc:∀ k lk,k≠s.c→(G.addLoc s.c l').loc k=some lk→G.loc k=some lk:=by
  intro k lk hk h
  have:(if k=s.c then some l' else G.loc k)=some lk:=h
  rwa [if_neg hk] at this
 intro i j bi bj li lj hij hi hj hli hlj he hci hcj
 rw [dc hgc] at hi hj
 by_cases hjc:j=s.c
 ·subst hjc
  have hic:i≠s.c:=Nat.ne_of_lt hij
  rw [if_neg hic] at hi
  have hli':=hloc i li hic hli
  have hlj':lj=l':=by
   have:(if s.c=s.c then some l' else G.loc s.c)=some lj:=hlj
   rw [if_pos rfl] at this; injection this with this; exact this.symm
  subst hlj'
  have hnewrow:(dw s g sz es xs par).h s.c=some (.row sz (es++xs) .live (some g)):=by rw [dc hgc,if_pos rfl]
  have hnewloc:(G.addLoc s.c lj).loc s.c=some lj:=ca _ _ _
  have hold:∃ bi',s.h i=some bi':=by
   split at hi
   ·rename_i e; subst e; exact ⟨_,hg⟩
   ·exact ⟨_,hi⟩
  obtain ⟨bi',hbi'⟩:=hold
  rcases hnew hcj with ⟨hb,hc0⟩ | hb
  ·by_cases hig:i=g
   ·subst hig
    have:li=l:=by rw [hl] at hli'; injection hli' with e; exact e.symm
    subst this
    exact ⟨sz,s.c,es,par,by rw [dc hgc,if_neg hic,if_pos rfl],Nat.le_refl _,⟨_,_,_,_,lj,hnewrow,hnewloc,hb,hcj⟩,_,_,_,i,hnewrow,by simp,rfl⟩
   ·rw [if_neg hig] at hi
    have hlt:i<g:=by
     rcases Nat.lt_or_gt_of_ne hig with h | h
     ·exact h
     ·exact absurd (he.trans hb) (hlast hc0 i bi li h hi hli' hci)
    have hL:=hS.ov i g bi _ li l hlt hi hg hli' hl (he.trans hb) hci hc0
    have hL':=oZ (xs:=xs) (l:=l) (l':=lj) hS hg hig hL hS.fresh
    obtain ⟨sz1,k,es1,par1,h1,h2,h3,sz3,es3,st3,p,h6,h7,h8⟩:=hL'
    rw [dc hgc,if_neg hgc,if_pos rfl] at h6
    injection h6 with h6; injection h6 with e1 e2 e3 e4
    subst e1; subst e2
    exact ⟨sz1,k,es1,par1,h1,by omega,h3,_,_,_,g,hnewrow,by simp; omega,h8⟩
  ·have:=hS.blkLt hbi' hli' hci
   omega
 ·have hic:i≠s.c:=by
   intro e
   have:j<s.c:=by
    rw [if_neg hjc] at hj
    split at hj
    ·rename_i e'; omega
    ·exact hS.hLt hj
   omega
  rw [if_neg hic] at hi
  rw [if_neg hjc] at hj
  have hli':=hloc i li hic hli
  have hlj':=hloc j lj hjc hlj
  by_cases hig:i=g
  ·subst hig
   have:li=l:=by rw [hl] at hli'; injection hli' with e; exact e.symm
   subst this
   have hjg:j≠i:=by omega
   rw [if_neg hjg] at hj
   exact absurd he.symm (hlast hci j bj lj hij hj hlj' hcj)
  ·rw [if_neg hig] at hi
   have hj0:∃ bj',s.h j=some bj':=by
    split at hj
    ·rename_i e; subst e; exact ⟨_,hg⟩
    ·exact ⟨_,hj⟩
   obtain ⟨bj',hbj'⟩:=hj0
   exact oZ (l:=l) hS hg hig (hS.ov i j bi bj' li lj hij hi hbj' hli' hlj' he hci hcj) hS.fresh
end Go.AM
namespace Go.AM
theorem mB {G:Gh} {s:St} {w w':World} (hS:Sim G s w) {g sz:Nat} {es xs:List (List AV)} {st:RSt} {par:Option Nat} {l l':Loc} (hg:s.h g=some (.row sz es st par)) (hl:G.loc g=some l) (hst:st≠.frz) (hlast:0<l.cap→pR G s g l.b)
  (hnew:0<l'.cap→(l'.b=l.b∧0<l.cap)∨w.heap.size≤l'.b) (hmem:∀ b o v,G.mem b o=some v→w'.cell? ⟨b,o,none⟩=some v) (hrowN:RowOk (G.addLoc s.c l') w'.heap l' (es++xs)) (hsz:l'.sz=sz) (hmemN:0<l'.cap→∀ k,G.mem l'.b k=none)
  (hrows:∀ k sz' es' st' par' lk,s.h k=some (.row sz' es' st' par')→G.loc k=some lk→RowOk (G.addLoc s.c l') w'.heap lk es') (hb:∀ (r:Nat) (o:Obj),w.heap[r]?=some o→(∀ C t f,o≠Obj.cells C t f)→w'.heap[r]?=some o) :
  Sim (G.addLoc s.c l') (dw s g sz es xs par) w':=by
 have hgc:g≠s.c:=Nat.ne_of_lt (hS.hLt hg)
 have hle:G.Le (G.addLoc s.c l'):=Gh.le_addLoc hS.fresh
 refine ⟨hmem,fun k lk hk=>?_,fun k b hk=>?_,wa hS hg hl hlast hnew⟩
 ·have:(if k=s.c then some l' else G.loc k)=some lk:=hk
  split at this
  ·rename_i e; subst e; exact Nat.lt_succ_self _
  ·exact Nat.lt_succ_of_lt (hS.dom k lk this)
 ·rw [dc hgc] at hk
  obtain ⟨lg,hlg,hok⟩:=hS.blk g _ hg
  split at hk
  ·rename_i e; subst e
   injection hk with hk; subst hk
   exact ⟨l',ca _ _ _,hsz,hok.2.1,hrowN,fun _ hc o=>hmemN hc o⟩
  ·split at hk
   ·rename_i e; subst e
    injection hk with hk; subst hk
    rw [hl] at hlg; injection hlg with e; subst e
    exact ⟨l,hle.loc _ _ hl,hok.1,hok.2.1,hrows _ _ _ _ _ _ hg hl,fun _ hc o=>hok.2.2.2 hst hc o⟩
   ·obtain ⟨lk,hlk,_⟩:=hS.blk k b hk
    exact ⟨lk,hle.loc _ _ hlk,uI hS hg hk hlk (fun sz' es' st' par' e=>by subst e; exact hrows _ _ _ _ _ _ hk hlk) hb⟩
theorem mA {G:Gh} {s:St} {w:World} (hS:Sim G s w) {g sz:Nat} {es xs:List (List AV)} {st:RSt} {par:Option Nat} {l l':Loc} (hg:s.h g=some (.row sz es st par)) (hl:G.loc g=some l) (hnew:0<l'.cap→(l'.b=l.b∧0<l.cap)∨w.heap.size≤l'.b) :
  ∀ b,b<w.heap.size→mR (G.addLoc s.c l') (dw s g sz es xs par) b→mR G s b:=by
 have hgc:g≠s.c:=Nat.ne_of_lt (hS.hLt hg)
 rintro b hb ⟨k,bk,lk,hk,hlk,he,hck⟩
 rw [dc hgc] at hk
 have hlk':(if k=s.c then some l' else G.loc k)=some lk:=hlk
 split at hk
 ·rename_i e
  rw [if_pos e] at hlk'; injection hlk' with hlk'; subst hlk'
  rcases hnew hck with ⟨h1,h2⟩ | h
  ·exact ⟨g,_,l,hg,hl,by rw [←h1]; exact he,h2⟩
  ·omega
 ·rename_i e
  rw [if_neg e] at hlk'
  split at hk
  ·rename_i e2; subst e2; exact ⟨k,_,lk,hg,hlk',he,hck⟩
  ·exact ⟨k,bk,lk,hk,hlk',he,hck⟩
theorem rQ {P:Program} {G:Gh} {s:St} {w:World} {t e:TypeId} {i:TypeInfo} {z:Value} (hu:P.underlying t=some (.slice e)) (hi:P.info? e=some i) (hz0:i.zero=some z) (hzs:z.cells.size=i.size) (hpos:0<i.size) (hby:0<i.bytes)
  {g:Nat} {es xs:List (List AV)} {st:RSt} {par:Option Nat} {l:Loc} {a xa:Option Addr} {xcap:Nat} {us:List Value} (hS:Sim G s w) (hg:s.h g=some (.row i.size es st par)) (hl:G.loc g=some l) (hst:st≠.frz) (hlast:0<l.cap→pR G s g l.b)
  (ha:0<l.cap→a=some ⟨l.b,0,none⟩) (hfx:Flat G i.size xs us) (hroom:(es.length+xs.length)*i.bytes≤140737488355328) (hmany:es.length+xs.length≤68719476736)
  (hsrc:∀ w',w'.heap=w.heap→(Builtin.firstCells i.size xs.length (.slice xa xs.length xcap)).run P w'=.ok us.toArray w') (ty:TypeId) :
  Out P (Builtin.append_ #[t,t] ty #[.slice a es.length l.cap,.slice xa xs.length xcap]) G s w (.row s.c i.size 0 (es.length+xs.length)) (dw s g i.size es xs par):=by
 obtain ⟨l0,hl0,hb1,hb2,hb3,hb4⟩:=hS.blk g _ hg
 rw [hl] at hl0; injection hl0 with e4; subst e4
 have hones:=hfx.mem_cell hpos
 have hlen:=hb3.1
 have hgc:g≠s.c:=Nat.ne_of_lt (hS.hLt hg)
 by_cases hfit:es.length+xs.length≤l.cap
 ·by_cases hcap:0<l.cap
  ·
   obtain ⟨C,ty',hC,hcs,hflat⟩:=hb3.flat hcap
   have ha':=ha hcap
   subst ha'
   have hul:us.length=xs.length*i.size:=hfx.1
   have hsize:(es.length+xs.length)*l.sz≤l.cap*l.sz:=Nat.mul_le_mul_right _ hfit
   have hfitC:0+es.length*i.size+us.length≤C.size:=by
    rw [hul,←hb1,Nat.zero_add,←Nat.add_mul]; omega
   have hrun:=mK (P:=P) hu hi hC (hsrc w rfl) hones (len:=es.length) (cap:=l.cap) hfit hfitC ty
   rw [Nat.zero_add] at hrun hfitC
   have hle:G.Le (G.addLoc s.c l):=Gh.le_addLoc hS.fresh
   have hset:=setRow_heap w l.b C (C.toList.take (es.length*i.size)++us++C.toList.drop (es.length*i.size+us.length)).toArray ty' _ hC
   have hnew:0<l.cap→(l.b=l.b∧0<l.cap)∨w.heap.size≤l.b:=fun _=>.inl ⟨rfl,hcap⟩
   have hlow:∀ k,k<es.length*i.size→(C.toList.take (es.length*i.size)++us++C.toList.drop (es.length*i.size+us.length)).toArray[k]?=C[k]?:=by
    intro k hk
    simp only [List.getElem?_toArray]
    rw [List.append_assoc,List.getElem?_append_left (by simp; omega),List.getElem?_take,if_pos hk]
    simp
   have hsim:Sim (G.addLoc s.c l) (dw s g i.size es xs par) (w.setRow l.b (C.toList.take (es.length*i.size)++us++C.toList.drop (es.length*i.size+us.length)).toArray):=by
    refine mB hS hg hl hst hlast hnew ?_ ?_ hb1 (fun hc=>hb4 hst hc) ?_ ?_
    ·intro b o v hm
     by_cases hb:b=l.b
     ·subst hb; rw [hb4 hst hcap o] at hm; cases hm
     ·rw [du (setRow_other w l.b b _ hb)]; exact hS.mem b o v hm
    ·have hfl:=hflat.append (by rw [hb1]; exact hfx:Flat G l.sz xs us)
     refine RowOk.ofFlat (e:=ty') hset (by simp; omega) (by simpa using hfit) (hfl.mono hle) ?_
     intro j v hj
     simp only [List.getElem?_toArray]
     rw [List.getElem?_append_left (by
      have:=(List.getElem?_eq_some_iff.1 hj).1
      rw [hb1] at this
      simpa using this)]
     rw [hb1] at hj
     exact hj
    ·intro k sz' es' st' par' lk hk hlk
     obtain ⟨lk',hlk',hk1,hk2,hk3,hk4⟩:=hS.blk k _ hk
     rw [hlk] at hlk'; injection hlk' with e5; subst e5
     by_cases hcase:0<lk.cap∧lk.b=l.b
     ·obtain ⟨hck,hbk⟩:=hcase
      have hbound:es'.length≤es.length∧lk.sz=i.size:=by
       by_cases hkg:k=g
       ·subst hkg
        rw [hg] at hk; injection hk with hk; injection hk with q1 q2
        subst q2
        rw [hl] at hlk; injection hlk with hlk; subst hlk
        exact ⟨Nat.le_refl _,hb1⟩
       ·have hlt:k<g:=by
         rcases Nat.lt_or_gt_of_ne hkg with h | h
         ·exact h
         ·exact absurd hbk (hlast hcap k _ lk h hk hlk hck)
        obtain ⟨sz1,k1,es1,par1,h1,h2,_,sz3,es3,st3,p,h6,h7,h8⟩:=hS.ov k g _ _ lk l hlt hk hg hlk hl hbk hck hcap
        rw [hk] at h1; injection h1 with h1; injection h1 with q1 q2
        rw [hg] at h6; injection h6 with h6; injection h6 with r1 r2
        subst q1; subst q2; subst r2
        exact ⟨h7,by rw [hk1,h8,r1]⟩
      obtain ⟨hs1,hs2⟩:=hk3
      refine ⟨hs1,fun _=>?_⟩
      obtain ⟨C1,t1,h1,h2,h3⟩:=hs2 hck
      rw [hbk,hC] at h1; injection h1 with h1; injection h1 with h1 h1'
      subst h1
      refine ⟨_,ty',by rw [hbk]; exact hset,by simp; omega,fun n x hx=>⟨(h3 n x hx).1,fun m av hm=>?_⟩⟩
      obtain ⟨q1,v,q2,q3⟩:=(h3 n x hx).2 m av hm
      refine ⟨q1,v,?_,q3.mono hle⟩
      have hn:n<es'.length:=(List.getElem?_eq_some_iff.1 hx).1
      have hm':m<x.length:=(List.getElem?_eq_some_iff.1 hm).1
      have hx1:=(h3 n x hx).1
      rw [hlow]
      ·exact q2
      ·have:(n+1)*lk.sz≤es.length*lk.sz:=Nat.mul_le_mul_right _ (by omega)
       rw [Nat.add_mul,Nat.one_mul] at this
       rw [←hbound.2]; omega
     ·refine hk3.keep hle fun hc=>?_
      exact setRow_other w l.b lk.b _ fun e=>hcase ⟨hc,e⟩
    ·intro r o ho hne
     rw [setRow_other w l.b r _ (by rintro rfl; rw [hC] at ho; injection ho with ho; exact hne _ _ _ ho.symm)]
     exact ho
   refine ⟨_,_,G.addLoc s.c l,hrun,⟨hle,Nat.le_succ _,rfl,rfl,rfl,by simp,fun b hb ho=>?_,mA hS hg hl hnew⟩,hsim,?_⟩
   ·by_cases e5:b=l.b
    ·exact absurd ⟨g,_,l,hg,hl,e5.symm,hcap⟩ ho
    ·exact setRow_other w l.b b _ e5
   ·have:=Rep.row (G:=G.addLoc s.c l) s.c 0 (es.length+xs.length) l (some ⟨l.b,0,none⟩) (ca _ _ _) (by simpa using hfit) (by simp) hmany
    rw [hb1] at this
    simpa using this
  ·
   have h0:l.cap=0:=by omega
   have he0:es=[]:=List.length_eq_zero_iff.1 (by omega)
   have hx0:xs=[]:=List.length_eq_zero_iff.1 (by omega)
   subst he0; subst hx0
   have hu0:us=[]:=by have:=hfx.1; simpa using this
   subst hu0
   have hle:G.Le (G.addLoc s.c ⟨0,0,i.size⟩):=Gh.le_addLoc hS.fresh
   have hnew:0<(⟨0,0,i.size⟩:Loc).cap→((⟨0,0,i.size⟩:Loc).b=l.b∧0<l.cap)∨w.heap.size≤(⟨0,0,i.size⟩:Loc).b:=fun h=>absurd h (Nat.lt_irrefl _)
   have hsim:Sim (G.addLoc s.c ⟨0,0,i.size⟩) (dw s g i.size [] [] par) w:=by
    refine mB hS hg hl hst hlast hnew hS.mem ⟨by simp,fun h=>absurd h (Nat.lt_irrefl _)⟩ rfl (fun h=>absurd h (Nat.lt_irrefl _)) ?_ (fun r o ho _=>ho)
    intro k sz' es' st' par' lk hk hlk
    obtain ⟨lk',hlk',hk1,hk2,hk3,hk4⟩:=hS.blk k _ hk
    rw [hlk] at hlk'; injection hlk' with e5; subst e5
    exact hk3.keep hle fun _=>rfl
   refine ⟨.slice a 0 0,w,_,?_,⟨hle,Nat.le_succ _,rfl,rfl,rfl,Nat.le_refl _,fun _ _ _=>rfl,mA hS hg hl hnew⟩,hsim,?_⟩
   ·have:=eU (P:=P) (w:=w) (a:=a) (len:=0) (cap:=0) hu hi (hsrc w rfl) (Nat.le_refl _) ty
    simpa [h0] using this
   ·have:=Rep.row (G:=G.addLoc s.c ⟨0,0,i.size⟩) s.c 0 0 ⟨0,0,i.size⟩ a (ca _ _ _) (Nat.le_refl _) (fun h=>absurd h (Nat.lt_irrefl _)) (Nat.zero_le _)
    simpa using this
 ·
  have hshow':s.show_ (.row g l.sz 0 es.length)=some es:=by simp [St.show_,hg]
  have hesok:es.all (aA l.sz)=true:=by
   rw [List.all_eq_true]
   intro y hy
   obtain ⟨k,hk⟩:=List.mem_iff_getElem?.1 hy
   by_cases hcap:0<l.cap
   ·obtain ⟨C,ty',hC,hcs,hflat⟩:=hb3.flat hcap
    exact (hflat.elem hk).1
   ·have:k<es.length:=(List.getElem?_eq_some_iff.1 hk).1
    omega
  have hrow:Rep G (.row g l.sz 0 es.length) (.slice a es.length (l.cap-0)):=.row g 0 es.length l a hl (by simpa using hlen) (by intro h; simpa using ha h) (by omega)
  obtain ⟨da,dcap,vs,hdv,hdcap,hfd,hdl⟩:=dV hS hshow' hrow hesok (by rintro g z o l ⟨rfl⟩; rfl)
  injection hdv with q1 q2 q3
  subst q1; subst q3
  have hold:∀ w',w'.heap=w.heap→(Builtin.firstCells i.size es.length (.slice a es.length (l.cap-0))).run P w'=.ok vs.toArray w':=by
   intro w' hw
   rw [←hb1]
   refine fg hfd fun hne=>?_
   obtain ⟨b,o,h1,h2⟩:=hdl hne
   exact ⟨b,o,h1,fun j v hj=>by rw [du (w:=w) (by rw [hw])]; exact h2 j v hj⟩
  obtain ⟨C,ncap,hrun,hnc,hC⟩:=mJ (P:=P) (w:=w) hu hi hz0 hold hsrc (by omega) hroom (qw hby hroom) ty
  obtain ⟨h1,h2⟩:=mC (e:=e) hS hpos hzs hnc (by rw [←hb1]; exact hfd) hfx hC
  have hle:G.Le (G.addLoc s.c ⟨w.heap.size,ncap,i.size⟩):=Gh.le_addLoc hS.fresh
  have hold':∀ b,b<w.heap.size→(w.drew.alloc (.cells C e)).heap[b]?=w.heap[b]?:=fun b hb=>heap_alloc_old w.drew _ b hb
  have hnew:0<(⟨w.heap.size,ncap,i.size⟩:Loc).cap→((⟨w.heap.size,ncap,i.size⟩:Loc).b=l.b∧0<l.cap)∨w.heap.size≤(⟨w.heap.size,ncap,i.size⟩:Loc).b:=fun _=>.inr (Nat.le_refl _)
  obtain ⟨ln,hln,hn1,hn2,hn3,hn4⟩:=h1.blk s.c (.row i.size (es++xs) .live none) (by simp [newRow,upd])
  have hlnn:ln=⟨w.heap.size,ncap,i.size⟩:=by
   rw [ca] at hln; injection hln with hln; exact hln.symm
  subst hlnn
  have hsim:Sim (G.addLoc s.c ⟨w.heap.size,ncap,i.size⟩) (dw s g i.size es xs par) (w.drew.alloc (.cells C e)):=by
   refine mB hS hg hl hst hlast hnew h1.mem hn3 rfl (fun hc=>hn4 (by simp) hc) ?_ (fun r o ho _=>(hold' r (cK ho)).trans ho)
   intro k sz' es' st' par' lk hk hlk
   obtain ⟨lk',hlk',hk1,hk2,hk3,hk4⟩:=hS.blk k _ hk
   rw [hlk] at hlk'; injection hlk' with e5; subst e5
   exact hk3.keep hle fun hc=>hold' _ (hS.blkLt hk hlk hc)
  refine ⟨_,_,_,by simpa using hrun,⟨hle,Nat.le_succ _,h2.os,h2.tape,h2.output,h2.size,fun b hb _=>hold' b hb,mA hS hg hl hnew⟩,hsim,eI hS hnc hmany⟩
theorem tn {G:Gh} {s:St} {w:World} (hS:Sim G s w) {g sz:Nat} {es:List (List AV)} {par:Option Nat} {l:Loc} (hg:s.h g=some (.row sz es .live par)) (hl:G.loc g=some l) (hc:0<l.cap):pR G s g l.b:=by
 intro j bj lj hj h1 h2 h3 he
 obtain ⟨_,_,_,_,h6,_⟩:=hS.ov g j _ bj l lj hj hg h1 hl h2 he.symm hc h3
 rw [hg] at h6; injection h6 with h6; injection h6 with _ _ h6; cases h6
theorem s6 {G:Gh} {s:St} {w:World} (hS:Sim G s w) {g k sz:Nat} {es:List (List AV)} {par:Option Nat} {l:Loc} (hg:s.h g=some (.row sz es (.lent k) par)) (hl:G.loc g=some l) (hgone:s.h.gone k=true) :
  k≠g∧Sim G { s with h:=upd s.h k none } w∧Stp G s w G { s with h:=upd s.h k none } w∧(0<l.cap→pR G { s with h:=upd s.h k none } g l.b):=by
 have hkg:k≠g:=by
  rintro rfl
  simp [Heap.gone,hg] at hgone
 have hno:∀ i j bi bj li lj,i<j→s.h i=some bi→s.h j=some bj→j≠k→G.loc i=some li→G.loc j=some lj→li.b=lj.b→0<li.cap→0<lj.cap→∀ sz es par,s.h i=some (.row sz es (.lent k) par)→False:=by
  intro i j bi bj li lj hij hi hj hjk hli hlj he hci hcj sz1 es1 par1 hi1
  obtain ⟨sz2,k2,es2,par2,h1,h2,⟨sz3,es3,st3,par3,lk,h3,h4,h5,h5c⟩,_⟩:=hS.ov i j bi bj li lj hij hi hj hli hlj he hci hcj
  rw [hi1] at h1; injection h1 with h1; injection h1 with _ _ h1; injection h1 with h1; subst h1
  have hlt:k<j:=by omega
  obtain ⟨sz4,k4,es4,par4,h6,h7,⟨sz5,es5,st5,par5,lk5,h8,_⟩,_⟩:=hS.ov k j _ bj lk lj hlt h3 hj h4 hlj (h5.trans he) h5c hcj
  rw [h3] at h6; injection h6 with h6; injection h6 with _ _ h6; subst h6
  simp [Heap.gone,h3,h8] at hgone
 have hh:∀ i b,upd s.h k none i=some b→i≠k∧s.h i=some b:=by
  intro i b hi
  unfold upd at hi
  split at hi
  ·cases hi
  ·rename_i h; exact ⟨h,hi⟩
 refine ⟨hkg,?_,Stp.sub (Nat.le_refl _) fun i b hi=>(hh i b hi).2,?_⟩
 ·refine hS.sub (Nat.le_refl _) (fun i b hi=>(hh i b hi).2) ?_
  intro i j bi bj li lj hij hi hj hli hlj he hci hcj sz1 k1 es1 par1 h1 h2 b hb
  show upd s.h k none k1=some b
  unfold upd
  rw [if_neg]
  ·exact hb
  ·rintro rfl
   exact hno i j bi bj li lj hij (hh i _ hi).2 (hh j _ hj).2 (hh j _ hj).1 hli hlj he hci hcj sz1 es1 par1 h1
 ·intro hc j bj lj hj h1 h2 h3 he
  exact hno g j _ bj l lj hj hg (hh j _ h1).2 (hh j _ h1).1 hl h2 he.symm hc h3 sz es par hg
theorem sH {P:Program} {G:Gh} {s s':St} {w:World} {t e:TypeId} {i:TypeInfo} (ht:nT P t=some (e,i)) {d x av:AV} {dv xv:Value} (h:apI i.size i.bytes .fork d x s=some (av,s'))
  (hd:Rep G d dv) (hx:Rep G x xv) (hS:Sim G s w) (ty:TypeId):Out P (Builtin.append_ #[t,t] ty #[dv,xv]) G s w av s':=by
 by_cases hf:∃ g sz off sz' es st par,d=.row g sz off es.length∧s.h g=some (.row sz' es st par)
 ·obtain ⟨g,sz1,off,sz2,es,st,par,rfl,hg⟩:=hf
  have ht0:=ht
  unfold nT at ht
  split at ht
  case h_2=>cases ht
  case h_1 e0 i0 hte=>
  split at ht
  case h_2=>cases ht
  case h_1 zs i1 htz=>
  split at ht
  case isFalse=>cases ht
  case isTrue hok=>
  injection ht with ht; injection ht with h1 h2; subst h1; subst h2
  obtain ⟨hu,hi⟩:=de hte
  obtain ⟨hi',z,hz0,rfl⟩:=dF htz
  rw [hi] at hi'; injection hi' with hi'; subst hi'
  obtain ⟨_,hzs⟩:=fZ (G:=G) hok
  unfold apI at h
  split at h
  case h_1=>cases h
  case h_2 xs hshow=>
  split at h
  case isFalse=>cases h
  case isTrue hc=>
  obtain ⟨hsz,hby,hall,hsrcsz⟩:=hc
  obtain ⟨xa,xcap,us,rfl,hxcap,hfx,hxl⟩:=dV hS hshow hx hall (by
   rintro g z o l rfl
   simpa [dW] using hsrcsz)
  have hsrc:∀ w',w'.heap=w.heap→(Builtin.firstCells i0.size xs.length (.slice xa xs.length xcap)).run P w'=.ok us.toArray w':=by
   intro w' hw
   refine fg hfx fun hne=>?_
   obtain ⟨b,o,h1,h2⟩:=hxl hne
   exact ⟨b,o,h1,fun j v hj=>by rw [du (w:=w) (by rw [hw])]; exact h2 j v hj⟩
  simp only [hg] at h
  split at h
  ·rename_i hcond
   obtain ⟨e1,e2,e3,hmany,hbyt⟩:=hcond
   have hroom:=oB hmany hbyt
   subst e3
   simp only [if_true] at h
   cases hd with
   | row _ _ _ l a hl hlc ha=>
    have ha0:0<l.cap→a=some ⟨l.b,0,none⟩:=fun hc=>by simpa using ha hc
    rw [←e2] at hg
    unfold pC at h
    cases st with
    | live=>
     simp only at h
     injection h with h; injection h with h1 h2; subst h1; subst h2
     exact rQ hu hi hz0 hzs hsz hby hS hg hl (by simp) (tn hS hg hl) ha0 hfx hroom hmany hsrc ty
    | frz=>cases h
    | lent k=>
     simp only at h
     split at h
     ·rename_i hgone
      injection h with h; injection h with h1 h2; subst h1; subst h2
      obtain ⟨hkg,hS1,hT1,hlast⟩:=s6 hS hg hl hgone
      have hg1:({ s with h:=upd s.h k none }:St).h g=some (.row i0.size es (.lent k) par):=by
       show upd s.h k none g=_
       unfold upd; rw [if_neg (Ne.symm hkg)]; exact hg
      obtain ⟨v,w',G',q1,q2,q3,q4⟩:=rQ hu hi hz0 hzs hsz hby hS1 hg1 hl (by simp) hlast ha0 hfx hroom hmany hsrc ty
      exact ⟨v,w',G',q1,hT1.trans q2,q3,q4⟩
     ·cases h
  ·cases h
 ·have hsame:apI i.size i.bytes .plain d x s=some (av,s'):=by
   rw [←h]
   unfold apI
   cases hsh:s.show_ x with
   | none=>rfl
   | some xs=>
    simp only
    cases d with
    | row g sz off len=>
     simp only
     cases hg:s.h g with
     | none=>rfl
     | some b=>
      cases b with
      | row sz' es st par=>
       simp only
       have hne:¬len=es.length:=fun e=>hf ⟨g,sz,off,sz',es,st,par,by rw [e],hg⟩
       simp only [if_neg hne]
      | _=>rfl
    | _=>rfl
  exact vp ht (by simp) hsame hd hx hS ty
end Go.AM
