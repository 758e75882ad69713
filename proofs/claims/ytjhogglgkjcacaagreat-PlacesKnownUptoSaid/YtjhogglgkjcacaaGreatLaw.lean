/- wblaw2.PlacesKnown returns true for every list of numbers, where what it reads is of bulk at most 1048576; the list reads afterwards as it did. -/
import Derived.Test.YtjhogglgkjcacaaGreatMc2
import Derived.Test.YtjhogglgkjcacaaGreatMc1
import Derived.Test.YtjhogglgkjcacaaGreatMc0
import Derived.Test.YtjhogglgkjcacaaGreatRows
import Derived.WalkKit
import Derived.ProofKit
import Derived.OpenShut
import Derived.JoinedCond
set_option linter.all false
set_option maxRecDepth 20000
set_option maxHeartbeats 4000000
namespace Go.Proofs.YtjhogglgkjcacaaGreat
open Go.AM Go.Wb
theorem oE {β:Type} {key:β→ByteArray} {l:List β} {i:Nat} {x:β} (hnd:∀ (j:Nat) (y:β),l[j]?=some y→j<i→key y≠key x) (hi:i<l.length) (hx:l[i]=x) :
  dC ((l.take i).map fun a=>(key a,a)) (key x) x=(l.take (i+1)).map fun a=>(key a,a):=by
 rw [oD,List.take_add_one,List.getElem?_eq_getElem hi,hx,List.map_append]
 ·rfl
 ·intro q hq
  obtain ⟨a,ha,rfl⟩:=List.mem_map.1 hq
  obtain ⟨j,hj,hja⟩:=List.mem_iff_getElem.1 ha
  simp at hj hja
  exact hnd j a (by rw [List.getElem?_eq_getElem (by omega),hja]) (by omega)
theorem tz (p:Wb.Prog) (hp:Right p) (hok:∀ x∈(aE p).2.l,x.ok p.arrays=true) (hmany:cF p.arrays (aE p).2.l≤200000) (hin:∀ a∈eW p.arrays 0 (aE p).2.l,iz p.arrays a.2.2) (P:List Pl) (hP:PlOk p.arrays P) (stm which vals rnd acc frm:AV) (go:Nat) (h0:Heap) (c0:Nat) (hr:RanAt h0 c0 go p stm which vals rnd acc frm) :
  ACalls Pg Fn149.n [p.av,.ptr go 0 0,row (P.map Pl.cells)] ⟨h0,c0⟩ fun av s'=>∃ g,av=.row g 1 0 (fi p P).length∧c0≤g∧g<s'.c∧s'.h g=some (.row 1 (ak (fi p P)) .live none)∧Fr c0 h0 s'.h s'.c:=by
 refine ACalls.small fun hs=>?_
 have hAlen:p.arrays.length≤68719476736:=by simp [Prog.av] at hs; omega
 have hPlen:P.length≤68719476736:=by simp [Prog.av] at hs; omega
 refine Fn149.calls .keep ?_
 unfold Fn149.ac
 obtain ⟨hb,hhb⟩:∃ hb,hb=upd (upd (upd h0 c0 (some (.row 2 [[row (p.arrays.map Array.cells),row (p.steps.map Step.cells)]] .live none))) (c0+1) (some (.map [] (c0+1)))) (c0+1+1) (some (.map [] (c0+1+1))):=⟨_,rfl⟩
 have hFb:Fr c0 h0 hb (c0+1+1+1):=by rw [hhb]; exact (((Fr.refl _ _).upd (Nat.le_refl _) (Nat.le_succ _)).upd (by omega) (Nat.le_succ _)).upd (by omega) (Nat.le_succ _)
 have bx:hb c0=_:=(congrFun hhb c0).trans (by rw [ad (by omega),ad (by omega),ah])
 have bm1:hb (c0+1)=_:=(congrFun hhb (c0+1)).trans (by rw [ad (by omega),ah])
 have bm2:hb (c0+1+1)=_:=(congrFun hhb (c0+1+1)).trans ah
 simp [Prog.av,←hhb]
 obtain ⟨Inv,hInv⟩:∃ Inv:Nat→List Pl→Slots→St→Prop,Inv=fun i r sl s'=>(∃ ver,s'.h (c0+1)=some (.map (kvs AV.str (fun x:Pl=>AV.agg (Pl.cells x)) ((P.take i).map fun x=>(x.key,x))) ver))∧(∀ k,k<c0+1+1+1→k≠c0+1→s'.h k=hb k)∧c0+1+1+1≤s'.c:=⟨_,rfl⟩
 refine bq 21 Fn149.W0 P Inv (by rfl) (by rfl) ?_ ?_ ?_
 ·rw [hInv]; exact ⟨by simp,⟨c0+1,bm1⟩,fun _ _ _=>rfl,Nat.le_refl _⟩
 ·intro v s' hv hI
  rw [hInv] at hI
  obtain ⟨⟨ver,m1⟩,m2,m3⟩:=hI
  obtain ⟨h,c⟩:=s'
  simp only at m1 m2 m3
  rw [List.take_length] at m1
  have bx2:=(m2 c0 (by omega) (by omega)).trans bx
  simp [hv,bx2]
  obtain ⟨Inv1,hInv1⟩:∃ Inv:Nat→List Wb.Array→Slots→St→Prop,Inv=fun i r sl s'=>(∃ ver,s'.h (c0+1+1)=some (.map (kvs AV.str (fun x:Wb.Array=>AV.agg (Array.cells x)) ((p.arrays.take i).map fun x=>(x.key,x))) ver))∧(∀ k,k<c→k≠c0+1+1→s'.h k=h k)∧c≤s'.c:=⟨_,rfl⟩
  refine bq 33 Fn149.W1 p.arrays Inv1 (by rfl) (by rfl) ?_ ?_ ?_
  ·rw [hInv1]; exact ⟨by simp,⟨c0+1+1,(m2 _ (by omega) (by omega)).trans bm2⟩,fun _ _ _=>rfl,Nat.le_refl _⟩
  ·intro v1 s1 hv1 hI1
   rw [hInv1] at hI1
   obtain ⟨⟨ver1,n1⟩,n2,n3⟩:=hI1
   obtain ⟨h1,c1⟩:=s1
   simp only at n1 n2 n3
   rw [List.take_length] at n1
   have n1':=(n2 (c0+1) (by omega) (by omega)).trans m1
   obtain ⟨T,hT⟩:∃ T,T=eW p.arrays 0 (aE p).2.l:=⟨_,rfl⟩
   have hacc:=hr.hacc
   rw [kA,←hT] at hacc
   have ell:(T.map Acc.cells).length=T.length:=by simp
   have hlen:=fun s=>hacc.len s
   rw [ell] at hlen
   have hTl:(T.length:Int)≤200000:=by
    have:=mr p.arrays 0 (aE p).2.l
    rw [kA,←hT,ell] at this
    omega
   unfold fi
   rw [←hT] at hin ⊢
   have hlow:∀ k,k<c0→h1 k=h0 k:=fun k hk=>(n2 k (by omega) (by omega)).trans ((m2 k (by omega) (by omega)).trans (hFb.h k hk))
   have hgo:=hr.plo.goc
   obtain ⟨h2,hh2⟩:∃ h2,h2=upd h1 c1 (some (.row 1 [] .live none)):=⟨_,rfl⟩
   have low2:∀ k,k<c1→h2 k=h1 k:=fun k hk=>by rw [hh2,ad (by omega)]
   have r13:h2 c1=_:=(congrFun hh2 c1).trans ah
   have ob:=(low2 go (by omega)).trans ((hlow go hgo).trans hr.obj)
   simp [hv1]
   rw [←hh2]
   simp [ob,hlen]
   obtain ⟨Inv2,hInv2⟩:∃ Inv:Nat→List Acc→Slots→St→Prop,Inv=fun i r sl s'=>∃ g,sl 13=.row g 1 0 i∧c1≤g∧g<s'.c∧s'.h g=some (.row 1 (ak ((T.take i).map fun a=>eK p.arrays P a.2.2)) .live none)∧∀ k,k<c1→s'.h k=h1 k:=⟨_,rfl⟩
   refine bq 47 Fn149.W2 T Inv2 (by rfl) (by rfl) ?_ ?_ ?_
   ·rw [hInv2]; exact ⟨by simp,c1,by simp,Nat.le_refl _,Nat.lt_succ_self _,by simpa [ak] using r13,low2⟩
   ·intro v3 s3 hv3 hI3
    rw [hInv2,List.take_length] at hI3
    obtain ⟨g,q13,i1,i2,i3,i4⟩:=hI3
    obtain ⟨h3,c3⟩:=s3
    simp at q13
    simp only at i2 i3 i4
    simp [hv3,q13]
    exact ⟨by omega,i2,i3,⟨by show c0≤c3; omega,fun k hk=>(i4 k (by omega)).trans (hlow k hk)⟩⟩
   ·intro i y ys v3 s3 hi hy hl2 hv3 hI3
    rw [hInv2] at hI3
    obtain ⟨g,q13,i1,i2,i3,i4⟩:=hI3
    obtain ⟨h3,c3⟩:=s3
    simp at q13
    simp only at i2 i3 i4
    have hw:=ae (x:=(i:Int)+1) (by omega) (by omega)
    obtain ⟨ga,a1,a2⟩:=hacc.at (i:=i) (by rw [ell]; exact hi)
    rw [ell] at a1
    have lga:=hr.ab ga (by rw [a1]; exact au.2 rfl)
    have a2':=(i4 ga (by omega)).trans ((hlow ga lga).trans a2)
    have hys:=hin y (aR hl2)
    obtain ⟨ia,jp,a,pl,e1,e2,e3,e4,e5,e6,ha,e7,e8,e9,e10,e11⟩:=rB hp.arrays hP hys
    obtain ⟨k,w,⟨key,n⟩⟩:=y
    simp only at e1 e2 e3 e5 e7 e8 e11
    obtain ⟨h4,hh4⟩:∃ h4,h4=upd h3 c3 (some (.row 4 [[.int k,.bool w,.str key,.int n]] .live none)):=⟨_,rfl⟩
    have low4:∀ k,k<c1→h4 k=h1 k:=fun k hk=>by rw [hh4,ad (by omega)]; exact i4 k hk
    have b4:h4 c3=_:=(congrFun hh4 c3).trans ah
    have g4:h4 g=_:=(congrFun hh4 g).trans ((ad (by omega)).trans i3)
    have hlk1:=fun c'=>jw ew (f:=fun x:Pl=>AV.agg (Pl.cells x)) (z:=.agg [.str ⟨#[]⟩,.int 0,.bool false]) (ok:=false) (s:=⟨h4,c'⟩) ((low4 (c0+1) (by omega)).trans n1') key
    have hlk2:=fun c'=>jw ew (f:=fun x:Wb.Array=>AV.agg (Array.cells x)) (z:=.agg [.str ⟨#[]⟩,.nil]) (ok:=false) (s:=⟨h4,c'⟩) ((low4 (c0+1+1) (by omega)).trans n1) key
    have f1:bS (P.map fun x=>(x.key,x)) key=some pl:=(kP _ _ _).trans e2
    have f2:bS (p.arrays.map fun x=>(x.key,x)) key=some a:=by
     rw [kP]; unfold rF at e1
     rw [←e1]; congr 1; funext z; simp [eq_comm]
    rw [f1] at hlk1
    rw [f2] at hlk2
    simp only [Pl.cells,Array.cells] at hlk1 hlk2
    simp [hv3,hi,a1,a2',hy,Acc.cells,bE]
    rw [←hh4]
    simp [b4,hlk1]
    have ts:T.take (i+1)=T.take i++[(k,w,⟨key,n⟩)]:=by rw [List.take_add_one,List.getElem?_eq_getElem hi,hy]; rfl
    obtain ⟨hz1,hz2⟩:=ha.rev
    have htb:=fh hz1 e7
    have hap:=fun (z:Int) c'=>bV (sz:=1) (bytes:=8) (md:=.plain) (x:=[AV.int z]) (b:=true) (s:=⟨h4,c'⟩) (len:=i) (by simp) g4 (by simp [ak]; omega) (by decide) (by decide) (by decide) rfl (by omega)
    have fin:∀ (z:Int) (c':Nat) (sl':Slots),eK p.arrays P ⟨key,n⟩=z→c3+1≤c'→sl' 13=.row c' 1 0 (i+1)→Inv2 (i+1) ys sl' ⟨upd (upd h4 g none) c' (some (.row 1 (ak ((T.map fun a=>eK p.arrays P a.2.2).take i)++[[.int z]]) .live none)),c'+1⟩:=by
     intro z c' sl' q1 q2 q3
     rw [hInv2]
     refine ⟨c',q3,by omega,by show c'<c'+1; omega,?_,fun k' hk'=>?_⟩
     ·show upd _ _ _ _=_
      rw [ah,ts,←q1]; simp [ak]
     ·show upd _ _ _ _=_
      rw [ad (by omega),ad (by omega)]; exact low4 k' hk'
    cases htu:pl.turned
    ·have hadr:eK p.arrays P ⟨key,n⟩=pl.start+n:=by rw [e11]; simp [gZ,htu]
     have hwa:=ae (x:=pl.start+n) (by omega) (by omega)
     simp [b4,hlk1,hlk2,hwa,bsI,aw,hap,q13,hv3,hw]
     refine fin _ (c3+1) _ hadr (Nat.le_refl _) ?_
     simp
    ·have hadr:eK p.arrays P ⟨key,n⟩=pl.start+dw a.sizes.reverse n:=by rw [e11]; simp [gZ,htu]
     have hwa:=ae (x:=pl.start+dw a.sizes.reverse n) (by omega) (by omega)
     have hce:=tS a ha n e7 e8
     simp only [Array.cells] at hce
     simp [b4,hlk1,hlk2]
     refine ACalls.pure hce fun c4 hc4=>?_
     simp [b4,hlk1,hlk2,hwa,bsI,aw,hap,q13,hv3,hw]
     refine fin _ c4 _ hadr (by omega) ?_
     simp
  ·intro i x xs v1 s1 hi hx hl hv1 hI1
   rw [hInv1] at hI1
   obtain ⟨⟨ver1,n1⟩,n2,n3⟩:=hI1
   obtain ⟨h1,c1⟩:=s1
   simp only at n1 n2 n3
   have hw:=ae (x:=(i:Int)+1) (by omega) (by omega)
   have hmu:=jx ew (f:=fun a:Wb.Array=>AV.agg (Array.cells a)) (g:=c0+1+1) (s:=⟨upd h1 c1 (some (.row 2 [[.str x.key,row (ak x.sizes)]] .live none)),c1+1⟩) ((ad (by omega)).trans n1) x.key x
   rw [oE (fun j y hj hji=>hp.apart i j x y (by rw [List.getElem?_eq_getElem hi,hx]) hj hji) hi hx] at hmu
   simp only [Array.cells] at hmu
   simp [hv1,hi,hx,Array.cells,hmu,hw]
   rw [hInv1]
   refine ⟨⟨c1+1,by show upd _ _ _ _=_; rw [ah,List.map_take]; rfl⟩,fun k hk hk2=>?_,by show _≤c1+1+1; omega⟩
   show upd (upd h1 c1 _) (c0+1+1) _ k=_
   rw [ad hk2,ad (by omega)]; exact n2 k hk hk2
 ·intro i x xs v s' hi hx hl hv hI
  rw [hInv] at hI
  obtain ⟨⟨ver,m1⟩,m2,m3⟩:=hI
  obtain ⟨h,c⟩:=s'
  simp only at m1 m2 m3
  have hw:=ae (x:=(i:Int)+1) (by omega) (by omega)
  have hmu:=jx ew (f:=fun a:Pl=>AV.agg (Pl.cells a)) (g:=c0+1) (s:=⟨upd h c (some (.row 3 [[.str x.key,.int x.start,.bool x.turned]] .live none)),c+1⟩) ((ad (by omega)).trans m1) x.key x
  rw [oE (fun j y hj hji=>by
   have hj':=(List.getElem?_eq_some_iff.1 hj)
   have:=List.pairwise_iff_getElem.1 hP.nd j i hj'.1 hi hji
   rw [hj'.2,hx] at this; exact this) hi hx] at hmu
  simp only [Pl.cells] at hmu
  simp [hv,hi,hx,Pl.cells,hmu,hw]
  rw [hInv]
  refine ⟨⟨c+1,by show upd _ _ _ _=_; rw [ah,List.map_take]; rfl⟩,fun k hk hk2=>?_,by show _≤c+1+1; omega⟩
  show upd (upd h c _) (c0+1) _ k=_
  rw [ad hk2,ad (by omega)]; exact m2 k hk hk2
end Go.Proofs.YtjhogglgkjcacaaGreat
set_option maxRecDepth 20000
set_option maxHeartbeats 4000000
namespace Go.Proofs.YtjhogglgkjcacaaGreat
open Go.AM Go.Wb
theorem pG {A:List Wb.Array}:∀ (k:Nat) (l:List Inst) (a:Acc),a∈eW A k l→∃ x∈l,a.2.2∈x.reads A∨a.2.2=x.sets A
 | k,[],a,h=>by simp [eW] at h
 | k,x::xs,a,h=>by
  simp only [eW,List.mem_append,List.mem_map,List.mem_cons] at h
  rcases h with ⟨s,hs,rfl⟩ | rfl | h
  ·exact ⟨x,List.mem_cons_self,.inl hs⟩
  ·exact ⟨x,List.mem_cons_self,.inr rfl⟩
  ·obtain ⟨y,hy,h'⟩:=pG (k+1) xs a h
   exact ⟨y,List.mem_cons_of_mem _ hy,h'⟩
theorem qZ {p:Wb.Prog} (h:bv p=0):∀ a∈eW p.arrays 0 (aE p).2.l,iz p.arrays a.2.2:=by
 obtain ⟨h1,h2,h3,h4⟩:=ek h
 intro a ha
 obtain ⟨x,hx,hx'⟩:=pG _ _ _ ha
 obtain ⟨i1,i2⟩:=Inst.ok_in (dO h1).arrays (gH (dO h1) x hx) (h3 x hx)
 rcases hx' with e | e
 ·exact i1 _ e
 ·rw [e]; exact i2
theorem fM (p:Wb.Prog) (hcnt:az p.steps≤300) (h0:Heap) (c0:Nat):ACalls Pg Fn59.n [p.av] ⟨h0,c0⟩ fun av s'=>Fr c0 h0 s'.h s'.c∧if bv p=0 then ∃ go stm which vals rnd acc frm,av=.tup [.ptr go 0 0,.int 0]∧RanAt s'.h s'.c go p stm which vals rnd acc frm∧∀ k,an acc k→c0≤k else av=.tup [.nilp,.int (bv p)]:=by
 have hck:=vO p (by omega)
 simp only [Prog.av] at hck
 refine Fn59.calls .keep ?_
 unfold Fn59.ac
 obtain ⟨hb,hhb⟩:∃ hb,hb=upd h0 c0 (some (.row 2 [[row (p.arrays.map Array.cells),row (p.steps.map Step.cells)]] .live none)):=⟨_,rfl⟩
 have hF0:Fr c0 h0 hb (c0+1):=by rw [hhb]; exact (Fr.refl _ _).upd (Nat.le_refl _) (Nat.le_succ _)
 have hbx:=(congrFun hhb c0).trans ah
 rw [oX]
 simp [Prog.av,←hhb,hbx]
 refine ACalls.pure hck fun c1 hc1=>?_
 by_cases hz:bB p=0
 case neg=>
  simp [hz]
  exact ⟨by show c0≤c1; omega,hF0.h⟩
 have hpl:=tv p (dO hz) hcnt hb c1
 simp only [Prog.av] at hpl
 simp [hz,hbx]
 refine hpl.mono ?_
 rintro av ⟨h2,c2⟩ hc2 ⟨hF,hq⟩
 simp only at hc2 hF hq
 have hFF:Fr c0 h0 h2 c2:=⟨by omega,fun k hk=>(hF.h k (by omega)).trans (hF0.h k hk)⟩
 by_cases hpz:d5 p=0
 ·rw [if_pos hpz] at hq
  obtain ⟨go,stm,which,vals,rnd,acc,frm,rfl,hr,hfr⟩:=hq
  simp [hpz]
  exact ⟨hFF,stm,which,vals,rnd,acc,⟨frm,hr⟩,fun k hk=>by have:=hfr k hk; omega⟩
 ·rw [if_neg hpz] at hq
  subst hq
  simp [hpz]
  exact hFF
theorem vq (p:Wb.Prog) (hcnt:az p.steps≤300) (hA:p.arrays.length≤12) (line:Int):aO Pg Fn10.n [p.av,.int line] (.tup [row (if bv p=0∧1≤line∧line≤64 then cU line p.arrays else []),.int (if bv p=0 then if 1≤line∧line≤64 then 0 else 1 else bv p)]):=by
 rintro ⟨h0,c0⟩
 have hpl:=fM p hcnt
 simp only [Prog.av] at hpl
 refine Fn10.calls .frz ?_
 unfold Fn10.ac
 obtain ⟨hb,hhb⟩:∃ hb,hb=upd h0 c0 (some (.row 2 [[row (p.arrays.map Array.cells),row (p.steps.map Step.cells)]] .live none)):=⟨_,rfl⟩
 have hF0:Fr c0 h0 hb (c0+1):=by rw [hhb]; exact (Fr.refl _ _).upd (Nat.le_refl _) (Nat.le_succ _)
 have hbx:=(congrFun hhb c0).trans ah
 simp [Prog.av,←hhb,hbx]
 refine (hpl hb (c0+1)).mono ?_
 rintro av ⟨h1,c1⟩ hc1 ⟨hF1,hq⟩
 simp only at hc1 hF1 hq
 have hFF:Fr c0 h0 h1 c1:=hF0.trans hF1
 by_cases hz:bv p=0
 case neg=>
  rw [if_neg hz] at hq
  subst hq
  simp [hz]
  exact hFF.retH
 rw [if_pos hz] at hq
 obtain ⟨go,stm,which,vals,rnd,acc,frm,rfl,hr,_⟩:=hq
 have hb1:=(hF1.h c0 (by omega)).trans hbx
 simp [hz]
 refine ACalls.pure (ep line 1 64) fun c2 hc2=>?_
 by_cases hl:1≤line∧line≤64
 case neg=>
  simp [hz,hl]
  exact hFF.retH
 have hpk:=vG p hA (dO (ek hz).1).arrays line hl.1 hl.2 h1 c2
 simp only [Prog.av] at hpk
 simp [hl,hb1]
 refine hpk.mono ?_
 rintro av ⟨h3,c3⟩ hc3 ⟨g,rfl,g1,g2,g3,g4⟩
 simp only at hc3 g2 g3 g4
 have hpk2:(cU line p.arrays).length=p.arrays.length:=by
  obtain ⟨L,e1,e2⟩:=fR line p.arrays
  rw [e1,List.length_map,e2.length_eq,eH]
 have htk:(cU line p.arrays).take p.arrays.length=cU line p.arrays:=by rw [←hpk2,List.take_length]
 have hnm:aW (cU line p.arrays)=cU line p.arrays:=by
  obtain ⟨L,e1,e2⟩:=fR line p.arrays
  rw [e1]; exact kS L
 simp [g3,hz,hl,htk,hnm,hpk2]
 exact ((((hFF.trans (Fr.le hc2)).trans g4).upd (by omega) (Nat.le_refl _))).retH
theorem vA (p:Wb.Prog) (hcnt:az p.steps≤300) (l:List Pl):aO Pg Fn17.n [p.av,row (l.map Pl.cells)] (.int (if bv p=0 then aL p.arrays l else bv p)):=by
 rintro ⟨h0,c0⟩
 have hpl:=fM p hcnt
 simp only [Prog.av] at hpl
 refine Fn17.calls .frz ?_
 unfold Fn17.ac
 obtain ⟨hb,hhb⟩:∃ hb,hb=upd h0 c0 (some (.row 2 [[row (p.arrays.map Array.cells),row (p.steps.map Step.cells)]] .live none)):=⟨_,rfl⟩
 have hF0:Fr c0 h0 hb (c0+1):=by rw [hhb]; exact (Fr.refl _ _).upd (Nat.le_refl _) (Nat.le_succ _)
 have hbx:=(congrFun hhb c0).trans ah
 simp [Prog.av,←hhb,hbx]
 refine (hpl hb (c0+1)).mono ?_
 rintro av ⟨h1,c1⟩ hc1 ⟨hF1,hq⟩
 simp only at hc1 hF1 hq
 have hFF:Fr c0 h0 h1 c1:=hF0.trans hF1
 by_cases hz:bv p=0
 case neg=>
  rw [if_neg hz] at hq
  subst hq
  simp [hz]
  exact hFF.retH
 rw [if_pos hz] at hq
 obtain ⟨go,stm,which,vals,rnd,acc,frm,rfl,hr,_⟩:=hq
 have hb1:=(hF1.h c0 (by omega)).trans hbx
 have hcp:=qX p (dO (ek hz).1).arrays l
 simp only [Prog.av] at hcp
 simp [hz,hb1]
 refine ACalls.pure hcp fun c2 hc2=>?_
 simp [hz]
 exact hFF.retH
theorem vH (p:Wb.Prog) (hcnt:az p.steps≤300) (l:List Pl) (h0:Heap) (c0:Nat) :
  ACalls Pg Fn62.n [p.av,row (l.map Pl.cells)] ⟨h0,c0⟩ fun av s'=>Fr c0 h0 s'.h s'.c∧if bv p=0 then if aL p.arrays l=0 then ∃ go g,av=.tup [.ptr go 0 0,.row g 1 0 (fi p l).length,.int 0]∧c0≤g∧g<s'.c∧s'.h g=some (.row 1 (ak (fi p l)) .live none) else av=.tup [.nilp,.sl [] true,.int (aL p.arrays l)] else av=.tup [.nilp,.sl [] true,.int (bv p)]:=by
 have hpl:=fM p hcnt
 simp only [Prog.av] at hpl
 refine Fn62.calls .keep ?_
 unfold Fn62.ac
 obtain ⟨hb,hhb⟩:∃ hb,hb=upd h0 c0 (some (.row 2 [[row (p.arrays.map Array.cells),row (p.steps.map Step.cells)]] .live none)):=⟨_,rfl⟩
 have hF0:Fr c0 h0 hb (c0+1):=by rw [hhb]; exact (Fr.refl _ _).upd (Nat.le_refl _) (Nat.le_succ _)
 have hbx:=(congrFun hhb c0).trans ah
 simp [Prog.av,←hhb,hbx]
 refine (hpl hb (c0+1)).mono ?_
 rintro av ⟨h1,c1⟩ hc1 ⟨hF1,hq⟩
 simp only at hc1 hF1 hq
 have hFF:Fr c0 h0 h1 c1:=hF0.trans hF1
 by_cases hz:bv p=0
 case neg=>
  rw [if_neg hz] at hq
  subst hq
  simp [hz]
  exact hFF
 rw [if_pos hz] at hq
 obtain ⟨go,stm,which,vals,rnd,acc,frm,rfl,hr,_⟩:=hq
 have hb1:=(hF1.h c0 (by omega)).trans hbx
 obtain ⟨z1,z2,z3,z4⟩:=ek hz
 have hcp:=qX p (dO z1).arrays l
 simp only [Prog.av] at hcp
 simp [hz,hb1]
 refine ACalls.pure hcp fun c2 hc2=>?_
 by_cases hpf:aL p.arrays l=0
 case neg=>
  simp [hpf]
  exact hFF.trans (Fr.le hc2)
 have had:=tz p (dO z1) z3 z4 (qZ hz) l (gz hpf) stm which vals rnd acc frm go h1 c2 (hr.re hc2 fun _ _=>rfl)
 simp only [Prog.av] at had
 simp [hpf,hb1]
 refine had.mono ?_
 rintro av ⟨h3,c3⟩ hc3 ⟨g,rfl,g1,g2,g3,g4⟩
 simp only at hc3 g2 g3 g4
 simp
 exact ⟨(hFF.trans (Fr.le hc2)).trans g4,go,g,⟨rfl,rfl⟩,by omega,g2,g3⟩
theorem vt (p:Wb.Prog) (hcnt:az p.steps≤300) (l:List Pl):aO Pg Fn11.n [p.av,row (l.map Pl.cells)] (.tup [row (if bv p=0∧aL p.arrays l=0 then ak (fi p l) else []),.int (if bv p=0 then aL p.arrays l else bv p)]):=by
 rintro ⟨h0,c0⟩
 have hpl:=vH p hcnt l
 simp only [Prog.av] at hpl
 refine Fn11.calls .frz ?_
 unfold Fn11.ac
 obtain ⟨hb,hhb⟩:∃ hb,hb=upd h0 c0 (some (.row 2 [[row (p.arrays.map Array.cells),row (p.steps.map Step.cells)]] .live none)):=⟨_,rfl⟩
 have hF0:Fr c0 h0 hb (c0+1):=by rw [hhb]; exact (Fr.refl _ _).upd (Nat.le_refl _) (Nat.le_succ _)
 have hbx:=(congrFun hhb c0).trans ah
 simp [Prog.av,←hhb,hbx]
 refine (hpl hb (c0+1)).mono ?_
 rintro av ⟨h1,c1⟩ hc1 ⟨hF1,hq⟩
 simp only at hc1 hF1 hq
 have hFF:Fr c0 h0 h1 c1:=hF0.trans hF1
 by_cases hz:bv p=0
 case neg=>
  rw [if_neg hz] at hq
  subst hq
  simp [hz]
  exact hFF.retH
 rw [if_pos hz] at hq
 by_cases hpf:aL p.arrays l=0
 case neg=>
  rw [if_neg hpf] at hq
  subst hq
  simp [hz,hpf]
  exact hFF.retH
 rw [if_pos hpf] at hq
 obtain ⟨go,g,rfl,g1,g2,g3⟩:=hq
 have hil:(fi p l).length=(ak (fi p l)).length:=by simp
 have htk:List.take (fi p l).length (ak (fi p l))=ak (fi p l):=by rw [hil,List.take_length]
 simp [g3,hz,hpf,htk]
 exact (hFF.upd (by omega) (Nat.le_refl _)).retH
theorem lG (p:Wb.Prog) (hA:p.arrays.length≤12) (hok:∀ a∈p.arrays,OkArray a) (line:Int) (hl1:1≤line) (hl2:line≤64) (h0:Heap) (c0:Nat) :
  ACalls Pg Fn14.n [p.av,.int line] ⟨h0,c0⟩ fun av s'=>av=row (cU line p.arrays)∧Fr c0 h0 s'.h s'.c:=by
 refine ACalls.deep (fun k=>c0≤k) (vx p hA hok line hl1 hl2 h0 c0) ?_
 rintro av s' ⟨g,rfl,h1,h2,h3,hF⟩
 refine ⟨row (cU line p.arrays),?_,fun h'' hh=>⟨rfl,hF.c,fun k hk=>(FzH.low hh hk).trans (hF.h k hk)⟩⟩
 obtain ⟨L,e1,e2⟩:=fR line p.arrays
 have hpk2:(cU line p.arrays).length=p.arrays.length:=by rw [e1,List.length_map,e2.length_eq,eH]
 have hr:row (cU line p.arrays)=.sl (cU line p.arrays) false:=by simp
 rw [hr]
 refine .row g 3 0 _ _ .live _ h3 (.inl rfl) h1 (by omega) hpk2 ?_ ?_
 ·intro i e y he hy
  rw [Nat.zero_add] at he; rw [he] at hy; cases hy; rfl
 ·intro i j e y c d he hy hc hd
  rw [Nat.zero_add] at he; rw [he] at hy; cases hy; rw [hc] at hd; cases hd
  rw [e1] at he
  obtain ⟨m,_,hm⟩:=List.mem_map.1 (List.mem_of_getElem? he)
  subst hm
  match j with
  | 0=>simp [Pl.cells] at hc; subst hc; exact .leaf _
  | 1=>simp [Pl.cells] at hc; subst hc; exact .leaf _
  | 2=>simp [Pl.cells] at hc; subst hc; exact .leaf _
  | j+3=>simp [Pl.cells] at hc
end Go.Proofs.YtjhogglgkjcacaaGreat
set_option maxRecDepth 20000
set_option maxHeartbeats 4000000
namespace Go.Proofs.YtjhogglgkjcacaaGreat
open Go.AM Go.Wb
def pN (a:Wb.Array):Int:=a.sizes.foldl (fun n k=>IntKind.i64.wrap (n*k)) 1
theorem mM (a:Wb.Array):aO Pg Fn63.n [.agg a.cells] (.int (pN a)):=by
 rintro ⟨h0,c0⟩
 refine ACalls.small fun hsm=>?_
 have hlen:a.sizes.length≤68719476736:=by simp [Array.cells] at hsm; omega
 refine Fn63.calls .frz ?_
 unfold Fn63.ac
 simp [Array.cells]
 obtain ⟨Inv,hInv⟩:∃ Inv:Nat→List Int→Slots→St→Prop,Inv=fun (i:Nat) r sl s'=>∃ n:Int,sl 3=.int n∧r.foldl (fun n k=>IntKind.i64.wrap (n*k)) n=pN a:=⟨_,rfl⟩
 refine aX 9 Fn63.W0 a.sizes Inv (by rfl) (by rfl) ?_ ?_ ?_
 ·rw [hInv]; exact ⟨by simp,1,by simp,rfl⟩
 ·intro v h c hv hF hI
  rw [hInv] at hI
  obtain ⟨n,h3,h4⟩:=hI
  simp at h3
  simp only [List.foldl_nil] at h4
  simp [hv,h3,h4]
  exact aC fun k hk=>by rw [hF.h k (by omega),ad (by omega)]
 ·intro i z zs v h c hi hz hl hv hF hI
  rw [hInv] at hI
  obtain ⟨n,h3,h4⟩:=hI
  simp at h3
  have hwi:=ae (x:=(i:Int)+1) (by omega) (by omega)
  have hzi:(ak a.sizes)[i]?=some [.int z]:=by simp [ak,hi,hz]
  simp [hv,hi,hzi,h3,hwi,hz]
  refine ⟨hF,?_⟩
  rw [hInv]
  exact ⟨_,by simp,h4⟩
theorem vf {line x:Int} (hl:line=1∨line=2∨line=4):(-(IntKind.i64.wrap x)) % line=(-x) % line:=by
 simp only [IntKind.wrap,IntKind.bits,IntKind.signed]
 rcases hl with rfl | rfl | rfl <;> simp <;> omega
theorem mL (p:Wb.Prog) (hA:p.arrays.length≤12) (line:Int) (hl:line=1∨line=2∨line=4) (h0:Heap) (c0:Nat) :
  ACalls Pg Fn14.n [p.av,.int line] ⟨h0,c0⟩ fun av s'=>∃ (g:Nat) (L:List Pl),av=.row g 3 0 L.length∧L.length=p.arrays.length∧c0≤g∧g<s'.c∧s'.h g=some (.row 3 (L.map Pl.cells) .live none)∧Fr c0 h0 s'.h s'.c:=by
 have hl1:1≤line:=by omega
 refine Fn14.calls .keep ?_
 unfold Fn14.ac
 obtain ⟨hb,hhb⟩:∃ hb,hb=upd (upd h0 c0 (some (.row 2 [[row (p.arrays.map Array.cells),row (p.steps.map Step.cells)]] .live none))) (c0+1) (some (.row 3 [] .live none)):=⟨_,rfl⟩
 have hFb:Fr c0 h0 hb (c0+1+1):=by rw [hhb]; exact ((Fr.refl _ _).upd (Nat.le_refl _) (Nat.le_succ _)).upd (by omega) (Nat.le_succ _)
 have bx:hb c0=_:=(congrFun hhb c0).trans (by rw [ad (by omega),ah])
 have br:hb (c0+1)=_:=(congrFun hhb (c0+1)).trans ah
 simp [Prog.av,←hhb,bx]
 obtain ⟨Inv,hInv⟩:∃ Inv:Nat→List Wb.Array→Slots→St→Prop,Inv=fun i r sl s'=>∃ (g:Nat) (y:Int) (L:List Pl),sl 5=.row g 3 0 i∧L.length=i∧c0<g∧g<s'.c∧s'.h g=some (.row 3 (L.map Pl.cells) .live none)∧sl 6=.int y∧Fr c0 h0 s'.h s'.c:=⟨_,rfl⟩
 refine bq 12 Fn14.W0 p.arrays Inv (by rfl) (by rfl) ?_ ?_ ?_
 ·rw [hInv]
  exact ⟨by simp,c0+1,0,[],by simp,rfl,Nat.lt_succ_self _,Nat.lt_succ_self _,by simpa using br,by simp,hFb⟩
 ·intro v s' hv hI
  rw [hInv] at hI
  obtain ⟨g,y,L,h5,i0,i1,i2,i3,i4,i9⟩:=hI
  obtain ⟨h,c⟩:=s'
  simp at h5
  simp only at i2 i3 i9
  have hpl:(L.map Pl.cells).length=p.arrays.length:=by simp [i0]
  simp [hv,h5]
  have hso:=eV (L.map Pl.cells) (by omega) (pj _) Fn65.n tlt g h c i3 i2 (nV qW _)
  rw [hpl] at hso
  refine hso.mono ?_
  rintro av ⟨h2,c2⟩ hc2 ⟨q1,q2⟩
  simp only at hc2 q1 q2
  obtain ⟨L',e1,e2⟩:=tc (l:=L) (nf tlt _)
  rw [e1] at q1
  simp
  refine ⟨g,L',⟨h5.trans (by rw [e2.length_eq,i0]),by rw [e2.length_eq,i0],by omega,by have:=i9.c; omega,q1,⟨by have:=i9.c; show c0≤c2; omega,fun k hk=>(q2 k (by omega)).trans (i9.h k hk)⟩⟩⟩
 ·intro i a as' v s' hi ha hl3 hv hI
  rw [hInv] at hI
  obtain ⟨g,y,L,h5,i0,i1,i2,i3,i4,i9⟩:=hI
  obtain ⟨h,c⟩:=s'
  simp at h5 i4
  simp only at i2 i3 i9
  have hcc:=i9.c
  have hw1:=ae (x:=(i:Int)+1) (by omega) (by omega)
  obtain ⟨h1,hh1⟩:∃ h1,h1=upd h c (some (.row 2 [[.str a.key,row (ak a.sizes)]] .live none)):=⟨_,rfl⟩
  have hF1:Fr c0 h0 h1 (c+1):=by rw [hh1]; exact i9.upd hcc (Nat.le_succ _)
  have b1:h1 c=_:=(congrFun hh1 c).trans ah
  have g1:h1 g=some (.row 3 (L.map Pl.cells) .live none):=by rw [hh1,ad (by omega)]; exact i3
  simp [hv,hi,ha,Array.cells]
  rw [←hh1]
  obtain ⟨Inv1,hInv1⟩:∃ Inv1:Nat→Slots→St→Prop,Inv1=fun n sl s'=>∃ z:Int,sl 6=.int z∧s'=⟨h1,c+1⟩∧n=((-z) % line).toNat:=⟨_,rfl⟩
  refine co Fn14.W1 (by rfl) Inv1 ((-y) % line).toNat ?_ ?_
  ·rw [hInv1]; exact ⟨y,by simp [i4],rfl,rfl⟩
  ·intro n v1 s1 hI1
   rw [hInv1] at hI1
   obtain ⟨z,j1,rfl,j5⟩:=hI1
   simp at j1
   have hl0:¬line=0:=by omega
   by_cases hz:z.tmod line=0
   ·have hcel:=mM a
    simp only [Array.cells] at hcel
    have hlen:(L.map Pl.cells).length=i:=by simp [i0]
    have hap:apI 3 32 .plain (.row g 3 0 i) (.sl [[.str a.key,.int z,.bool false]] true) ⟨h1,c+1⟩=_:=bV (by decide) g1 hlen (by decide) (by decide) (by decide) rfl (by omega)
    obtain ⟨h2,hh2⟩:∃ h2,h2=upd (upd h1 g none) (c+1) (some (.row 3 (L.map Pl.cells++[[.str a.key,.int z,.bool false]]) .live none)):=⟨_,rfl⟩
    have hF2:Fr c0 h0 h2 (c+1+1):=by rw [hh2]; exact (hF1.upd (by omega) (Nat.le_refl _)).upd (by omega) (Nat.le_succ _)
    have b2:h2 c=_:=(congrFun hh2 c).trans (by rw [ad (by omega),ad (by omega),b1])
    have g2:h2 (c+1)=_:=(congrFun hh2 (c+1)).trans ah
    simp [j1,hl0,hz,hv,h5,g1,b1,aM,aw,bsI,hap,←hh2,b2]
    refine ACalls.pure hcel fun c4 hc4=>?_
    simp [j1,hl0,hz,hv,h5,hw1]
    rw [hInv]
    refine ⟨c+1,IntKind.i64.wrap (z+pN a),L++[⟨a.key,z,false⟩],by simp,by simp [i0],by omega,by show c+1<c4; omega,?_,by simp,hF2.trans (Fr.le hc4)⟩
    ·show h2 (c+1)=_
     rw [g2]; simp [Pl.cells]
   ·have hst:=nn hl1 hz
    have hwm:=vf (line:=line) (x:=z+1) hl
    simp [j1,hl0,hz]
    refine ⟨_,by rw [j5]; exact hst.2,?_⟩
    rw [hInv1]
    exact ⟨IntKind.i64.wrap (z+1),by simp,rfl,by rw [hwm]⟩
theorem vF (L:List Pl) (hL:L.length≤12) (i:Nat) (hi:i<L.length) (g:Nat) (h0:Heap) (c0:Nat) (hg:h0 g=some (.row 3 (L.map Pl.cells) .live none)) (hgc:g<c0) :
  ACalls Pg Fn58.n [.row g 3 0 L.length,.int i,.int (i+1)] ⟨h0,c0⟩ fun av s'=>∃ L':List Pl,av=.row g 3 0 (L.length-1)∧L'.length=L.length∧s'.h g=some (.row 3 (L'.map Pl.cells) .live none)∧∀ k,k≠g→k<c0→s'.h k=h0 k:=by
 refine Fn58.calls .keep ?_
 unfold Fn58.ac
 obtain ⟨n,hn⟩:∃ n,n=L.length:=⟨_,rfl⟩
 rw [←hn] at hL hi ⊢
 have el:(L.map Pl.cells).length=n:=by simp [hn]
 have hw1:IntKind.i64.wrap ((i:Int)+1)=(i:Int)+1:=ae (by omega) (by omega)
 have ti:((i:Int)+1).toNat=i+1:=by omega
 have hc1:0≤(i:Int)+1∧(i:Int)+1≤n:=by omega
 have hc2:(i:Int)≤i+1:=by omega
 have e1:srX 3 (.row g 3 0 n) (some (.int i)) (some (.int (i+1))) (some (.int n)) ⟨h0,c0⟩=some .undef:=by
  simp [srX,bnd,hi,ti,hc1,hc2,Nat.le_of_lt hi]
 have e2:=srI_row_to (sz:=3) (g:=g) (off:=0) (l:=i) (len:=n) (by omega)
 have e3:srI 3 (.row g 3 0 n) (some (.int (i+1))) none none=some (.row g 3 (i+1) (n-(i+1))):=by
  simp [srI,bnd,ti,hc1]
 obtain ⟨L1,hL1⟩:∃ L1,L1=L.take i++L.drop (i+1)++L.drop (n-1):=⟨_,rfl⟩
 have hl1:L1.length=n:=by rw [hL1]; simp; omega
 have hxs:((L.map Pl.cells).drop (i+1)).take (n-(i+1))=(L.drop (i+1)).map Pl.cells:=by
  rw [List.take_of_length_le (by simp; omega),List.map_drop]
 have hok:((L.drop (i+1)).map Pl.cells).all (aB 3)=true:=List.all_eq_true.2 (pj _)
 have e4:apI 3 32 .plain (.row g 3 0 i) (.row g 3 (i+1) (n-(i+1))) ⟨h0,c0⟩=some (.row g 3 0 (n-1),⟨upd h0 g (some (.row 3 (L1.map Pl.cells) .live none)),c0⟩):=by
  unfold apI
  have:(⟨h0,c0⟩:St).show_ (.row g 3 (i+1) (n-(i+1)))=some ((L.drop (i+1)).map Pl.cells):=by
   simp only [St.show_,hg]
   rw [if_pos (by rw [el]; omega),hxs]
  rw [this]
  have hd:((L.drop (i+1)).map Pl.cells).length=n-(i+1):=by simp [hn]
  simp only [hok,hg,hd]
  have h9:¬i=(L.map Pl.cells).length:=by omega
  have h10:¬i=L.length:=by omega
  have h11:i+(n-(i+1))=n-1:=by omega
  simp [h9,dT,h10,h11]
  refine ⟨by omega,by omega,?_⟩
  rw [hL1]; simp [List.map_take,List.map_drop]
 have hni:¬(i:Int)=i+1:=by omega
 obtain ⟨h1,hh1⟩:∃ h1,h1=upd h0 g (some (.row 3 (L1.map Pl.cells) .live none)):=⟨_,rfl⟩
 have g1:h1 g=_:=(congrFun hh1 g).trans ah
 rw [←hh1] at e4
 have e5:srX 3 (.row g 3 0 (n-1)) (some (.int ((n-1:Nat):Int))) (some (.int n)) none ⟨h1,c0⟩=some (.row g 3 (n-1) (n-(n-1))):=by
  simp [srX,bnd,g1,hl1]; omega
 obtain ⟨L2,hL2⟩:∃ L2:List Pl,L2=L1.take (n-1)++[⟨⟨#[]⟩,0,false⟩]:=⟨_,rfl⟩
 have e6:clI 3 [.str ⟨#[]⟩,.int 0,.bool false] (.row g 3 (n-1) (n-(n-1))) ⟨h1,c0⟩=some ⟨upd h1 g (some (.row 3 (L2.map Pl.cells) .live none)),c0⟩:=by
  unfold clI
  simp [g1,hl1]
  rw [hL2,List.drop_eq_nil_of_le (by simp; omega),show n-(n-1)=1 by omega]
  simp [List.map_take,Pl.cells]
 simp [e1,hw1,hni,e2,e3,e4,e5,e6]
 refine ⟨L2,by rw [hL2]; simp; omega,rfl,fun k hk hk2=>?_⟩
 rw [ad hk,hh1,ad hk]
theorem Pl.set_turned (L:List Pl) (i:Nat) (hi:i<L.length) (b:Bool):(L.map Pl.cells).set i [.str L[i].key,.int L[i].start,.bool b]=(L.set i ⟨L[i].key,L[i].start,b⟩).map Pl.cells:=by rw [List.map_set]; rfl
theorem kV {L:List Pl} {i:Nat} (hi:i<L.length):(L.map Pl.cells)[i]?=some [.str L[i].key,.int L[i].start,.bool L[i].turned]:=by
 rw [List.getElem?_map,List.getElem?_eq_getElem hi]; rfl
theorem wt (p:Wb.Prog) (hp:GenP p) (L:List Int) (hL:L.length≤1048576) (a:Int) (g:Nat) (h0:Heap) (c0:Nat) (hs:SM h0 g L a) (ha:0≤a) (ha':a<100000000) (hg:g<c0) :
  ACalls Pg Fn8.n [.ptr g 0 0,p.av] ⟨h0,c0⟩ fun av s'=>(∃ l:List Pl,av=row (l.map Pl.cells))∧SMI h0 g L a 100 s'.h:=by
 have hpk:=fun line hl h c=>mL p (by rw [hp.arrays]; omega) line hl h c
 simp only [Prog.av] at hpk
 refine Fn8.calls .frz ?_
 unfold Fn8.ac
 obtain ⟨hb,hhb⟩:∃ hb,hb=upd h0 c0 (some (.row 2 [[row (p.arrays.map Array.cells),row (p.steps.map Step.cells)]] .live none)):=⟨_,rfl⟩
 have hFb:Fr c0 h0 hb (c0+1):=by rw [hhb]; exact (Fr.refl _ _).upd (Nat.le_refl _) (Nat.le_succ _)
 have bx:hb c0=_:=(congrFun hhb c0).trans ah
 have sb:SM hb g L a:=by unfold SM; rw [hFb.h g hg]; exact hs
 simp [Prog.av,←hhb,bx,bsI,aw]
 refine ACalls.draw (R:=fun v=>∃ k,v=.int k∧k∈[1,2,4]) (cm [1,2,4] L a g hb _ (by simp) (by simp) sb (by omega) (by omega) hL (by omega)) fun v h1 c1 a1 hv hc1 t1 t2 t3 t4=>?_
 obtain ⟨line,rfl,hline⟩:=hv
 have bx1:=(t4 c0 (by omega)).trans bx
 simp [bx1]
 refine (hpk line (by simpa using hline) h1 c1).mono ?_
 rintro av ⟨h2,c2⟩ hc2 ⟨gr,P,rfl,p1,p2,p3,p4,p5⟩
 simp only at hc2 p3 p4 p5
 rw [hp.arrays] at p1
 simp [p1]
 obtain ⟨Inv,hInv⟩:∃ Inv:Nat→List Unit→Slots→St→Prop,Inv=fun (i:Nat) r sl s'=>∃ (P:List Pl) (a':Int),P.length=3∧c2≤s'.c∧s'.h gr=some (.row 3 (P.map Pl.cells) .live none)∧SM s'.h g L a'∧a≤a'∧a'≤a+1+3*i∧∀ k,k<c0→k≠g→s'.h k=h0 k:=⟨_,rfl⟩
 refine bq 15 Fn8.W0 (List.replicate 3 ()) Inv (by rfl) (by rfl) ?_ ?_ ?_
 ·rw [hInv]
  refine ⟨by simp,P,a1,p1,Nat.le_refl _,p4,?_,by omega,by omega,fun k hk hkg=>?_⟩
  ·show h2 g=_; rw [p5.h g (by omega)]; exact t3
  ·show h2 k=_; rw [p5.h k (by omega),t4 k hkg]; exact hFb.h k hk
 ·intro v s' hv hI
  rw [hInv] at hI
  obtain ⟨P,a2,i1,i2,i3,i4,i5,i6,i7⟩:=hI
  obtain ⟨h3,c3⟩:=s'
  simp at hv i6
  simp only at i2 i3 i4 i7
  simp [hv]
  refine ACalls.draw (eo L a2 15 g h3 c3 (by omega) i4 (by omega) (by omega) hL (by omega)) fun w h4 c4 a4 hw4 hc4 u1 u2 u3 u4=>?_
  obtain ⟨b,rfl⟩:=hw4
  have q4:=(u4 gr (by omega)).trans i3
  have l4:∀ k,k<c0→k≠g→h4 k=h0 k:=fun k hk hkg=>(u4 k hkg).trans (i7 k hk hkg)
  have fin:∀ (es:List (List AV)) (P:List Pl) (h9:Heap) (a9:Int) (m:Nat),es=P.map Pl.cells→SM h9 g L a9→a≤a9→a9≤a+100→(∀ k,k<c0→k≠g→h9 k=h0 k)→(∃ l:List Pl,aW (es.take m)=l.map Pl.cells)∧SMI h0 g L a 100 (retH c0 h0 (upd h9 gr (some (.row 3 es .frz none)))):=fun es P h9 a9 m f1 f4 f5 f6 f7=>
   ⟨⟨P.take m,by rw [f1,←List.map_take]; exact kS _⟩,SMI.fin hg (fun k hkg hk=>by rw [ad (by omega)]; exact f7 k hk hkg) (by unfold SM; rw [ad (by omega)]; exact f4) f5 f6⟩
  cases b
  ·simp [q4,i1]
   exact fin _ P h4 a4 3 rfl u3 (by omega) (by omega) l4
  simp
  refine ACalls.draw (cu L a4 3 g h4 c4 (by omega) u3 (by omega) (by omega) hL (by omega)) fun w h5 c5 a5 hw5 hc5 v1 v2 v3 v4=>?_
  obtain ⟨k1,rfl,k2,k3,_⟩:=hw5
  obtain ⟨i,rfl⟩:∃ i:Nat,k1=i:=⟨k1.toNat,by omega⟩
  have hi3:i<3:=by have:=k3 (by omega); omega
  have hi2:(i:Int)<3:=by omega
  have hiP:i<P.length:=by omega
  have q5:=(v4 gr (by omega)).trans q4
  have l5:∀ k,k<c0→k≠g→h5 k=h0 k:=fun k hk hkg=>(v4 k hkg).trans (l4 k hk hkg)
  simp
  refine ACalls.draw (cu L a5 3 g h5 c5 (by omega) v3 (by omega) (by omega) hL (by omega)) fun w h6 c6 a6 hw6 hc6 w1 w2 w3 w4=>?_
  obtain ⟨kk,rfl,_,_,_⟩:=hw6
  have q6:=(w4 gr (by omega)).trans q5
  have l6:∀ k,k<c0→k≠g→h6 k=h0 k:=fun k hk hkg=>(w4 k hkg).trans (l5 k hk hkg)
  by_cases y0:kk=0
  ·simp [y0,bsI,aw]
   refine ACalls.draw (R:=fun v=>∃ k,v=.str k∧k∈([⟨#[]⟩,⟨#[122,122]⟩,⟨#[98]⟩,⟨#[65]⟩]:List ByteArray)) (ip [⟨#[]⟩,⟨#[122,122]⟩,⟨#[98]⟩,⟨#[65]⟩] L a6 g h6 c6 (by simp) (by simp) w3 (by omega) (by omega) hL (by omega)) fun w h7 c7 a7 hw7 hc7 x1 x2 x3 x4=>?_
   obtain ⟨sk,rfl,_⟩:=hw7
   have q7:=(x4 gr (by omega)).trans q6
   have l7:∀ k,k<c0→k≠g→h7 k=h0 k:=fun k hk hkg=>(x4 k hkg).trans (l6 k hk hkg)
   simp [q7,hi3,hi2,kV hiP,hiP,Pl.cells,i1]
   exact fin _ (P.set i ⟨sk,P[i].start,P[i].turned⟩) h7 a7 3 (by rw [List.map_set]; rfl) x3 (by omega) (by omega) l7
  by_cases y1:kk=1
  ·simp [y0,y1,bsI,aw]
   refine ACalls.draw (R:=fun v=>∃ k,v=.int k∧k∈[-1,1000001,0]) (cm [-1,1000001,0] L a6 g h6 _ (by simp) (by simp) w3 (by omega) (by omega) hL (by omega)) fun w h7 c7 a7 hw7 hc7 x1 x2 x3 x4=>?_
   obtain ⟨sk,rfl,_⟩:=hw7
   have q7:=(x4 gr (by omega)).trans q6
   have l7:∀ k,k<c0→k≠g→h7 k=h0 k:=fun k hk hkg=>(x4 k hkg).trans (l6 k hk hkg)
   simp [q7,hi3,hi2,kV hiP,hiP,Pl.cells,i1]
   exact fin _ (P.set i ⟨P[i].key,sk,P[i].turned⟩) h7 a7 3 (by rw [List.map_set]; rfl) x3 (by omega) (by omega) l7
  have hw1:IntKind.i64.wrap ((i:Int)+1)=(i:Int)+1:=ae (by omega) (by omega)
  simp [y0,y1,bsI,aw,hw1]
  have hde:=vF P (by omega) i hiP gr h6 c6 q6 (by omega)
  rw [i1] at hde
  refine hde.mono ?_
  rintro av ⟨h7,c7⟩ hc7 ⟨P2,rfl,x1,x2,x3⟩
  simp only at hc7 x2 x3
  have l7:∀ k,k<c0→k≠g→h7 k=h0 k:=fun k hk hkg=>(x3 k (by omega) (by omega)).trans (l6 k hk hkg)
  have s7:SM h7 g L a6:=by show h7 g=_; rw [x3 g (by omega) (by omega)]; exact w3
  simp [x2,x1,i1]
  exact fin _ P2 h7 a6 2 rfl s7 (by omega) (by omega) l7
 ·intro i x xs v s' hi hx hl2 hv hI
  rw [hInv] at hI
  obtain ⟨P,a2,i1,i2,i3,i4,i5,i6,i7⟩:=hI
  obtain ⟨h3,c3⟩:=s'
  simp at hi
  simp only at i2 i3 i4 i7
  have hw:=ae (x:=(i:Int)+1) (by omega) (by omega)
  have hi2:(i:Int)<3:=by omega
  simp [hv,hi2]
  refine ACalls.draw (eo L a2 3 g h3 c3 (by omega) i4 (by omega) (by omega) hL (by omega)) fun w h4 c4 a4 hw4 hc4 u1 u2 u3 u4=>?_
  obtain ⟨b,rfl⟩:=hw4
  have q4:=(u4 gr (by omega)).trans i3
  have hiP:i<P.length:=by omega
  simp [q4,hi,hi2,kV hiP,hiP,Pl.cells]
  obtain ⟨P1,hP1⟩:∃ P1,P1=P.set i ⟨P[i].key,P[i].start,b⟩:=⟨_,rfl⟩
  have hP1l:P1.length=3:=by rw [hP1]; simp [i1]
  have hiP1:i<P1.length:=by omega
  obtain ⟨h5,hh5⟩:∃ h5,h5=upd h4 gr (some (.row 3 ((P.map Pl.cells).set i [.str P[i].key,.int P[i].start,.bool b]) .live none)):=⟨_,rfl⟩
  rw [←hh5]
  rw [Pl.set_turned P i hiP b,←hP1] at hh5
  have q5:h5 gr=_:=(congrFun hh5 gr).trans ah
  have s5:SM h5 g L a4:=by show h5 g=_; rw [hh5,ad (by omega)]; exact u3
  have l5:∀ k,k<c0→k≠g→h5 k=h0 k:=fun k hk hkg=>by rw [hh5,ad (by omega),u4 k hkg]; exact i7 k hk hkg
  refine ACalls.draw (eo L a4 4 g h5 c4 (by omega) s5 (by omega) (by omega) hL (by omega)) fun w h6 c6 a6 hw6 hc6 v1 v2 v3 v4=>?_
  obtain ⟨b2,rfl⟩:=hw6
  have q6:=(v4 gr (by omega)).trans q5
  have l6:∀ k,k<c0→k≠g→h6 k=h0 k:=fun k hk hkg=>(v4 k hkg).trans (l5 k hk hkg)
  cases b2
  ·simp [hv,hw]
   rw [hInv]
   exact ⟨P1,a6,hP1l,by show c2≤c6; omega,q6,v3,by omega,by omega,l6⟩
  simp [q6,hi,hi2,kV hiP1,hiP1,Pl.cells,bsI,aw]
  refine ACalls.draw (R:=fun v=>∃ k,v=.int k∧k∈[1000,1,0]) (cm [1000,1,0] L a6 g h6 _ (by simp) (by simp) v3 (by omega) (by omega) hL (by omega)) fun w h7 c7 a7 hw7 hc7 w1 w2 w3 w4=>?_
  obtain ⟨kk,rfl,hkk⟩:=hw7
  have q7:=(w4 gr (by omega)).trans q6
  simp [q7,hi,hi2,kV hiP1,hiP1,Pl.cells,hv,hw]
  rw [hInv]
  refine ⟨P1.set i ⟨P1[i].key,IntKind.i64.wrap (P1[i].start+kk),P1[i].turned⟩,a7,by simp [hP1l],by show c2≤c7; omega,?_,?_,by omega,by omega,fun k hk hkg=>?_⟩
  ·show upd h7 gr _ gr=_
   rw [ah,List.map_set]; rfl
  ·show upd h7 gr _ g=_
   rw [ad (by omega)]; exact w3
  ·show upd h7 gr _ k=_
   rw [ad (by omega),w4 k hkg]; exact l6 k hk hkg
end Go.Proofs.YtjhogglgkjcacaaGreat
set_option maxRecDepth 20000
set_option maxHeartbeats 4000000
namespace Go.Proofs.YtjhogglgkjcacaaGreat
open Go.AM Go.Wb
theorem jm:aO Pg Fn20.n [] (.bool true):=sE o0 60 (by kernel_rfl)
theorem vw (b:Bool) (n:Int):aO Pg Fn13.n [.bool b,.int n] (.int (if b then n else 0)):=by
 intro s
 refine Fn13.calls .frz ?_
 unfold Fn13.ac
 cases b <;> simp
theorem cT (l:List Pl):aO Pg Fn18.n [row (l.map Pl.cells),row (l.map Pl.cells)] (.bool true):=by
 rintro ⟨h0,c0⟩
 refine ACalls.small fun hs=>?_
 have hlen:l.length≤68719476736:=by simp at hs; exact hs.1
 refine Fn18.calls .frz ?_
 unfold Fn18.ac
 simp
 refine bT 13 Fn18.W0 l (fun (i:Nat) r sl=>True) (by rfl) (by rfl) ?_ ?_ ?_
 ·simp
 ·intro v c1 hv hc hI
  simp [hv]
 ·intro i x xs v c1 hi hx hl hv hc hI
  have hw:=ae (x:=(i:Int)+1) (by omega) (by omega)
  simp [hv,hi,hx,hw,Pl.cells,ci,fN]
  exact hc
theorem fW (line:Int) (A:List Wb.Array):aO Pg Fn18.n [row (cU line A),row (cU line A)] (.bool true):=by
 obtain ⟨L,e,_⟩:=fR line A
 rw [e]; exact cT L
theorem rr (A:List Wb.Array):∀ l:List Inst,(l.length:Int)≤cF A l
 | []=>by simp [cF]
 | x::xs=>by
  have:=rr A xs
  simp only [cF,List.map_cons,List.sum_cons,List.length_cons] at this ⊢
  push_cast; omega
theorem sd (L:List Int) (hL:L.length≤1048576) (h0:Heap) (c0:Nat) :
  ACalls Pg Fn3.n [row (ak L)] ⟨h0,c0⟩ fun av s'=>av=.bool true∧s'.h=h0:=by
 refine Fn3.calls .frz ?_
 unfold Fn3.ac
 simp [aM]
 obtain ⟨h1,hh1⟩:∃ h1,h1=upd h0 c0 (some (.row 2 [[row (ak L),.int 0]] .live none)):=⟨_,rfl⟩
 have hs1:SM h1 c0 L 0:=by rw [hh1]; exact ah
 have k1:∀ k,k<c0→h1 k=h0 k:=fun k hk=>by rw [hh1,ad (by omega)]
 rw [←hh1]
 refine (wo L hL 0 c0 h1 (c0+1) hs1 (by omega) (by omega) (by omega)).mono ?_
 rintro av ⟨h2,c2⟩ hc2 ⟨⟨p,rfl,hgen⟩,a2,ha1,ha2,hs2,k2⟩
 simp only at hc2 hs2 k2
 have hcnt:az p.steps≤300:=by have:=hgen.steps; omega
 have hA12:p.arrays.length≤12:=by rw [hgen.arrays]; omega
 obtain ⟨h3,hh3⟩:∃ h3,h3=upd h2 c2 (some (.row 2 [[row (p.arrays.map Array.cells),row (p.steps.map Step.cells)]] .live none)):=⟨_,rfl⟩
 have k3:∀ k,k<c0→h3 k=h0 k:=fun k hk=>by rw [hh3,ad (by omega),k2 k (by omega) (by omega),k1 k hk]
 have b3:=(congrFun hh3 c2).trans ah
 have s3:SM h3 c0 L a2:=by unfold SM; rw [hh3,ad (by omega)]; exact hs2
 have hrf:=fun h c=>wq p hcnt h c
 have hpl:=fun a h c x1 x2 x3 x4=>wt p hgen L hL a c0 h c x1 x2 x3 x4
 have hpa:=fun line=>vq p hcnt hA12 line
 have hca:=fun l=>vt p hcnt l
 have hcc:=fun l=>vA p hcnt l
 simp only [Prog.av] at hrf hpl hpa hca hcc
 simp [Prog.av]
 rw [←hh3]
 refine (hrf h3 (c2+1)).mono ?_
 rintro av ⟨h4,c4⟩ hc4 ⟨lx,rfl,hF4,hlx,hq⟩
 simp only at hc4 hF4 hlx hq
 have b4:=(hF4.h c2 (by omega)).trans b3
 have s4:SM h4 c0 L a2:=by unfold SM; rw [hF4.h c0 (by omega)]; exact s3
 have k4:∀ k,k<c0→h4 k=h0 k:=fun k hk=>(hF4.h k (by omega)).trans (k3 k hk)
 simp [b4]
 refine ACalls.draw (R:=fun v=>∃ l:List Pl,v=row (l.map Pl.cells)) (hpl a2 h4 c4 s4 (by omega) (by omega) (by omega)) fun v h5 c5 a5 hv hc5 t1 t2 t3 t4=>?_
 obtain ⟨P,rfl⟩:=hv
 simp [bsI,aw]
 refine ACalls.draw (R:=fun v=>∃ k,v=.int k∧k∈[1,3,8,0,65]) (cm [1,3,8,0,65] L a5 c0 h5 _ (by simp) (by simp) t3 (by omega) (by omega) hL (by omega)) fun v h6 c6 a6 hv hc6 u1 u2 u3 u4=>?_
 obtain ⟨line,rfl,hline⟩:=hv
 have b6:=(u4 c2 (by omega)).trans ((t4 c2 (by omega)).trans b4)
 have k6:∀ k,k<c0→h6 k=h0 k:=fun k hk=>by rw [u4 k (by omega),t4 k (by omega)]; exact k4 k hk
 simp [b6]
 refine ACalls.pure (hpa line) fun c7 hc7=>?_
 simp [b6]
 refine ACalls.pure (hca P) fun c8 hc8=>?_
 simp [b6]
 have hwn:=vw
 have her:=vu
 simp only [ak,List.map_cons,List.map_nil] at her
 have hin64:(¬line<1∧¬64<line)↔(1≤line∧line≤64):=by omega
 by_cases hz:bv p=0
 case neg=>
  by_cases hb:line<1
  all_goals by_cases hb2:64<line
  all_goals
   simp [hb,hb2]
   refine ACalls.pure (hwn _ _) fun c9 hc9=>?_
   simp [bsI,aw]
   refine ACalls.pure (her _ _) fun c10 hc10=>?_
   simp [hz,b6]
   refine ACalls.pure (hcc P) fun c11 hc11=>?_
   simp [hz]
   refine ACalls.pure (cT []) fun c12 hc12=>?_
   simp
   refine ACalls.pure (cJ []) fun c13 hc13=>?_
   simp
   refine ACalls.pure jm fun c14 hc14=>?_
   simp
   exact aC k6
 rw [if_pos hz] at hq
 obtain ⟨z1,z2,z3,z4⟩:=ek hz
 have hok:=(dO z1).arrays
 obtain ⟨l,hl⟩:∃ l,l=(aE p).2.l:=⟨_,rfl⟩
 have hspot:=qZ hz
 have hadr:fi p P=(eW p.arrays 0 l).map fun a=>eK p.arrays P a.2.2:=by rw [hl]; rfl
 rw [←hl] at hq z4 hspot
 have hin:=gH (dO z1)
 rw [←hl] at hin
 have hrl:∀ i∈l,(i.reads p.arrays).length≤4096:=fun i hi=>oJ (hin i hi)
 have hll:l.length≤1000000:=by have:=rr p.arrays l; omega
 have hu6:UsesAt h6 c6 p.arrays lx l:=by
  refine hq.frame (by omega) fun k hk=>?_
  have hk1:k≠c0:=by
   rcases hk with hk | ⟨hk,kv,ver,e⟩
   ·have:=hlx k hk; omega
   ·intro e2
    subst e2
    unfold SM at s4
    rw [s4] at e; cases e
  rw [u4 k hk1,t4 k hk1]
 have hnr:∀ k,an (norm lx) k→k<c6:=fun k hk=>by
  have:an lx k:=by
   obtain ⟨us,u1,_⟩:=hq
   rcases u1 with ⟨e1,_⟩ | ⟨g,e1,_⟩
   ·rw [e1] at hk; exact absurd hk aK
   ·rw [e1] at hk ⊢; exact hk
  have:=hlx k this; omega
 have hpf:=fun l=>vy p hok l
 have hpk:=fun line x1 x2 h c=>lG p hA12 hok line x1 x2 h c
 simp only [Prog.av] at hpf hpk
 have hao:=fun (hP:PlOk p.arrays P) h c hu hx=>vz p hok l hll hrl z4 hspot P hP lx h c hu hx
 simp only [Prog.av] at hao
 by_cases hbad:line<1∨64<line
 ·have hnl:¬(1≤line∧line≤64):=by omega
  by_cases hb:line<1
  all_goals by_cases hb2:64<line
  all_goals first | (exfalso; omega) | skip
  all_goals
   simp [hb,hb2]
   refine ACalls.pure (hwn _ _) fun c9 hc9=>?_
   simp [bsI,aw,hz]
   refine ACalls.pure (her _ _) fun c10 hc10=>?_
   simp [hz,b6]
   refine ACalls.pure (hpf P) fun c11 hc11=>?_
   by_cases hpz:aL p.arrays P=0
   ·simp [hz,hpz,b6]
    refine ACalls.at (hao (gz hpz) h6 c11 (hu6.n.fr hnr (Fr.le (by omega))) fun k hk=>by have:=hnr k hk; omega) fun c12 hc12=>?_
    simp [b6]
    refine ACalls.pure (hcc P) fun c13 hc13=>?_
    simp [hz,hpz,hnl]
    refine ACalls.pure (cT []) fun c14 hc14=>?_
    simp [hadr]
    refine ACalls.pure (cJ ((eW p.arrays 0 l).map fun a=>eK p.arrays P a.2.2)) fun c15 hc15=>?_
    simp
    refine ACalls.pure jm fun c16 hc16=>?_
    simp
    exact aC k6
   ·simp [hz,hpz,b6]
    refine ACalls.pure (hcc P) fun c13 hc13=>?_
    simp [hz,hpz,hnl]
    refine ACalls.pure (cT []) fun c14 hc14=>?_
    simp
    refine ACalls.pure (cJ []) fun c15 hc15=>?_
    simp
    refine ACalls.pure jm fun c16 hc16=>?_
    simp
    exact aC k6
 ·have hnm:aW (cU line p.arrays)=cU line p.arrays:=by
   obtain ⟨L,e1,e2⟩:=fR line p.arrays
   rw [e1]; exact kS L
  have hl1:1≤line:=by omega
  have hl2:line≤64:=by omega
  have hb:¬line<1:=by omega
  have hb2:¬64<line:=by omega
  simp [hb,hb2]
  refine ACalls.pure (hwn _ _) fun c9 hc9=>?_
  simp [bsI,aw,hz]
  refine ACalls.pure (her _ _) fun c10 hc10=>?_
  simp [hz,b6]
  refine (hpk line hl1 hl2 h6 c10).mono ?_
  rintro av ⟨h7,c11⟩ hc11 ⟨rfl,hF7⟩
  simp only at hc11 hF7
  have b7:=(hF7.h c2 (by omega)).trans b6
  have k7:∀ k,k<c0→h7 k=h0 k:=fun k hk=>(hF7.h k (by omega)).trans (k6 k hk)
  have hu7:UsesAt h7 c11 p.arrays lx l:=by
   refine hu6.frame (by omega) fun k hk=>hF7.h k ?_
   rcases hk with hk | ⟨hk,_⟩
   ·have:=hlx k hk; omega
   ·omega
  simp [hz,b7]
  refine ACalls.pure (hpf P) fun c12 hc12=>?_
  by_cases hpz:aL p.arrays P=0
  ·simp [hz,hpz,b7]
   refine ACalls.at (hao (gz hpz) h7 c12 (hu7.n.fr (fun k hk=>by have:=hnr k hk; omega) (Fr.le (by omega))) fun k hk=>by have:=hnr k hk; omega) fun c13 hc13=>?_
   simp [b7]
   refine ACalls.pure (hcc P) fun c14 hc14=>?_
   simp [hz,hpz,hl1,hl2]
   rw [hnm]
   refine ACalls.pure (fW line p.arrays) fun c15 hc15=>?_
   simp [hadr]
   refine ACalls.pure (cJ ((eW p.arrays 0 l).map fun a=>eK p.arrays P a.2.2)) fun c16 hc16=>?_
   simp
   refine ACalls.pure jm fun c17 hc17=>?_
   simp
   exact aC k7
  ·simp [hz,hpz,b7]
   refine ACalls.pure (hcc P) fun c14 hc14=>?_
   simp [hz,hpz,hl1,hl2]
   rw [hnm]
   refine ACalls.pure (fW line p.arrays) fun c15 hc15=>?_
   simp
   refine ACalls.pure (cJ []) fun c16 hc16=>?_
   simp
   refine ACalls.pure jm fun c17 hc17=>?_
   simp
   exact aC k7
end Go.Proofs.YtjhogglgkjcacaaGreat

namespace Go.Proofs.YtjhogglgkjcacaaGreat.fnPlacesKnown
open Go.ChangeShapes Go.WideShapes Go.ChangeAt Go.RowKit
theorem own:ownKnob Tryz.prog.godebug=none:=by kernel_rfl
theorem vW:laidOutB Tryz.prog=true:=by kernel_rfl
theorem wB:Tryz.prog.cellsOf 3=1:=by kernel_rfl
theorem oa {H:Type} (k:IntKind):∀ l:List Int,Rows.uptoBulkAll (lits k l:List (DataW H))=l.length
 | []=>rfl
 | x::l=>by
  have ih:=oa (H:=H) k l
  unfold lits at ih ⊢
  simp only [List.map_cons,Rows.uptoBulkAll,Rows.uptoBulk,List.length_cons,ih]
  omega
set_option maxRecDepth 100000 in
theorem uB (H:Type) (enc:TypeId×Value→H) (W:World) (base:Nat) (args:Array Value) (ds gs:List (DataW H)) (before:List MemPlace)
  (hval:∀ (j:Nat) t v,Tryz.f3.params[j]?=some t→args[j]?=some v→Value.okWide Tryz.prog W .any base t v)
  (hW:DataW.Whole enc Tryz.prog Tryz.f3.params.toList Rows.placesKnownSpec.vars false W args.toList ds gs before) (hk:Rows.uptoSmall H (ds++gs)=true) :
  Calls Tryz.prog 3 args W fun e W'=>∃ v,e=.returned v∧Rows.placesKnownSpec.post enc Tryz.prog Tryz.f3 false true false false W args v W':=by
 have hW':=hW
 obtain ⟨p,q,hA0,hV,rfl,hfz,hnd⟩:=hW
 have hA:DataW.TrodAll enc Tryz.prog W 0 (fun _=>true) true Tryz.f3.params.toList args.toList ds p:=hA0
 rw [Tryz.params3] at hA hval
 obtain ⟨v0,vs0,d0,ds0,p0,q0,hargs,rfl,rfl,h0,r0⟩:=trodAll_cons hA
 obtain ⟨rfl,rfl,rfl⟩:=trodAll_nil r0
 obtain rfl:args=#[v0]:=by
  clear hk hW' hA0 hA hval hfz hnd h0
  cases args; simp_all
 obtain ⟨rfl,rfl⟩:=trodVars_none hV
 obtain ⟨a0,len,cap,rfl⟩:=okWide_slice Tryz.underlying22 (hval 0 22 v0 rfl rfl)
 have h0k:=h0
 obtain ⟨fuel0,hf⟩:=h0
 clear hA0
 simp only [List.append_nil] at hW' hk
 have hlt:∀ x∈p0,x.block<W.heap.size:=fun x hx=>by simpa using hW'.lt x hx
 have hwalk:Calls Tryz.prog 3 #[.slice a0 len cap] W fun e W'=>e=.returned (.bool true)∧Below W.heap.size W W':=by
  rcases open_ints Tryz.underlying22 Tryz.underlying3 wB hf with ⟨hcs,hx⟩ | ⟨a,len',cap',zs,hcs,_,hl,hm,hz,hx,hcell,hwz⟩
  ·simp [Value.cells] at hcs
   obtain ⟨rfl,rfl,rfl⟩:=hcs
   exact sy 3 Tryz.call3 sd W none 0 0 [] (Nat.le_refl _) rfl (by omega) (.inl rfl)
  ·simp [Value.cells] at hcs
   obtain ⟨rfl,rfl,rfl⟩:=hcs
   simp only [Prod.mk.injEq] at hx
   obtain ⟨rfl,rfl⟩:=hx
   simp only [if_true] at hz
   have hb:len≤1048576:=by
    have h:=of_decide_eq_true hk
    simp only [Rows.uptoBulkAll,Rows.uptoBulk,oa,List.length_take,List.length_drop] at h
    omega
   have hzl:(zs.take len).length=len:=by rw [List.length_take]; omega
   refine sy 3 Tryz.call3 sd W (some a) len cap (zs.take len) hl hzl hb ?_
   by_cases hl0:len=0
   ·exact .inl hl0
   ·obtain ⟨b,off,rfl,hc⟩:=ints_at hcell (by omega)
    refine .inr ⟨b,off,rfl,fun j hj=>?_⟩
    rw [hc j (by omega)]
    congr 2
    rw [List.getD_eq_getElem?_getD,List.getD_eq_getElem?_getD,List.getElem?_take_of_lt hj]
 refine hwalk.mono fun e W' ⟨he,hbel⟩=>?_
 subst he
 refine ⟨_,rfl,[d0],[],p0,[],p0,[],hW',?_,?_,?_,hbel.frame _,fun h=>by cases h⟩
 ·exact trodAll_cons_mk (shut_bool Tryz.underlying4 _) trodAll_mk0
 ·have h1:=Below.trod (enc:=enc) vW (by kernel_rfl) (of_decide_eq_true (by kernel_rfl)) h0k hbel hlt
  have h2:=trodAll_cons_mk h1 (trodAll_mk0 (enc:=enc))
  rw [List.append_nil] at h2
  exact h2
 ·exact rfl
set_option maxRecDepth 100000 in
theorem wG (os:Os) (started:os.Started) (H:Type) (enc:TypeId×Value→H) (F:Stop.Interp) :
  ReturnsInHanded {} Tryz.checked os 3 .any ((Rows.OpenSpec.upto Rows.placesKnownSpec).pre6 enc Tryz.prog Tryz.f3 Rows.placesKnownUptoRow.domain false) (((Rows.OpenSpec.upto Rows.placesKnownSpec).at F).post enc Tryz.prog Tryz.f3 false true false false):=by
 refine returnsInHanded_of_cond (C:=Tryz.checked) (s:=Rows.OpenSpec.upto Rows.placesKnownSpec) (k:=Rows.uptoSmall) rfl own started (by kernel_rfl) Tryz.func3
  (OpenSpec.witness (enc:=enc) (C:=Tryz.checked) (s:=Rows.OpenSpec.upto Rows.placesKnownSpec) (k:=Rows.uptoSmall) rfl false ⟨#[],#[.slice none 0 0],[]⟩ 8 (by kernel_rfl) (by kernel_rfl) (by kernel_rfl)
   (x:=([.nil],[],[])) (by kernel_rfl) rfl (by kernel_rfl)) ?_
 intro W base args ds gs before hval hW _ hk _
 exact uB H enc W base args ds gs before hval hW hk
set_option maxHeartbeats 0 in
theorem closedFacts:joinedFacts Tryz.prog 3 Tryz.f3 (Rows.OpenSpec.upto Rows.placesKnownSpec).bare Rows.placesKnownUptoRow=true:=by
 unfold joinedFacts
 simp only [Bool.and_eq_true]
 (repeat' apply And.intro) <;> as_aux_lemma=>kernel_rfl
theorem proved:Rows.PlacesKnownUptoSaid:=
 OpenClaim.holds_of_cond 3 Tryz.f3 rfl rfl rfl rfl rfl rfl rfl ⟨rfl,rfl,rfl,rfl,rfl⟩ rfl rfl rfl rfl rfl (by kernel_rfl) Tryz.func3 closedFacts
  (of_decide_eq_true (by kernel_rfl)) (by unfold Func.isWrapper; first | (rw [if_pos (by decide +kernel)]; kernel_rfl) | (rw [if_neg (by decide +kernel)]; exact ⟨rfl,rfl⟩))
  (fun os started H enc _ F=>wG os started H enc F)
end Go.Proofs.YtjhogglgkjcacaaGreat.fnPlacesKnown

