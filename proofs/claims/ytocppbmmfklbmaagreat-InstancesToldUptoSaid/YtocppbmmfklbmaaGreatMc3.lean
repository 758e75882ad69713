/- Part of the claim: see its last text. -/
import Derived.Test.YtocppbmmfklbmaaGreatMc2
set_option linter.all false
set_option maxRecDepth 20000
set_option maxHeartbeats 4000000
namespace Go.Proofs.YtocppbmmfklbmaaGreat
open Go.AM Go.Wb
def instCells (i:Inst):List AV:=[.str (Step.name i.step),row (ak (i.env.map (·.2)))]
theorem jM (i:Inst):aQ (instCells i)=instCells i:=by simp [instCells,aQ]
theorem e7 {α β:Type} (f:α→β) {l:List α} {i:Nat} (hi:i<l.length):(l.take (i+1)).map f=(l.take i).map f++[f l[i]]:=by
 rw [List.take_add_one,List.getElem?_eq_getElem hi,List.map_append]; rfl
theorem uM (A:List Wb.Array) (l:List Inst) (hl:l.length≤1000000) (x:AV) (h0:Heap) (c0:Nat) (hu:UsesN h0 c0 A x l) (hx:∀ k,aq x k→k<c0) :
  ACalls Pg Fn25.n [x] ⟨h0,c0⟩ fun av s'=>av=row (l.map instCells)∧s'.h=h0:=by
 refine Fn25.calls .frz ?_
 unfold Fn25.ac
 have hlen:=hu.len
 simp [hlen]
 obtain ⟨Inv,hInv⟩:∃ Inv:Nat→List Inst→Slots→St→Prop,Inv=fun i r sl s'=>∃ g,sl 3=.row g 2 0 i∧c0≤g∧g<s'.c∧s'.h g=some (.row 2 ((l.take i).map instCells) .live none)∧Fr c0 h0 s'.h s'.c:=⟨_,rfl⟩
 refine bq 8 Fn25.W0 l Inv (by rfl) (by rfl) ?_ ?_ ?_
 ·rw [hInv]
  exact ⟨by simp,c0,by simp,Nat.le_refl _,Nat.lt_succ_self _,by simp,(Fr.refl h0 c0).upd (Nat.le_refl _) (Nat.le_succ _)⟩
 ·intro v s' hv hI
  rw [hInv] at hI
  obtain ⟨g,h3,i1,i2,i3,i4⟩:=hI
  simp at h3
  simp at i3
  simp [hv,h3,i3]
  rw [←List.length_map (f:=instCells),List.take_length]
  exact ⟨b8 jM l,(i4.upd i1 (Nat.le_refl _)).retH⟩
 ·intro i y ys v s' hi hy hl2 hv hI
  rw [hInv] at hI
  obtain ⟨g,h3,i1,i2,i3,i4⟩:=hI
  obtain ⟨h,c⟩:=s'
  simp at h3
  simp only at i2 i3 i4
  obtain ⟨es,gl,ge,e1,e2,e3⟩:=hu.at hi
  have hgl:=hx gl (by rw [e1]; exact an.2 rfl)
  have hw:=ae (x:=(i:Int)+1) (by omega) (by omega)
  have e2':=(i4.h gl hgl).trans e2
  rw [hy] at e3
  obtain ⟨inum,⟨ik,inm,ilo,ihi,ico,ibo,iar,isu,⟨xo,xn,xf,xa,xs',xg⟩⟩,ien,iwa⟩:=y
  rw [dx,Step.cells_mk] at e3
  have hne:¬g=c:=by omega
  have hap:=fun h' (hg':h' g=some (.row 2 ((l.take i).map instCells) .live none)) c'=>bS (sz:=2) (bytes:=40) (md:=.plain) (x:=[.str inm,row (ak (ien.map (·.2)))]) (b:=true) (s:=⟨h',c'⟩) (len:=i) (by simp) hg' (by simp; omega) (by decide) (by decide) (by decide) rfl (by omega)
  have hgx:∀ b,upd h c b g=_:=fun b=>(ad hne).trans i3
  simp [hv,hi,e1,e2',e3,h3,hw,bsI,az,Step.name,hap _ (hgx _)]
  rw [hInv]
  refine ⟨c+1,by simp,by show c0≤c+1; have:=i4.c; omega,by show c+1<c+1+1; omega,?_,?_⟩
  ·rw [e7 _ hi,hy]; simp [instCells,Step.name]
  ·exact ((i4.upd i4.c (Nat.le_succ _)).upd i1 (Nat.le_refl _)).upd (by have:=i4.c; omega) (Nat.le_succ _)
theorem rN (A:List Wb.Array) {l:List Inst} {i:Nat} (hi:i<l.length):ca A 0 (l.take (i+1))=ca A 0 (l.take i)++fB A i l[i]:=by
 rw [List.take_add_one,List.getElem?_eq_getElem hi,Option.toList_some,jw]
 simp [ca,Nat.min_eq_left (Nat.le_of_lt hi)]
theorem nR (A:List Wb.Array):∀ (k:Nat) (l:List Inst),∀ e∈ca A k l,aQ e=e∧aC 4 e=true
 | k,[],e,h=>by simp [ca] at h
 | k,x::xs,e,h=>by
  simp only [ca,fB,List.mem_append,List.mem_map,List.mem_singleton] at h
  rcases h with (⟨s,_,rfl⟩ | rfl) | h
  ·exact ⟨rfl,rfl⟩
  ·exact ⟨rfl,rfl⟩
  ·exact nR A (k+1) xs e h
theorem mz:∀ {es:List (List AV)},(∀ e∈es,aQ e=e)→aX es=es
 | [],_=>rfl
 | e::es,h=>by simp only [aX]; rw [h e List.mem_cons_self,mz fun x hx=>h x (List.mem_cons_of_mem _ hx)]
theorem uN (A:List Wb.Array) (l:List Inst) (hl:l.length≤1000000) (hr:∀ i∈l,(i.reads A).length≤4096) (x:AV) (h0:Heap) (c0:Nat) (hu:UsesN h0 c0 A x l) (hx:∀ k,aq x k→k<c0) :
  ACalls Pg Fn26.n [x] ⟨h0,c0⟩ fun av s'=>av=row (ca A 0 l)∧s'.h=h0:=by
 refine Fn26.calls .frz ?_
 unfold Fn26.ac
 have hlen:=hu.len
 simp [hlen]
 obtain ⟨Inv,hInv⟩:∃ Inv:Nat→List Inst→Slots→St→Prop,Inv=fun i r sl s'=>∃ g es,sl 3=.row g 4 0 es.length∧c0≤g∧g<s'.c∧s'.h g=some (.row 4 es .live none)∧es=ca A 0 (l.take i)∧es.length≤4097*i∧Fr c0 h0 s'.h s'.c:=⟨_,rfl⟩
 refine bq 10 Fn26.W0 l Inv (by rfl) (by rfl) ?_ ?_ ?_
 ·rw [hInv]
  exact ⟨by simp,c0,[],by simp,Nat.le_refl _,Nat.lt_succ_self _,by simp,by simp [ca],by simp,(Fr.refl h0 c0).upd (Nat.le_refl _) (Nat.le_succ _)⟩
 ·intro v s' hv hI
  rw [hInv,List.take_length] at hI
  obtain ⟨g,es,h3,i1,i2,i3,i4,_,i5⟩:=hI
  simp at h3
  simp [hv,h3,i3]
  exact ⟨by rw [i4]; exact mz fun e he=>(nR A 0 l e he).1,(i5.upd i1 (Nat.le_refl _)).retH⟩
 ·intro i y ys v s' hi hy hl2 hv hI
  rw [hInv] at hI
  obtain ⟨g,es,h3,i1,i2,i3,i4,i6,i5⟩:=hI
  obtain ⟨h,c⟩:=s'
  simp at h3
  simp only at i2 i3 i5
  obtain ⟨us,gl,ge,e1,e2,e3⟩:=hu.at hi
  have hgl:=hx gl (by rw [e1]; exact an.2 rfl)
  have hw:=ae (x:=(i:Int)+1) (by omega) (by omega)
  have e2':=(i5.h gl hgl).trans e2
  have hrl:=hr _ (List.getElem_mem hi)
  have hsu:=rN A hi
  rw [hy] at e3 hrl hsu
  obtain ⟨S,hS⟩:∃ S,S=y.sets A:=⟨_,rfl⟩
  obtain ⟨Rs,hRs⟩:∃ Rs,Rs=y.reads A:=⟨_,rfl⟩
  have hacc:fB A i y=Rs.map (br i false)++[br i true S]:=by rw [hS,hRs]; rfl
  rw [←hRs] at hrl
  obtain ⟨inum,⟨ik,inm,ilo,ihi,ico,ibo,iar,isu,⟨xo,xn,xf,xa,xs',xg⟩⟩,ien,iwa⟩:=y
  rw [dx,Step.cells_mk,←hS,←hRs] at e3
  obtain ⟨h1,hh1⟩:∃ h1,h1=upd h c (some (.row 22 [[.str inm,row (ak (ien.map (·.2))),.int ik,.str inm,row (ilo.map Bound.cells),row (ihi.map Bound.cells),row (ico.map Form.cells),row (ibo.map Step.cells),.str iar,row (isu.map Form.cells),.int xo,.int xn,.int xf.const,row (xf.terms.map Term.cells),.str xa,row (xs'.map Form.cells),row (xg.map Expr.cells),.map ge,row (Rs.map Spot.cells),.str S.array,.int S.cell,row (ak iwa)]] .live none)):=⟨_,rfl⟩
  have hF1:Fr c0 h0 h1 (c+1):=by rw [hh1]; exact i5.upd i5.c (Nat.le_succ _)
  have hg1:h1 g=some (.row 4 es .live none):=by rw [hh1,ad (by omega)]; exact i3
  have hb1:h1 c=_:=(congrFun hh1 c).trans ah
  simp [hv,hi,e1,e2',e3,Step.name]
  rw [←hh1]
  obtain ⟨Inv2,hInv2⟩:∃ Inv:Nat→List Wb.Spot→Slots→St→Prop,Inv=fun j r sl s'=>∃ g,sl 3=.row g 4 0 (es.length+j)∧c0≤g∧g≠c∧g<s'.c∧s'.h g=some (.row 4 (es++(Rs.take j).map (br i false)) .live none)∧Fr c0 h0 s'.h s'.c∧s'.h c=h1 c∧c+1≤s'.c:=⟨_,rfl⟩
  refine bq 18 Fn26.W1 Rs Inv2 (by rfl) (by rfl) ?_ ?_ ?_
  ·rw [hInv2]
   exact ⟨by simp,g,by simp [h3],i1,by omega,by show g<c+1; omega,by simpa using hg1,hF1,rfl,Nat.le_refl _⟩
  ·intro v2 s2 hv2 hI2
   rw [hInv2,List.take_length] at hI2
   obtain ⟨g2,q3,j1,j2,j3,j4,j5,j6,j7⟩:=hI2
   obtain ⟨h2,c2⟩:=s2
   simp at q3
   simp only at j3 j4 j5 j6 j7
   rw [hb1] at j6
   have hap:=bS (sz:=4) (bytes:=40) (md:=.plain) (x:=br i true S) (b:=true) (s:=⟨h2,c2⟩) (len:=es.length+Rs.length) (by simp) j4 (by simp) (by decide) (by decide) (by decide) rfl (by omega)
   unfold br at hap
   simp [hv2,q3,j6,bsI,az,aJ,hap,hv,hw]
   rw [hInv]
   have hes:(es++Rs.map (br i false)++[br i true S]).length=es.length+Rs.length+1:=by simp; omega
   refine ⟨c2,es++Rs.map (br i false)++[br i true S],by rw [hes]; simp,j5.c,by show c2<c2+1; omega,by simp [br],by rw [hsu,hacc,←i4,List.append_assoc],by rw [hes]; omega,?_⟩
   exact (j5.upd (b:=none) j1 (Nat.le_refl _)).upd j5.c (Nat.le_succ _)
  ·intro j s ss v2 s2 hj hs hl3 hv2 hI2
   rw [hInv2] at hI2
   obtain ⟨g2,q3,j1,j2,j3,j4,j5,j6,j7⟩:=hI2
   obtain ⟨h2,c2⟩:=s2
   simp at q3
   simp only at j3 j4 j5 j6 j7
   have hw2:=ae (x:=(j:Int)+1) (by omega) (by omega)
   have hsj:(Rs.map Spot.cells)[j]?=some (Spot.cells s):=by simp [hj,hs]
   have hap:=fun (h':Heap) (hg':h' g2=some (.row 4 (es++(Rs.take j).map (br i false)) .live none)) c'=>bS (sz:=4) (bytes:=40) (md:=.plain) (x:=br i false s) (b:=true) (s:=⟨h',c'⟩) (len:=es.length+j) (es:=es++(Rs.take j).map (br i false)) (g:=g2) (by simp) hg' (by simp; omega) (by decide) (by decide) (by decide) rfl (by omega)
   unfold br at hap
   have hgx:∀ b,upd h2 c2 b g2=_:=fun b=>(ad (by omega)).trans j4
   simp [hv2,hj,hs,q3,bsI,az,aJ,Spot.cells,hap _ (hgx _),hw2]
   rw [hInv2]
   refine ⟨c2+1,by simp; omega,by have:=j5.c; omega,by omega,by show c2+1<c2+1+1; omega,?_,((j5.upd j5.c (Nat.le_succ _)).upd j1 (Nat.le_refl _)).upd (by have:=j5.c; omega) (Nat.le_succ _),?_,by show c+1≤c2+1+1; omega⟩
   ·rw [e7 _ hj,hs,←List.append_assoc]; show upd _ (c2+1) _ (c2+1)=_; rw [ah,List.map_take,List.append_assoc]; rfl
   ·show upd (upd (upd h2 c2 _) g2 _) (c2+1) _ c=_
    rw [ad (by omega),ad (Ne.symm j2),ad (by omega)]; exact j6
def gY (A:List Wb.Array):Nat→List Inst→Wb.Spot→Int→Int
 | _,[],_,r=>r
 | k,x::xs,s,r=>gY A (k+1) xs s (if x.sets A=s then k else r)
theorem kM (A:List Wb.Array):∀ (k:Nat) (a b:List Inst) (s:Wb.Spot) (r:Int),gY A k (a++b) s r=gY A (k+a.length) b s (gY A k a s r)
 | k,[],b,s,r=>rfl
 | k,x::a,b,s,r=>by
  simp only [List.cons_append,gY,kM A (k+1) a b,List.length_cons]
  rw [show k+1+a.length=k+(a.length+1) by omega]
def cy (A:List Wb.Array) (l:List Inst) (s:Wb.Spot):Int:=gY A 0 l s (-1)
theorem qA (A:List Wb.Array) {l:List Inst} {i:Nat} (hi:i<l.length) (s:Wb.Spot):cy A (l.take (i+1)) s=if l[i].sets A=s then (i:Int) else cy A (l.take i) s:=by
 unfold cy
 rw [List.take_add_one,List.getElem?_eq_getElem hi,Option.toList_some,kM]
 simp [gY,Nat.min_eq_left (Nat.le_of_lt hi)]
theorem uZ (A:List Wb.Array) (l:List Inst) (hl:l.length≤1000000) (x:AV) (before:Nat) (hb:before≤l.length) (sp:Wb.Spot) (h0:Heap) (c0:Nat) (hu:UsesN h0 c0 A x l) (hx:∀ k,aq x k→k<c0) :
  ACalls Pg Fn66.n [x,.int before,.agg sp.cells] ⟨h0,c0⟩ fun av s'=>av=.int (cy A (l.take before) sp)∧s'.h=h0:=by
 refine Fn66.calls .frz ?_
 unfold Fn66.ac
 have hw:=ae (x:=(before:Int)-1) (by omega) (by omega)
 obtain ⟨h1,hh1⟩:∃ h1,h1=upd h0 c0 (some (.row 2 [sp.cells] .live none)):=⟨_,rfl⟩
 have hF1:Fr c0 h0 h1 (c0+1):=by rw [hh1]; exact (Fr.refl _ _).upd (Nat.le_refl _) (Nat.le_succ _)
 have hb1:h1 c0=_:=(congrFun hh1 c0).trans ah
 simp [hw,Spot.cells] at hh1 hb1 ⊢
 rw [←hh1]
 obtain ⟨Inv,hInv⟩:∃ Inv:Nat→Slots→St→Prop,Inv=fun n sl s'=>n≤before∧sl 7=.int ((n:Int)-1)∧cy A (l.take before) sp=cy A (l.take n) sp∧Fr (c0+1) h1 s'.h s'.c:=⟨_,rfl⟩
 refine cH Fn66.W0 (by rfl) Inv before ?_ ?_
 ·rw [hInv]; exact ⟨Nat.le_refl _,by simp,rfl,Fr.refl _ _⟩
 ·intro n v s' hI
  rw [hInv] at hI
  obtain ⟨i0,i1,i2,i3⟩:=hI
  obtain ⟨h,c⟩:=s'
  simp at i1
  simp only at i3
  match n,i0,i1,i2 with
  | 0,i0,i1,i2=>
   simp [i1]
   exact ⟨by rw [i2]; simp [cy,gY],(hF1.trans i3).retH⟩
  | n+1,i0,i1,i2=>
   have hi:n<l.length:=by omega
   have hw2:=ae (x:=(n:Int)-1) (by omega) (by omega)
   have hc:((n+1:Nat):Int)-1=n:=by omega
   rw [hc] at i1
   obtain ⟨us,gl,ge,e1,e2,e3⟩:=hu.at hi
   have hgl:=hx gl (by rw [e1]; exact an.2 rfl)
   have e2':=((hF1.trans i3).h gl hgl).trans e2
   have hb2:=(i3.h c0 (by omega)).trans hb1
   rw [qA A hi] at i2
   obtain ⟨y,hy⟩:∃ y,y=l[n]:=⟨_,rfl⟩
   rw [←hy] at e3 i2
   obtain ⟨S,hS⟩:∃ S,S=y.sets A:=⟨_,rfl⟩
   rw [←hS] at i2
   obtain ⟨inum,⟨ik,inm,ilo,ihi,ico,ibo,iar,isu,⟨xo,xn,xf,xa,xs',xg⟩⟩,ien,iwa⟩:=y
   rw [dx,Step.cells_mk,←hS] at e3
   have hse:S=sp↔S.array=sp.array∧S.cell=sp.cell:=by cases S; cases sp; simp
   by_cases hq:S=sp
   ·have q:=hse.1 hq
    rw [if_pos hq] at i2
    simp [i1,hi,e1,e2',e3,hb2,bT,eA,q.1,q.2]
    exact ⟨i2.symm,(hF1.trans i3).retH⟩
   ·have hbq:(decide (S.array=sp.array)&&S.cell==sp.cell)=false:=by
     rw [Bool.eq_false_iff]
     intro e
     simp at e
     exact hq (hse.2 e)
    rw [if_neg hq] at i2
    simp [i1,hi,e1,e2',e3,hb2,bT,eA,hbq,hw2]
    refine ⟨n,Nat.lt_succ_self _,?_⟩
    rw [hInv]
    exact ⟨by omega,by simp,i2,i3⟩
def dh (A:List Wb.Array):List Inst→List Inst→List Int
 | _,[]=>[]
 | d,x::xs=>(x.reads A).map (cy A d)++[-1]++dh A (d++[x]) xs
theorem qg (A:List Wb.Array):∀ (d a b:List Inst),dh A d (a++b)=dh A d a++dh A (d++a) b
 | d,[],b=>by simp [dh]
 | d,x::a,b=>by simp [dh,qg A (d++[x]) a b]
theorem sM (A:List Wb.Array) {l:List Inst} {i:Nat} (hi:i<l.length):dh A [] (l.take (i+1))=dh A [] (l.take i)++((l[i].reads A).map (cy A (l.take i))++[-1]):=by
 rw [List.take_add_one,List.getElem?_eq_getElem hi,Option.toList_some,qg]
 simp [dh]
theorem uO (A:List Wb.Array) (l:List Inst) (hl:l.length≤1000000) (hr:∀ i∈l,(i.reads A).length≤4096) (x:AV) (h0:Heap) (c0:Nat) (hu:UsesN h0 c0 A x l) (hx:∀ k,aq x k→k<c0) :
  ACalls Pg Fn27.n [x] ⟨h0,c0⟩ fun av s'=>av=row (ak (dh A [] l))∧s'.h=h0:=by
 refine Fn27.calls .frz ?_
 unfold Fn27.ac
 have hlen:=hu.len
 simp [hlen]
 obtain ⟨Inv,hInv⟩:∃ Inv:Nat→List Inst→Slots→St→Prop,Inv=fun i r sl s'=>∃ g es,sl 3=.row g 1 0 es.length∧c0≤g∧g<s'.c∧s'.h g=some (.row 1 es .live none)∧es=ak (dh A [] (l.take i))∧es.length≤4097*i∧Fr c0 h0 s'.h s'.c:=⟨_,rfl⟩
 refine bq 10 Fn27.W0 l Inv (by rfl) (by rfl) ?_ ?_ ?_
 ·rw [hInv]
  exact ⟨by simp,c0,[],by simp,Nat.le_refl _,Nat.lt_succ_self _,by simp,by simp [dh,ak],by simp,(Fr.refl h0 c0).upd (Nat.le_refl _) (Nat.le_succ _)⟩
 ·intro v s' hv hI
  rw [hInv,List.take_length] at hI
  obtain ⟨g,es,h3,i1,i2,i3,i4,_,i5⟩:=hI
  simp at h3
  simp [hv,h3,i3]
  exact ⟨by rw [i4]; exact rz _,(i5.upd i1 (Nat.le_refl _)).retH⟩
 ·intro i y ys v s' hi hy hl2 hv hI
  rw [hInv] at hI
  obtain ⟨g,es,h3,i1,i2,i3,i4,i6,i5⟩:=hI
  obtain ⟨h,c⟩:=s'
  simp at h3
  simp only at i2 i3 i5
  obtain ⟨us,gl,ge,e1,e2,e3⟩:=hu.at hi
  have hgl:=hx gl (by rw [e1]; exact an.2 rfl)
  have hw:=ae (x:=(i:Int)+1) (by omega) (by omega)
  have e2':=(i5.h gl hgl).trans e2
  have hrl:=hr _ (List.getElem_mem hi)
  have hsu:=congrArg ak (sM A hi)
  rw [hy] at e3 hrl hsu
  obtain ⟨S,hS⟩:∃ S,S=y.sets A:=⟨_,rfl⟩
  obtain ⟨Rs,hRs⟩:∃ Rs,Rs=y.reads A:=⟨_,rfl⟩
  obtain ⟨fs,hfs⟩:∃ fs:Wb.Spot→List AV,fs=fun s=>[.int (cy A (l.take i) s)]:=⟨_,rfl⟩
  have hsu2:ak (dh A [] (l.take (i+1)))=ak (dh A [] (l.take i))++(Rs.map fs++[[AV.int (-1)]]):=by rw [hsu,hfs,hRs]; simp [ak]
  rw [←hRs] at hrl
  obtain ⟨inum,⟨ik,inm,ilo,ihi,ico,ibo,iar,isu,⟨xo,xn,xf,xa,xs',xg⟩⟩,ien,iwa⟩:=y
  rw [dx,Step.cells_mk,←hS,←hRs] at e3
  obtain ⟨h1,hh1⟩:∃ h1,h1=upd h c (some (.row 22 [[.str inm,row (ak (ien.map (·.2))),.int ik,.str inm,row (ilo.map Bound.cells),row (ihi.map Bound.cells),row (ico.map Form.cells),row (ibo.map Step.cells),.str iar,row (isu.map Form.cells),.int xo,.int xn,.int xf.const,row (xf.terms.map Term.cells),.str xa,row (xs'.map Form.cells),row (xg.map Expr.cells),.map ge,row (Rs.map Spot.cells),.str S.array,.int S.cell,row (ak iwa)]] .live none)):=⟨_,rfl⟩
  have hF1:Fr c0 h0 h1 (c+1):=by rw [hh1]; exact i5.upd i5.c (Nat.le_succ _)
  have hg1:h1 g=some (.row 1 es .live none):=by rw [hh1,ad (by omega)]; exact i3
  have hb1:h1 c=_:=(congrFun hh1 c).trans ah
  simp [hv,hi,e1,e2',e3,Step.name]
  rw [←hh1]
  obtain ⟨Inv2,hInv2⟩:∃ Inv:Nat→List Wb.Spot→Slots→St→Prop,Inv=fun j r sl s'=>∃ g,sl 3=.row g 1 0 (es.length+j)∧c0≤g∧g≠c∧g<s'.c∧s'.h g=some (.row 1 (es++(Rs.take j).map fs) .live none)∧Fr c0 h0 s'.h s'.c∧s'.h c=h1 c∧c+1≤s'.c:=⟨_,rfl⟩
  refine bq 18 Fn27.W1 Rs Inv2 (by rfl) (by rfl) ?_ ?_ ?_
  ·rw [hInv2]
   exact ⟨by simp,g,by simp [h3],i1,by omega,by show g<c+1; omega,by simpa using hg1,hF1,rfl,Nat.le_refl _⟩
  ·intro v2 s2 hv2 hI2
   rw [hInv2,List.take_length] at hI2
   obtain ⟨g2,q3,j1,j2,j3,j4,j5,j6,j7⟩:=hI2
   obtain ⟨h2,c2⟩:=s2
   simp at q3
   simp only at j3 j4 j5 j6 j7
   rw [hb1] at j6
   have hap:=bS (sz:=1) (bytes:=8) (md:=.plain) (x:=[.int (-1)]) (b:=true) (s:=⟨h2,c2⟩) (len:=es.length+Rs.length) (by simp) j4 (by simp) (by decide) (by decide) (by decide) rfl (by omega)
   simp [hv2,q3,j6,bsI,az,aJ,hap,hv,hw]
   rw [hInv]
   have hes:(es++Rs.map fs++[[AV.int (-1)]]).length=es.length+Rs.length+1:=by simp; omega
   refine ⟨c2,es++Rs.map fs++[[AV.int (-1)]],by rw [hes]; simp,j5.c,by show c2<c2+1; omega,by simp,by rw [hsu2,←i4,List.append_assoc],by rw [hes]; omega,?_⟩
   exact (j5.upd (b:=none) j1 (Nat.le_refl _)).upd j5.c (Nat.le_succ _)
  ·intro j s ss v2 s2 hj hs hl3 hv2 hI2
   rw [hInv2] at hI2
   obtain ⟨g2,q3,j1,j2,j3,j4,j5,j6,j7⟩:=hI2
   obtain ⟨h2,c2⟩:=s2
   simp at q3
   simp only at j3 j4 j5 j6 j7
   have hw2:=ae (x:=(j:Int)+1) (by omega) (by omega)
   have hsj:(Rs.map Spot.cells)[j]?=some (Spot.cells s):=by simp [hj,hs]
   have hap:=fun (h':Heap) (hg':h' g2=some (.row 1 (es++(Rs.take j).map fs) .live none)) c'=>bS (sz:=1) (bytes:=8) (md:=.plain) (x:=fs s) (b:=true) (s:=⟨h',c'⟩) (len:=es.length+j) (es:=es++(Rs.take j).map fs) (g:=g2) (by simp) hg' (by simp; omega) (by decide) (by decide) (by decide) (by rw [hfs]; rfl) (by omega)
   have hgx:∀ b,upd h2 c2 b g2=_:=fun b=>(ad (by omega)).trans j4
   have hls:=uZ A l hl x i (by omega) s
   rw [e1,Spot.cells] at hls
   simp [hv2,hj,hs,q3,bsI,az,aJ,Spot.cells,hv,e1]
   have hF2:=j5.upd (b:=some (.row 2 [[.str s.array,.int s.cell]] .live none)) j5.c (Nat.le_succ c2)
   rw [e1] at hu hx
   refine ACalls.at (hls _ _ (hu.fr hx hF2) fun k hk=>by have:=hx k hk; have:=j5.c; omega) fun c3 hc3=>?_
   have h30:=j5.c
   have hgx:∀ b,upd h2 c2 b g2=_:=fun b=>(ad (by omega)).trans j4
   have hfx:fs s=[.int (cy A (l.take i) s)]:=by rw [hfs]
   simp only [hfx] at hap
   simp [bsI,az,q3,hv2,hap _ (hgx _),hw2]
   rw [hInv2]
   refine ⟨c3,by simp; omega,by omega,by omega,by show c3<c3+1; omega,?_,(hF2.upd (c':=c3) j1 hc3).upd (by omega) (Nat.le_succ _),?_,by show c+1≤c3+1; omega⟩
   ·rw [e7 _ hj,hs,←List.append_assoc]; show upd _ c3 _ c3=_; rw [ah,hfx,List.append_assoc,List.map_take]
   ·show upd (upd (upd h2 c2 _) g2 _) c3 _ c=_
    rw [ad (by omega),ad (Ne.symm j2),ad (by omega)]; exact j6
end Go.Proofs.YtocppbmmfklbmaaGreat
set_option maxRecDepth 20000
set_option maxHeartbeats 4000000
namespace Go.Proofs.YtocppbmmfklbmaaGreat
open Go.AM Go.Wb
def instErr (p:Wb.Prog):Int:=if aV p=0 then (au p).1 else aV p
theorem uI (p:Wb.Prog) (hcnt:aA p.steps≤300):aO Pg Fn21.n [p.av] (.tup [.int (if instErr p=0 then (au p).2.rounds else 0),.int (instErr p)]):=by
 rintro ⟨h0,c0⟩
 have hck:=nJ p (by omega)
 simp only [Prog.av] at hck
 refine Fn21.calls .frz ?_
 unfold Fn21.ac
 obtain ⟨hb,hhb⟩:∃ hb,hb=upd h0 c0 (some (.row 2 [[row (p.arrays.map Array.cells),row (p.steps.map Step.cells)]] .live none)):=⟨_,rfl⟩
 have hF0:Fr c0 h0 hb (c0+1):=by rw [hhb]; exact (Fr.refl _ _).upd (Nat.le_refl _) (Nat.le_succ _)
 have hbx:=(congrFun hhb c0).trans ah
 simp [Prog.av,←hhb,hbx]
 refine ACalls.pure hck fun c1 hc1=>?_
 by_cases hz:aV p=0
 case neg=>
  simp [hz,instErr]
  exact hF0.retH
 have hpl:=nK p (fh hz) hcnt hb c1
 simp only [Prog.av] at hpl
 simp [hz,hbx]
 refine hpl.mono ?_
 rintro av ⟨h2,c2⟩ hc2 ⟨hF,hq⟩
 simp only at hc2 hF hq
 have hend:retH c0 h0 h2=h0:=aE fun k hk=>(hF.h k (by omega)).trans (hF0.h k hk)
 by_cases hpz:(au p).1=0
 ·rw [if_pos hpz] at hq
  obtain ⟨go,stm,which,vals,rfl,hr⟩:=hq
  simp [hpz,hr.obj,instErr,hz]
  exact hend
 ·rw [if_neg hpz] at hq
  subst hq
  simp [hpz,instErr,hz]
  exact hend
theorem uH (p:Wb.Prog) (hcnt:aA p.steps≤300):aO Pg Fn20.n [p.av] (.tup [row (if instErr p=0 then (au p).2.l.map instCells else []),.int (instErr p)]):=by
 rintro ⟨h0,c0⟩
 have hck:=nJ p (by omega)
 simp only [Prog.av] at hck
 refine Fn20.calls .frz ?_
 unfold Fn20.ac
 obtain ⟨hb,hhb⟩:∃ hb,hb=upd h0 c0 (some (.row 2 [[row (p.arrays.map Array.cells),row (p.steps.map Step.cells)]] .live none)):=⟨_,rfl⟩
 have hF0:Fr c0 h0 hb (c0+1):=by rw [hhb]; exact (Fr.refl _ _).upd (Nat.le_refl _) (Nat.le_succ _)
 have hbx:=(congrFun hhb c0).trans ah
 simp [Prog.av,←hhb,hbx]
 refine ACalls.pure hck fun c1 hc1=>?_
 by_cases hz:aV p=0
 case neg=>
  simp [hz,instErr]
  exact hF0.retH
 have hpl:=nK p (fh hz) hcnt hb c1
 simp only [Prog.av] at hpl
 simp [hz,hbx]
 refine hpl.mono ?_
 rintro av ⟨h2,c2⟩ hc2 ⟨hF,hq⟩
 simp only at hc2 hF hq
 have hlow:∀ k,k<c0→h2 k=h0 k:=fun k hk=>(hF.h k (by omega)).trans (hF0.h k hk)
 by_cases hpz:(au p).1=0
 case neg=>
  rw [if_neg hpz] at hq
  subst hq
  simp [hpz,instErr,hz]
  exact aE hlow
 rw [if_pos hpz] at hq
 obtain ⟨go,stm,which,vals,rfl,hr⟩:=hq
 obtain ⟨l,hl⟩:∃ l,l=(au p).2.l:=⟨_,rfl⟩
 have hlen:=hr.len
 have hobj:=hr.obj
 have hin:=dL (fh hz)
 have hwl:=fun s=>hr.hwhich.len s
 have hst:=hr.hstm
 have hwh:=hr.hwhich
 have hva:=hr.hvals
 rw [←hl] at hlen hin hwl hwh hva ⊢
 have ewl:(ak (l.map fun i=>(i.num:Int))).length=l.length:=by simp [ak]
 rw [ewl] at hwl
 have hgo:=hr.goc
 have ho:∀ b,upd h2 c2 b go=_:=fun b=>(ad (by omega)).trans hobj
 simp [hpz,instErr,hz,ho,hwl]
 obtain ⟨Inv,hInv⟩:∃ Inv:Nat→List Inst→Slots→St→Prop,Inv=fun i r sl s'=>∃ g,sl 7=.row g 2 0 i∧c2≤g∧g<s'.c∧s'.h g=some (.row 2 ((l.take i).map instCells) .live none)∧Fr c2 h2 s'.h s'.c:=⟨_,rfl⟩
 refine bq 28 Fn20.W0 l Inv (by rfl) (by rfl) ?_ ?_ ?_
 ·rw [hInv]
  exact ⟨by simp,c2,by simp,Nat.le_refl _,Nat.lt_succ_self _,by simp,(Fr.refl h2 c2).upd (Nat.le_refl _) (Nat.le_succ _)⟩
 ·intro v s' hv hI
  rw [hInv,List.take_length] at hI
  obtain ⟨g,h7,i1,i2,i3,i4⟩:=hI
  simp at h7
  have hml:l.length=(l.map instCells).length:=by simp
  simp [hv,h7,i3]
  rw [hml,List.take_length]
  refine ⟨b8 jM l,aE fun k hk=>?_⟩
  have:=hF.c
  rw [ad (by omega),i4.h k (by omega)]
  exact hlow k hk
 ·intro i y ys v s' hi hy hl2 hv hI
  rw [hInv] at hI
  obtain ⟨g,h7,i1,i2,i3,i4⟩:=hI
  obtain ⟨h,c⟩:=s'
  simp at h7
  simp only at i2 i3 i4
  have hw:=ae (x:=(i:Int)+1) (by omega) (by omega)
  obtain ⟨gw,w1,w2⟩:=hwh.at (i:=i) (by rw [ewl]; exact hi)
  rw [ewl] at w1
  have hgw:(ak (l.map fun i=>(i.num:Int)))[i]?=some [.int y.num]:=by simp [ak,hi,hy]
  obtain ⟨gv,v1,v2⟩:=hva.at (i:=i) (by simpa using hi)
  have evl:(l.map fun i=>[row (ak (i.env.map (·.2)))]).length=l.length:=by simp
  rw [evl] at v1
  have hgv:(l.map fun i=>[row (ak (i.env.map (·.2)))])[i]?=some [row (ak (y.env.map (·.2)))]:=by simp [hi,hy]
  obtain ⟨lps,hat,hnm⟩:=(hin y (ba hl2)).at_
  obtain ⟨hnl,hne⟩:=List.getElem?_eq_some_iff.1 hat
  obtain ⟨gs,s1,s2⟩:=hst.at (i:=y.num) (by simpa using hnl)
  have el1:((bv [] p.steps).map stCells).length=(bv [] p.steps).length:=by simp
  rw [el1] at s1
  have hgs:((bv [] p.steps).map stCells)[y.num]?=some (stCells (y.step,lps)):=by simp [hnl,hne]
  have lw:=hr.wc gw (by rw [w1]; exact an.2 rfl)
  have lv:=hr.vc gv (by rw [v1]; exact an.2 rfl)
  have ls:=hr.sc gs (by rw [s1]; exact an.2 rfl)
  have w2':=(i4.h gw (by omega)).trans w2
  have v2':=(i4.h gv (by omega)).trans v2
  have s2':=(i4.h gs (by omega)).trans s2
  have o':=(i4.h go (by omega)).trans hobj
  have hap:=bS (sz:=2) (bytes:=40) (md:=.plain) (x:=instCells y) (b:=true) (s:=⟨h,c⟩) (len:=i) (by simp) i3 (by simp; omega) (by decide) (by decide) (by decide) rfl (by omega)
  unfold instCells at hap
  have hc1:∀ X:Wb.Step,(stCells (X,lps))[1]?=some (.str (Step.name X)):=fun ⟨_,_,_,_,_,_,_,_,⟨_,_,_,_,_,_⟩⟩=>rfl
  simp [hv,hi,hy,hc1,hap,hw,w1,w2',hgw,o',s1,s2',hgs,hnl,hne,v1,v2',hgv,h7,bsI,az,aJ]
  rw [hInv]
  refine ⟨c,by simp,by have:=i4.c; omega,by show c<c+1; omega,?_,(i4.upd i1 (Nat.le_refl _)).upd i4.c (Nat.le_succ _)⟩
  rw [e7 _ hi,hy]
  show upd _ c _ c=_
  rw [ah,List.map_take]; rfl
theorem uJ (p:Wb.Prog) (hcnt:aA p.steps≤300):aO Pg Fn22.n [p.av] (.tup [row (if bu p=0 then ca p.arrays 0 (au p).2.l else []),.int (bu p)]):=by
 rintro ⟨h0,c0⟩
 have hpl:=fun h c=>kl p hcnt h c
 simp only [Prog.av] at hpl
 refine Fn22.calls .frz ?_
 unfold Fn22.ac
 obtain ⟨hb,hhb⟩:∃ hb,hb=upd h0 c0 (some (.row 2 [[row (p.arrays.map Array.cells),row (p.steps.map Step.cells)]] .live none)):=⟨_,rfl⟩
 have hF0:Fr c0 h0 hb (c0+1):=by rw [hhb]; exact (Fr.refl _ _).upd (Nat.le_refl _) (Nat.le_succ _)
 have hbx:=(congrFun hhb c0).trans ah
 simp [Prog.av,←hhb,hbx]
 refine (hpl hb (c0+1)).mono ?_
 rintro av ⟨h2,c2⟩ hc2 ⟨hF,hq⟩
 simp only at hc2 hF hq
 have hF2:Fr c0 h0 h2 c2:=hF0.trans hF
 by_cases hpz:bu p=0
 case neg=>
  rw [if_neg hpz] at hq
  subst hq
  simp [hpz]
  exact hF2.retH
 rw [if_pos hpz] at hq
 obtain ⟨go,stm,which,vals,rnd,acc,frm,rfl,hr,hfr⟩:=hq
 simp [hpz,hr.obj]
 have hn:aX (ca p.arrays 0 (au p).2.l)=ca p.arrays 0 (au p).2.l:=mz fun e he=>(nR _ _ _ e he).1
 rcases hr.hacc with ⟨rfl,e⟩ | ⟨g,rfl,hg⟩
 ·simp [e]
  exact hF2.retH
 ·simp [hg,hn]
  exact (hF2.upd (by have:=hfr g (an.2 rfl); omega) (Nat.le_refl _)).retH
abbrev Acc:=Nat×Bool×Wb.Spot
def Acc.cells (a:Acc):List AV:=br a.1 a.2.1 a.2.2
def io (A:List Wb.Array):Nat→List Inst→List Acc
 | _,[]=>[]
 | k,x::xs=>(x.reads A).map (fun s=>(k,false,s))++(k,true,x.sets A)::io A (k+1) xs
theorem mI (A:List Wb.Array):∀ (k:Nat) (l:List Inst),ca A k l=(io A k l).map Acc.cells
 | _,[]=>rfl
 | k,x::xs=>by simp [ca,io,fB,mI A (k+1) xs,Acc.cells]
def eC (m:Wb.Spot→Int) (a:Acc):Wb.Spot→Int:=if a.2.1 then fun s=>if s=a.2.2 then a.1 else m s else m
def pM (m:Wb.Spot→Int) (a:Acc):Int:=if a.2.1 then -1 else m a.2.2
def eT (m:Wb.Spot→Int):List Acc→List Int
 | []=>[]
 | a::r=>pM m a::eT (eC m a) r
theorem qh:∀ (m:Wb.Spot→Int) (a b:List Acc),eT m (a++b)=eT m a++eT (a.foldl eC m) b
 | m,[],b=>rfl
 | m,x::a,b=>by simp [eT,qh (eC m x) a b]
theorem nw (m:Wb.Spot→Int) (k:Nat) (r:List Acc):∀ l:List Wb.Spot,eT m (l.map (fun s=>(k,false,s))++r)=l.map m++eT m r∧(l.map (fun s=>((k,false,s):Acc))).foldl eC m=m
 | []=>⟨rfl,rfl⟩
 | s::l=>by
  obtain ⟨h1,h2⟩:=nw m k r l
  have e:eC m (k,false,s)=m:=rfl
  exact ⟨by simp [eT,pM,e,h1],by simp [e,h2]⟩
theorem rq (A:List Wb.Array) (d:List Inst) (x:Inst):cy A (d++[x])=fun s=>if s=x.sets A then (d.length:Int) else cy A d s:=by
 funext s
 unfold cy
 rw [kM]
 simp only [gY,Nat.zero_add]
 by_cases h:x.sets A=s
 ·rw [if_pos h,if_pos h.symm]
 ·rw [if_neg h,if_neg (Ne.symm h)]
theorem sN (A:List Wb.Array):∀ (d xs:List Inst),eT (cy A d) (io A d.length xs)=dh A d xs∧(io A d.length xs).foldl eC (cy A d)=cy A (d++xs)
 | d,[]=>by simp [io,eT,dh]
 | d,x::xs=>by
  obtain ⟨h1,h2⟩:=sN A (d++[x]) xs
  have e:eC (cy A d) (d.length,true,x.sets A)=cy A (d++[x]):=by rw [rq]; rfl
  have hl:(d++[x]).length=d.length+1:=by simp
  rw [hl] at h1 h2
  obtain ⟨r1,r2⟩:=nw (cy A d) d.length ((d.length,true,x.sets A)::io A (d.length+1) xs) (x.reads A)
  constructor
  ·rw [io,r1,eT,e,h1]; simp [dh,pM]
  ·rw [io,List.foldl_append,r2,List.foldl_cons,e,h2]; simp
theorem uX (p:Wb.Prog) (stm which vals rnd acc frm:AV) (go:Nat) (hmany:cu p.arrays (au p).2.l≤200000) (h0:Heap) (c0:Nat) (hr:RanAt h0 c0 go p stm which vals rnd acc frm) :
  ACalls Pg Fn64.n [.ptr go 0 0] ⟨h0,c0⟩ fun av s'=>Fr c0 h0 s'.h s'.c∧∃ (g gm:Nat) (m:List (Wb.Spot×Int)) (ver:Nat),av=.tup [.row g 1 0 (dh p.arrays [] (au p).2.l).length,.map gm]∧c0≤g∧g<s'.c∧c0≤gm∧gm<s'.c∧s'.h g=some (.row 1 (ak (dh p.arrays [] (au p).2.l)) .live none)∧s'.h gm=some (.map (kvs gH AV.int m) ver)∧∀ s,cy p.arrays (au p).2.l s=(bF m s).getD (-1):=by
 refine Fn64.calls .keep ?_
 unfold Fn64.ac
 obtain ⟨l,hl⟩:∃ l,l=io p.arrays 0 (au p).2.l:=⟨_,rfl⟩
 have hobj:=hr.obj
 have hgo:=hr.plo.goc
 have hacc:=hr.hacc
 rw [mI,←hl] at hacc
 have hlen:=fun s=>hacc.len s
 have ell:(l.map Acc.cells).length=l.length:=by simp
 rw [ell] at hlen
 have hl2:l.length≤200000:=by
  have:=jx p.arrays 0 (au p).2.l
  rw [mI,←hl,ell] at this
  omega
 obtain ⟨e1,e2⟩:=sN p.arrays [] (au p).2.l
 have e0:cy p.arrays []=fun _=>-1:=rfl
 rw [e0] at e1 e2
 simp only [List.length_nil,List.nil_append] at e1 e2
 rw [←hl] at e1 e2
 obtain ⟨hb,hhb⟩:∃ hb,hb=upd (upd h0 c0 (some (.map [] c0))) (c0+1) (some (.row 1 [] .live none)):=⟨_,rfl⟩
 have hFb:Fr c0 h0 hb (c0+1+1):=by rw [hhb]; exact ((Fr.refl _ _).upd (Nat.le_refl _) (Nat.le_succ _)).upd (by omega) (Nat.le_succ _)
 have ob:=(hFb.h go (by omega)).trans hobj
 have mb:hb c0=some (.map [] c0):=by rw [hhb,ad (by omega),ah]
 have rb:hb (c0+1)=some (.row 1 [] .live none):=by rw [hhb,ah]
 simp [←hhb,ob,hlen]
 obtain ⟨m0,hm0⟩:∃ m0:Wb.Spot→Int,m0=fun _=>-1:=⟨_,rfl⟩
 rw [←hm0] at e1 e2
 obtain ⟨Inv,hInv⟩:∃ Inv:Nat→List Acc→Slots→St→Prop,Inv=fun i r sl s'=>∃ (g:Nat) (m:List (Wb.Spot×Int)) (ver:Nat),sl 5=.row g 1 0 i∧c0<g∧g<s'.c∧s'.h g=some (.row 1 (ak (eT m0 (l.take i))) .live none)∧(eT m0 (l.take i)).length=i∧s'.h c0=some (.map (kvs gH AV.int m) ver)∧(∀ s,(l.take i).foldl eC m0 s=(bF m s).getD (-1))∧Fr c0 h0 s'.h s'.c:=⟨_,rfl⟩
 refine bq 16 Fn64.W0 l Inv (by rfl) (by rfl) ?_ ?_ ?_
 ·rw [hInv]
  exact ⟨by simp,c0+1,[],c0,by simp,Nat.lt_succ_self _,Nat.lt_succ_self _,rb,rfl,mb,fun s=>by rw [hm0]; rfl,hFb⟩
 ·intro v s' hv hI
  rw [hInv,List.take_length,e1,e2] at hI
  obtain ⟨g,m,ver,h5,i1,i2,i3,i4,i5,i6,i7⟩:=hI
  obtain ⟨h,c⟩:=s'
  simp at h5
  simp only at i2 i3 i5 i7
  have:=i7.c
  simp [hv,h5]
  exact ⟨i7,g,c0,⟨⟨rfl,i4.symm⟩,rfl⟩,by omega,i2,Nat.le_refl _,by omega,i3,m,⟨ver,i5⟩,i6⟩
 ·intro i a as' v s' hi ha hl3 hv hI
  rw [hInv] at hI
  obtain ⟨g,m,ver,h5,i1,i2,i3,i4,i5,i6,i7⟩:=hI
  obtain ⟨h,c⟩:=s'
  simp at h5
  simp only at i2 i3 i5 i7
  have hw:=ae (x:=(i:Int)+1) (by omega) (by omega)
  have hcc:=i7.c
  obtain ⟨ga,a1,a2⟩:=hacc.at (i:=i) (by rw [ell]; exact hi)
  rw [ell] at a1
  have lga:=hr.ab ga (by rw [a1]; exact an.2 rfl)
  have a2':=(i7.h ga lga).trans a2
  have ts:l.take (i+1)=l.take i++[a]:=by rw [List.take_add_one,List.getElem?_eq_getElem hi,ha]; rfl
  have hsrc:eT m0 (l.take (i+1))=eT m0 (l.take i)++[pM ((l.take i).foldl eC m0) a]:=by rw [ts,qh]; rfl
  have hset:(l.take (i+1)).foldl eC m0=eC ((l.take i).foldl eC m0) a:=by rw [ts,List.foldl_append]; rfl
  obtain ⟨M,hM⟩:∃ M,M=(l.take i).foldl eC m0:=⟨_,rfl⟩
  rw [←hM] at hsrc hset i6
  obtain ⟨k,w,s⟩:=a
  have hga:(l.map Acc.cells)[i]?=some [.int k,.bool w,.str s.array,.int s.cell]:=by simp [hi,ha]; rfl
  obtain ⟨h1,hh1⟩:∃ h1,h1=upd h c (some (.row 4 [[.int k,.bool w,.str s.array,.int s.cell]] .live none)):=⟨_,rfl⟩
  have hF1:Fr c h h1 (c+1):=by rw [hh1]; exact (Fr.refl _ _).upd (Nat.le_refl _) (Nat.le_succ _)
  have b1:h1 c=_:=(congrFun hh1 c).trans ah
  have g1:=(hF1.h g i2).trans i3
  have m1:=(hF1.h c0 (by omega)).trans i5
  have hlk:=gB jJ (f:=AV.int) (z:=.int 0) (ok:=true) (s:=⟨h1,c+1⟩) m1 s
  have hsv:gH s=.agg [.str s.array,.int s.cell]:=rfl
  rw [hsv] at hlk
  have hap:=fun x=>bS (sz:=1) (bytes:=8) (md:=.plain) (x:=[.int x]) (b:=true) (s:=⟨h1,c+1⟩) (len:=i) (by simp) g1 (by simp [i4]) (by decide) (by decide) (by decide) rfl (by omega)
  simp [hv,hi,ha,a1,a2',hga,aJ,Acc.cells,br]
  rw [←hh1]
  have hms:=i6 s
  have fin:∀ (x:Int) (h3:Heap) (c3:Nat) (sl':Slots) (m':List (Wb.Spot×Int)) (ver':Nat),pM M (k,w,s)=x→sl' 5=.row (c+1) 1 0 (i+1)→c+1<c3→h3 (c+1)=some (.row 1 (ak (eT m0 (l.take i))++[[.int x]]) .live none)→h3 c0=some (.map (kvs gH AV.int m') ver')→(∀ s',eC M (k,w,s) s'=(bF m' s').getD (-1))→(∀ k,k<c0→h3 k=h0 k)→Inv (i+1) as' sl' ⟨h3,c3⟩:=fun x h3 c3 sl' m' ver' q1 q2 q3 q4 q5 q6 q7=>by
   rw [hInv]
   refine ⟨c+1,m',ver',q2,by omega,q3,by rw [hsrc,q1,sD]; exact q4,by rw [hsrc]; simp [i4],q5,by rw [hset]; exact q6,by show c0≤c3; omega,q7⟩
  have low:∀ b b',∀ k,k<c0→upd (upd h1 g b) (c+1) b' k=h0 k:=fun b b' k hk=>by rw [ad (by omega),ad (by omega),hF1.h k (by omega)]; exact i7.h k hk
  have m2:∀ b b',upd (upd h1 g b) (c+1) b' c0=some (.map (kvs gH AV.int m) ver):=fun b b'=>by rw [ad (by omega),ad (by omega)]; exact m1
  have hmu:=fun b b'=>jm jJ (f:=AV.int) (g:=c0) (s:=⟨upd (upd h1 g b) (c+1) b',c+1+1⟩) (m2 b b') s (k:Int)
  rw [hsv] at hmu
  have hcg:¬c=g:=by omega
  have q5:∀ s',eC M (k,true,s) s'=(bF (cZ m s (k:Int)) s').getD (-1):=fun s'=>by
   rw [kO]
   by_cases hs:s'=s
   ·simp [eC,hs]
   ·simp [eC,hs,i6 s']
  cases hg:bF m s with
  | none=>
   rw [hg] at hms hlk
   cases w
   ·simp [hlk,b1,h5,bsI,az,hap,hw,hv,hcg]
    exact fin (-1) _ _ _ m ver hms (by simp) (by omega) ah (m2 _ _) i6 (low _ _)
   ·simp [hlk,b1,h5,bsI,az,aJ,hap,hw,hv,hcg,hmu]
    exact fin (-1) _ _ _ (cZ m s (k:Int)) _ rfl (by simp) (by omega) (by rw [ad (by omega)]; exact ah) ah q5 (fun k hk=>by rw [ad (by omega)]; exact low _ _ k hk)
  | some z=>
   rw [hg] at hms hlk
   cases w
   ·simp [hlk,b1,h5,bsI,az,hap,hw,hv,hcg]
    exact fin z _ _ _ m ver hms (by simp) (by omega) ah (m2 _ _) i6 (low _ _)
   ·simp [hlk,b1,h5,bsI,az,aJ,hap,hw,hv,hcg,hmu]
    exact fin (-1) _ _ _ (cZ m s (k:Int)) _ rfl (by simp) (by omega) (by rw [ad (by omega)]; exact ah) ah q5 (fun k hk=>by rw [ad (by omega)]; exact low _ _ k hk)
theorem oS {p:Wb.Prog} (h:bu p=0):aV p=0∧(au p).1=0∧(∀ x∈(au p).2.l,x.ok p.arrays=true)∧cu p.arrays (au p).2.l≤200000:=by
 unfold bu at h
 split at h
 ·rename_i h2
  split at h
  ·rename_i h3
   unfold bV at h
   split at h
   ·cases h
   ·rename_i h4
    split at h
    ·cases h
    ·rename_i h5
     refine ⟨h2,h3,fun x hx=>?_,by omega⟩
     have h4':((au p).2.l.any fun i=>!i.ok p.arrays)=false:=by simpa using h4
     have:=List.any_eq_false.1 h4' x hx
     simpa using this
  ·exact absurd h ‹_›
 ·exact absurd h ‹_›
theorem uK (p:Wb.Prog) (hcnt:aA p.steps≤300):aO Pg Fn23.n [p.av] (.tup [row (if bu p=0 then ak (dh p.arrays [] (au p).2.l) else []),.int (bu p)]):=by
 rintro ⟨h0,c0⟩
 have hpl:=fun h c=>qM p hcnt h c
 simp only [Prog.av] at hpl
 refine Fn23.calls .frz ?_
 unfold Fn23.ac
 obtain ⟨hb,hhb⟩:∃ hb,hb=upd h0 c0 (some (.row 2 [[row (p.arrays.map Array.cells),row (p.steps.map Step.cells)]] .live none)):=⟨_,rfl⟩
 have hF0:Fr c0 h0 hb (c0+1):=by rw [hhb]; exact (Fr.refl _ _).upd (Nat.le_refl _) (Nat.le_succ _)
 have hbx:=(congrFun hhb c0).trans ah
 simp [Prog.av,←hhb,hbx]
 refine (hpl hb (c0+1)).mono ?_
 rintro av ⟨h2,c2⟩ hc2 ⟨hF,hq⟩
 simp only at hc2 hF hq
 have hF2:Fr c0 h0 h2 c2:=hF0.trans hF
 by_cases hpz:bu p=0
 case neg=>
  rw [if_neg hpz] at hq
  subst hq
  simp [hpz]
  exact hF2.retH
 rw [if_pos hpz] at hq
 obtain ⟨go,stm,which,vals,rnd,acc,frm,rfl,hr⟩:=hq
 simp [hpz]
 refine (uX p stm which vals rnd acc frm go (oS hpz).2.2.2 h2 c2 hr).mono ?_
 rintro av ⟨h3,c3⟩ hc3 ⟨hF3,g,gm,m,ver,rfl,q1,q2,q3,q4,q5,q6,q7⟩
 simp only at hc3 hF3 q2 q4 q5 q6
 have hil:(dh p.arrays [] (au p).2.l).length=(ak (dh p.arrays [] (au p).2.l)).length:=by simp
 have htk:List.take (dh p.arrays [] (au p).2.l).length (ak (dh p.arrays [] (au p).2.l))=ak (dh p.arrays [] (au p).2.l):=by rw [hil,List.take_length]
 simp [q5,htk]
 have:=hF2.c
 exact ((hF2.trans hF3).upd (by omega) (Nat.le_refl _)).retH
end Go.Proofs.YtocppbmmfklbmaaGreat
set_option maxRecDepth 20000
set_option maxHeartbeats 4000000
namespace Go.Proofs.YtocppbmmfklbmaaGreat
open Go.AM Go.Wb
@[simp] theorem wz (l:List Inst):aX (l.map instCells)=l.map instCells:=b8 jM l
@[simp] theorem xA (l:List Acc):aX (l.map Acc.cells)=l.map Acc.cells:=b8 (fun _=>rfl) l
theorem gJ (g:Inst):aO Pg Fn68.n [.agg (instCells g),.agg (instCells g)] (.bool true):=by
 rintro ⟨h0,c0⟩
 refine Fn68.calls .frz ?_
 unfold Fn68.ac
 have hne:¬c0=c0+1:=by omega
 simp [instCells,hne]
 refine ACalls.pure (fy _) fun c1 hc1=>?_
 simp
theorem gR (L:List Inst):aO Pg Fn67.n [row (L.map instCells),row (L.map instCells),.fn (.func Fn68.n) [] []] (.bool true):=by
 rintro ⟨h0,c0⟩
 refine ACalls.small fun hs=>?_
 have hlen:L.length≤68719476736:=by simp at hs; omega
 refine Fn67.calls .frz ?_
 unfold Fn67.ac
 simp
 refine bh 17 Fn67.W0 L (fun (i:Nat) r sl s'=>True) (by rfl) (by rfl) ?_ ?_ ?_
 ·simp
 ·intro v h c hv hF hI
  simp [hv]
  exact hF.retH
 ·intro i g gs v h c hi hx hl hv hF hI
  have hw:=ae (x:=(i:Int)+1) (by omega) (by omega)
  have hcc:=hF.c
  have hne:¬c=c+1:=by omega
  have hs:=gJ g
  simp only [instCells] at hs
  simp [hv,hi,hx,instCells,hne]
  refine ACalls.pure hs fun c2 hc2=>?_
  simp [hv,hw]
  exact ⟨by omega,fun k hk=>by rw [ad (by omega),ad (by omega)]; exact hF.h k hk⟩
theorem ic (L:List Inst):aO Pg Fn28.n [row (L.map instCells),row (L.map instCells)] (.bool true):=by
 intro s
 refine Fn28.calls .frz ?_
 unfold Fn28.ac
 simp
 refine ACalls.pure (gR L) fun c1 hc1=>?_
 simp
theorem iA (l:List Acc):aO Pg Fn29.n [row (l.map Acc.cells),row (l.map Acc.cells)] (.bool true):=by
 rintro ⟨h0,c0⟩
 refine ACalls.small fun hs=>?_
 have hlen:l.length≤68719476736:=by simp at hs; exact hs.1
 refine Fn29.calls .frz ?_
 unfold Fn29.ac
 simp
 refine bU 13 Fn29.W0 l (fun (i:Nat) r sl=>True) (by rfl) (by rfl) ?_ ?_ ?_
 ·simp
 ·intro v c1 hv hc hI
  simp [hv]
 ·intro i x xs v c1 hi hx hl hv hc hI
  have hw:=ae (x:=(i:Int)+1) (by omega) (by omega)
  simp [hv,hi,hx,hw,Acc.cells,br,bT,eA]
  exact hc
theorem rL (L:List Int) (hL:L.length≤1048576) (h0:Heap) (c0:Nat) :
  ACalls Pg Fn4.n [row (ak L)] ⟨h0,c0⟩ fun av s'=>av=.bool true∧s'.h=h0:=by
 refine Fn4.calls .frz ?_
 unfold Fn4.ac
 simp [aJ]
 obtain ⟨h1,hh1⟩:∃ h1,h1=upd h0 c0 (some (.row 2 [[row (ak L),.int 0]] .live none)):=⟨_,rfl⟩
 have hs1:SM h1 c0 L 0:=by rw [hh1]; exact ah
 have k1:∀ k,k<c0→h1 k=h0 k:=fun k hk=>by rw [hh1,ad (by omega)]
 rw [←hh1]
 refine (vN L hL 0 c0 h1 (c0+1) hs1 (by omega) (by omega) (by omega)).mono ?_
 rintro av ⟨h2,c2⟩ hc2 ⟨⟨p,rfl,hgen⟩,a2,ha1,ha2,hs2,k2⟩
 simp only at hc2 hs2 k2
 have hcnt:aA p.steps≤300:=by have:=hgen.steps; omega
 obtain ⟨h3,hh3⟩:∃ h3,h3=upd h2 c2 (some (.row 2 [[row (p.arrays.map Array.cells),row (p.steps.map Step.cells)]] .live none)):=⟨_,rfl⟩
 have k3:∀ k,k<c0→h3 k=h0 k:=fun k hk=>by rw [hh3,ad (by omega),k2 k (by omega) (by omega),k1 k hk]
 have b3:=(congrFun hh3 c2).trans ah
 have hI:=uH p hcnt
 have hR:=uI p hcnt
 have hA:=uJ p hcnt
 have hS:=uK p hcnt
 have hpf:=vO p (by omega)
 have hus:=fun hp h c=>uL p hp hcnt h c
 simp only [Prog.av] at hI hR hA hS hpf hus
 simp [Prog.av]
 rw [←hh3]
 refine ACalls.pure hI fun c4 hc4=>?_
 simp [b3]
 refine ACalls.pure hR fun c5 hc5=>?_
 simp [b3]
 refine ACalls.pure hA fun c6 hc6=>?_
 simp [b3]
 refine ACalls.pure hS fun c7 hc7=>?_
 simp [b3]
 refine ACalls.pure hpf fun c8 hc8=>?_
 have hsi:=ic
 have hea:=iA
 have hei:=fy
 by_cases hz:aV p=0
 case neg=>
  have e1:instErr p=aV p:=by simp [instErr,hz]
  have e2:bu p=aV p:=by simp [bu,hz]
  simp [hz,e1,e2]
  refine ACalls.pure (hsi []) fun c9 hc9=>?_
  simp
  refine ACalls.pure (hea []) fun c10 hc10=>?_
  simp
  refine ACalls.pure (hei []) fun c11 hc11=>?_
  simp
  refine ACalls.pure lq fun c12 hc12=>?_
  simp
  exact aE k3
 simp [hz,b3]
 refine (hus (fh hz) h3 c8).mono ?_
 rintro av ⟨h9,c9⟩ hc9 hq
 simp only at hc9 hq
 have e1:instErr p=(au p).1:=by simp [instErr,hz]
 by_cases hz2:(au p).1=0
 case neg=>
  rw [if_neg hz2] at hq
  obtain ⟨rfl,hF9⟩:=hq
  have e2:bu p=(au p).1:=by simp [bu,hz,hz2]
  simp [hz2,e1,e2]
  refine ACalls.pure (hsi []) fun c9 hc9=>?_
  simp
  refine ACalls.pure (hea []) fun c10 hc10=>?_
  simp
  refine ACalls.pure (hei []) fun c11 hc11=>?_
  simp
  refine ACalls.pure lq fun c12 hc12=>?_
  simp
  exact aE fun k hk=>(hF9.h k (by omega)).trans (k3 k hk)
 rw [if_pos hz2] at hq
 obtain ⟨lx,rfl,hO⟩:=hq
 have e2:bu p=bV p.arrays (au p).2.l:=by simp [bu,hz,hz2]
 obtain ⟨l,hl⟩:∃ l,l=(au p).2.l:=⟨_,rfl⟩
 rw [←hl] at e2
 have hlow:∀ k,k<c0→h9 k=h0 k:=fun k hk=>(hO.fr.h k (by omega)).trans (k3 k hk)
 have hun:=hO.uses.n
 rw [←hl] at hun
 have hrn:∀ k,aq (norm lx) k→k<c9:=fun k hk=>by
  have:aq lx k:=by
   obtain ⟨us,u1,_⟩:=hO.uses
   rcases u1 with ⟨e,_⟩ | ⟨g,e,_⟩
   ·rw [e] at hk; exact absurd hk aL
   ·rw [e] at hk ⊢; exact hk
  exact (hO.rows k this).2
 have hin:=dL (fh hz)
 rw [←hl] at hin
 have hrl:∀ i∈l,(i.reads p.arrays).length≤4096:=fun i hi=>oF (hin i hi)
 have hll:l.length≤1000000:=by have:=hO.len; rw [←hl] at this; omega
 have hio:=uM p.arrays l hll (norm lx) h9 c9 hun hrn
 have hT:=mI p.arrays 0 l
 obtain ⟨T,hTe⟩:∃ T,T=io p.arrays 0 l:=⟨_,rfl⟩
 rw [←hTe] at hT
 simp [hz2,e1,e2,←hl]
 refine ACalls.at hio fun c10 hc10=>?_
 by_cases hz3:bV p.arrays l=0
 ·have hao:=uN p.arrays l hll hrl (norm lx) h9 c10 (hun.fr hrn (Fr.le hc10)) fun k hk=>by have:=hrn k hk; omega
  rw [hT] at hao
  simp [hz3]
  refine ACalls.at hao fun c11 hc11=>?_
  have hso:=uO p.arrays l hll hrl (norm lx) h9 c11 (hun.fr hrn (Fr.le (by omega))) fun k hk=>by have:=hrn k hk; omega
  simp
  refine ACalls.at hso fun c12 hc12=>?_
  simp [hT]
  refine ACalls.pure (hsi l) fun c13 hc13=>?_
  simp
  refine ACalls.pure (hea T) fun c14 hc14=>?_
  simp
  refine ACalls.pure (hei _) fun c15 hc15=>?_
  simp
  refine ACalls.pure lq fun c16 hc16=>?_
  simp
  exact aE hlow
 ·simp [hz3]
  refine ACalls.pure (hsi l) fun c13 hc13=>?_
  simp
  refine ACalls.pure (hea []) fun c14 hc14=>?_
  simp
  refine ACalls.pure (hei []) fun c15 hc15=>?_
  simp
  refine ACalls.pure lq fun c16 hc16=>?_
  simp
  exact aE hlow
end Go.Proofs.YtocppbmmfklbmaaGreat
