/- Part of the claim: see its last text. -/
import Derived.Test.YtocppbmmfklbmaaGreatMc2
import Derived.Test.YtocppbmmfklbmaaGreatMc1
import Derived.Below
set_option linter.all false
set_option maxRecDepth 20000
set_option maxHeartbeats 4000000
namespace Go.Proofs.YtocppbmmfklbmaaGreat
open Go.AM Go.Wb
def fw (A:List Wb.Array) (x:Inst):List (Bool×Wb.Spot):=(x.reads A).map (fun s=>(false,s))++[(true,x.sets A)]
theorem ue (A:List Wb.Array) (i:Nat) (x:Inst):kb A i x=(fw A x).map (fS i):=by simp [kb,fw,fS]
theorem qk (A:List Wb.Array) (x:Inst):(fw A x).length=(x.reads A).length+1:=by simp [fw]
theorem tL (A:List Wb.Array) (x:Inst):(fw A x).map (·.2)=x.reads A++[x.sets A]:=by simp [fw,Function.comp_def]
def nj (go:Nat) (stm which vals acc frm:AV) (k:Nat):Prop:=pt go stm which vals k∨an acc k∨an frm k
theorem RanAt.re {h h':Heap} {c c' go:Nat} {p:Wb.Prog} {stm which vals rnd acc frm:AV} (x:RanAt h c go p stm which vals rnd acc frm) (hc:c≤c') (hh:∀ k,nj go stm which vals acc frm k→h' k=h k):RanAt h' c' go p stm which vals rnd acc frm:=
 ⟨x.plo.re hc fun k hk=>hh k (.inl hk),(hh go (.inl (.inl rfl))).trans x.obj,x.hacc.frame fun k hk=>hh k (.inr (.inl hk)),x.hfrm.frame fun k hk=>hh k (.inr (.inr hk)),fun k hk=>by have:=x.ab k hk; omega,fun k hk=>by have:=x.fb k hk; omega⟩
theorem RanAt.lt {h:Heap} {c go:Nat} {p:Wb.Prog} {stm which vals rnd acc frm:AV} (x:RanAt h c go p stm which vals rnd acc frm) {k:Nat} (hk:nj go stm which vals acc frm k):k<c:=by
 rcases hk with hk | hk | hk
 ·exact x.plo.plt hk
 ·exact x.ab k hk
 ·exact x.fb k hk
theorem vD (p:Wb.Prog) (hp:Right p) (stm which vals rnd acc frm:AV) (go i:Nat) (x:Inst) (hx:(aA p).2.l[i]?=some x) (hmany:ci p.arrays (aA p).2.l≤200000) (h0:Heap) (c0:Nat) (hr:RanAt h0 c0 go p stm which vals rnd acc frm) :
  ACalls Pg Fn93.n [.ptr go 0 0,.int i] ⟨h0,c0⟩ fun av s'=>s'.h=h0∧∃ ga off,av=.row ga 4 off (fw p.arrays x).length∧an acc ga∧RdAt h0 4 av ((fw p.arrays x).map (fS i)):=by
 refine Fn93.calls .keep ?_
 unfold Fn93.ac
 obtain ⟨l,hl⟩:∃ l,l=(aA p).2.l:=⟨_,rfl⟩
 obtain ⟨r1,r2,r3,r4,r5,r6⟩:=hr
 have hin:=dY hp
 rw [←hl] at hx hmany r1 r3 r4 hin
 obtain ⟨hi,hxe⟩:=List.getElem?_eq_some_iff.1 hx
 have hsplit:l=l.take i++x::l.drop (i+1):=by
  rw [←hxe,←List.drop_eq_getElem_cons hi,List.take_append_drop]
 have hlti:(l.take i).length=i:=by rw [List.length_take]; omega
 obtain ⟨o,ho⟩:∃ o,o=(dF p.arrays 0 (l.take i)).length:=⟨_,rfl⟩
 have hacc:dF p.arrays 0 l=dF p.arrays 0 (l.take i)++(kb p.arrays i x++dF p.arrays (i+1) (l.drop (i+1))):=by
  conv=>lhs; rw [hsplit]
  rw [m7,Nat.zero_add,hlti]; rfl
 have hfrm:(eN p.arrays 0 l)[i]?=some (o:Int):=by
  rw [hsplit,lE p.arrays 0 0,Nat.zero_add,List.getElem?_append_right (by rw [gZ,hlti]; omega),gZ,hlti,Nat.sub_self,←ho]; rfl
 have hlenA:(dF p.arrays 0 l).length≤200000:=by have:=mI p.arrays 0 l; omega
 have hlen2:o+((x.reads p.arrays).length+1)≤(dF p.arrays 0 l).length:=by rw [hacc]; simp only [List.length_append,kZ]; omega
 have hxo:=hin x (List.mem_of_getElem? hx)
 obtain ⟨lps,hat,hnm⟩:=hxo.at_
 obtain ⟨hnl,hne⟩:=List.getElem?_eq_some_iff.1 hat
 obtain ⟨gf,f1,f2⟩:=r4.at (i:=i) (by simp [aj,gZ]; exact hi)
 obtain ⟨ga,a1,a2⟩:=r3.at (i:=o) (by omega)
 obtain ⟨gs,s1,s2⟩:=r1.hstm.at (i:=x.num) (by simpa using hnl)
 obtain ⟨gw,w1,w2⟩:=r1.hwhich.at (i:=i) (by simpa [aj] using hi)
 have el1:((bw [] p.steps).map stCells).length=(bw [] p.steps).length:=by simp
 have el2:(aj (l.map fun i=>(i.num:Int))).length=l.length:=by simp [aj]
 have el3:(aj (eN p.arrays 0 l)).length=l.length:=by simp [aj,gZ]
 rw [el1] at s1
 rw [el2] at w1
 rw [el3] at f1
 rw [s1,w1,f1,a1] at r2
 have hgw:(aj (l.map fun i=>(i.num:Int)))[i]?=some [.int x.num]:=by simp [aj,hi,hxe]
 have hgf:(aj (eN p.arrays 0 l))[i]?=some [.int o]:=by unfold aj; rw [List.getElem?_map,hfrm]; rfl
 have hst16:(stCells (x.step,lps))[16]?=some (row ((cK (Step.expr x.step)).map Expr.cells)):=by
  unfold stCells
  rw [List.getElem?_append_right (by rw [df]; omega),df]; rfl
 have hrl:(cK (Step.expr x.step)).length=(x.reads p.arrays).length:=by unfold Inst.reads; rw [dS,iy]
 obtain ⟨R,hR⟩:∃ R,R=(x.reads p.arrays).length:=⟨_,rfl⟩
 rw [←hR] at hlen2 hrl
 have hw1:=ae (x:=(o:Int)+R) (by omega) (by omega)
 have hw2:=ae (x:=(o:Int)+R+1) (by omega) (by omega)
 obtain ⟨K,hK⟩:∃ K,K=(dF p.arrays 0 l).length:=⟨_,rfl⟩
 rw [←hK] at hlen2 r2 a1 hlenA
 have hsr:srI 4 (.row ga 4 0 K) (some (.int o)) (some (.int ((o:Int)+R+1))) none=some (.row ga 4 o (R+1)):=by
  have h1:(o:Int)≤(o:Int)+R+1:=by omega
  have h2:(o:Int)+R+1≤K:=by omega
  have h3:0≤(o:Int)+R+1:=by omega
  have h4:((o:Int)+R+1).toNat=o+R+1:=by omega
  simp [srI,bnd,h1,h2,h3,h4]
  try omega
 simp [r2,hi,f2,hgf,w2,hgw,hnl,s2,hne,hst16,hrl,hw1,hw2,hsr]
 have hul:(fw p.arrays x).length=R+1:=by rw [qk,hR]
 refine ⟨ga,⟨rfl,hul.symm⟩,by rw [a1]; exact aq.2 rfl,ga,_,o,.live,by rw [List.length_map,hul],a2,?_,by rw [List.length_map,hul,←hK]; exact hlen2⟩
 rw [hacc,ho,List.drop_left,ue,List.take_left]
mutual
theorem nU (M:Mem) (φ:ByteArray→Int) {A:List Wb.Array}:∀ (e:Wb.Expr) (rs t:List Wb.Spot),cr A e→aR e≤rs.length→(bp M φ e (rs++t)).1=(bp M φ e rs).1
 | .mk op n form array subs args,rs,t,h,hn=>by
  simp only [cr] at h
  simp only [bp]
  split
  ·rfl
  ·split
   ·rfl
   ·split
    ·rename_i h3
     cases rs with
     | nil=>simp [aR,h3] at hn
     | cons r rs=>rfl
    ·rename_i h1 h2 h3
     simp only [aR,if_neg h3] at hn
     have ha:cL A args:=by
      rcases h with h | h | h | h
      ·exact absurd h.1 h1
      ·exact absurd h.1 h2
      ·exact absurd h.1 h3
      ·exact h.2.2.2
     simp only [nw M φ args rs t ha hn]
theorem nw (M:Mem) (φ:ByteArray→Int) {A:List Wb.Array}:∀ (l:List Wb.Expr) (rs t:List Wb.Spot),cL A l→bg l≤rs.length→(fk M φ l (rs++t)).1=(fk M φ l rs).1
 | [],_,_,_,_=>rfl
 | e::es,rs,t,h,hn=>by
  simp only [cL] at h
  simp only [bg] at hn
  simp only [fk]
  rw [nU M φ e rs t h.1 (by omega),gd M φ e _ h.1,gd M φ e _ h.1,List.drop_append_of_le_length (by omega),nw M φ es _ t h.2 (by rw [List.length_drop]; omega)]
end
theorem vS (p:Wb.Prog) (hp:Right p) (hc:aC p.steps≤300) (M:Mem) (hM:d6 M) (stm which vals rnd acc frm:AV) (go i g:Nat) (G:List Nat) (x:Inst) (hx:(aA p).2.l[i]?=some x) (hxk:x.ok p.arrays=true) (hmany:ci p.arrays (aA p).2.l≤200000) (h0:Heap) (c0:Nat) (hr:RanAt h0 c0 go p stm which vals rnd acc frm) (hm:MemAt h0 c0 g p.arrays M G) (hsep:∀ gi,gi∈G→¬nj go stm which vals acc frm gi) :
  ACalls Pg Fn49.n [.ptr go 0 0,.int i,.map g] ⟨h0,c0⟩ fun av s'=>MemAt s'.h s'.c g p.arrays (gM p.arrays M x) G∧∀ k,k<c0→k∉G→s'.h k=h0 k:=by
 have hin:=dY hp x (List.mem_of_getElem? hx)
 have hio:=Inst.ok_in hp.arrays hin hxk
 refine Fn49.calls .keep ?_
 unfold Fn49.ac
 simp
 refine (vD p hp stm which vals rnd acc frm go i x hx hmany h0 c0 hr).mono ?_
 rintro av ⟨h1,c1⟩ hc1 ⟨hh,ga,off,rfl,hga,hrd⟩
 simp only at hh hc1
 subst hh
 obtain ⟨n,hn⟩:∃ n,n=(x.reads p.arrays).length:=⟨_,rfl⟩
 have hul:(fw p.arrays x).length=n+1:=by rw [qk,hn]
 have hrd':=hrd
 obtain ⟨ga',all,off',st',q1,q2,q3,q4⟩:=hrd
 rw [List.length_map,hul] at q1 q3 q4
 injection q1 with e1 e2 e3 e4
 subst e1; subst e3
 have hlastc:all[off+n]?=some (dZ i true (x.sets p.arrays)):=by
  have h1:((all.drop off).take (n+1))[n]?=((fw p.arrays x).map (fS i))[n]?:=by rw [q3]
  rw [List.getElem?_take_of_lt (by omega),List.getElem?_drop] at h1
  rw [h1]
  unfold fw
  rw [List.map_append,List.getElem?_append_right (by simp [hn]),List.length_map,List.length_map,←hn,Nat.sub_self]
  rfl
 obtain ⟨s,hs⟩:∃ s,s=x.sets p.arrays:=⟨_,rfl⟩
 rw [←hs] at hlastc
 have hsin:=hio.2
 rw [←hs] at hsin
 rw [hul]
 simp only [dZ] at hlastc
 have hn4:n≤4096:=by rw [hn]; unfold Inst.reads; rw [dS]; exact hin.nr
 have hwn:=ae (x:=(n:Int)) (by omega) (by omega)
 obtain ⟨j,a,gi,nn,t1,t2,t3,t4,t5,t6,t7,t8⟩:=hm.spot hp.apart hsin
 rw [t4] at hlastc
 have hgalt:ga<c0:=hr.lt (.inr (.inl hga))
 have hgilt:=hm.lt gi (List.mem_of_getElem? t2)
 have hgc:=hm.gc
 obtain ⟨h2,hh2⟩:∃ h2,h2=upd h1 c1 (some (.row 1 [[.row ga 4 off (n+1)]] .live none)):=⟨_,rfl⟩
 obtain ⟨h3,hh3⟩:∃ h3,h3=upd h2 (c1+1) (some (.row 4 [[.int i,.bool true,.str s.array,.int nn]] .live none)):=⟨_,rfl⟩
 have k2:∀ k,k<c1→h2 k=h1 k:=fun k hk=>by rw [hh2,ad (by omega)]
 have k3:∀ k,k<c1+1→h3 k=h2 k:=fun k hk=>by rw [hh3,ad (by omega)]
 have bx2:=(congrFun hh2 c1).trans af
 have bx3:=(k3 c1 (by omega)).trans bx2
 have by3:=(congrFun hh3 (c1+1)).trans af
 have ga2:=(k2 ga (by omega)).trans q2
 have hr3:RanAt h3 (c1+1+1) go p stm which vals rnd acc frm:=hr.re (by omega) fun k hk=>by have:=hr.lt hk; rw [k3 k (by omega),k2 k (by omega)]
 have hm3:MemAt h3 (c1+1+1) g p.arrays M G:=hm.frame (by omega) fun k hk=>by
  have:k<c0:=hk.elim (fun h=>by omega) fun h=>(hm.lt k h).1
  rw [k3 k (by omega),k2 k (by omega)]
 obtain ⟨l,hl⟩:∃ l,l=(aA p).2.l:=⟨_,rfl⟩
 have hro:=hr3.obj
 have hplo:=hr3.plo
 rw [←hl] at hx hplo
 obtain ⟨hi,hxe⟩:=List.getElem?_eq_some_iff.1 hx
 obtain ⟨lps,hat,hnm⟩:=hin.at_
 obtain ⟨hnl,hne⟩:=List.getElem?_eq_some_iff.1 hat
 obtain ⟨gs,s1,s2⟩:=hplo.hstm.at (i:=x.num) (by simpa using hnl)
 obtain ⟨gw,w1,w2⟩:=hplo.hwhich.at (i:=i) (by simpa [aj] using hi)
 have el1:((bw [] p.steps).map stCells).length=(bw [] p.steps).length:=by simp
 have el2:(aj (l.map fun i=>(i.num:Int))).length=l.length:=by simp [aj]
 rw [el1] at s1
 rw [el2] at w1
 have hro':=hro
 rw [s1,w1] at hro
 have hgw:(aj (l.map fun i=>(i.num:Int)))[i]?=some [.int x.num]:=by simp [aj,hi,hxe]
 obtain ⟨X,hX⟩:∃ X,X=x.step:=⟨_,rfl⟩
 rw [←hX] at hne
 obtain ⟨ex,hex⟩:∃ ex,ex=Step.expr x.step:=⟨_,rfl⟩
 have hexo:=hin.expr
 have hnrx:aR ex≤n:=by rw [hn,hex]; unfold Inst.reads; rw [dS]; exact Nat.le_refl _
 rw [←hex] at hexo
 have l7:ex.cells.length=7:=by obtain ⟨_,_,_,_,_,_⟩:=ex; rfl
 have hst8:((stCells (X,lps)).drop 8).take 7=ex.cells∧8+7≤(stCells (X,lps)).length:=by
  rw [hex,←hX]
  obtain ⟨kind,name,low,high,conds,body,array,subs,⟨op,n2,form,ea,es2,args⟩⟩:=X
  simp [stCells,Step.cells_mk,Step.expr,Expr.cells_mk]
 have hst8b:15≤(stCells (X,lps)).length:=hst8.2
 have hev:=vJ p.arrays hp.apart M hM (bw [] p.steps) l stm which vals go i x hx hin (fun y hy=>by have:=kB _ y hy; omega) _ ex (Nat.le_refl _) hexo (fw p.arrays x) g c1 G (.row ga 4 off (n+1)) h3 (c1+1+1) (by rw [hul]; omega) (fun u hu=>by
  unfold fw at hu
  rcases List.mem_append.1 hu with hu | hu
  ·obtain ⟨y,hy,rfl⟩:=List.mem_map.1 hu
   exact hio.1 y hy
  ·rw [List.mem_singleton.1 hu]; exact hio.2) hm3 hplo (by omega) (by omega) (fun hg=>by have:=(hm.lt c1 hg).1; omega) (fun hk=>by have:=hr.plo.plt hk; omega) bx3 (by rw [←hul]; exact (by rw [hul] at hrd' ⊢; exact hrd'.frame fun k hk=>by have:=aq.1 hk; subst this; rw [k3 _ (by omega),k2 _ (by omega)])) (fun k hk=>by have:=aq.1 hk; omega)
 have hcx:ex.av=.agg ex.cells:=rfl
 rw [hcx] at hev
 have hval:(bp M (aw x.env) ex ((fw p.arrays x).map (·.2))).1=(bp M (aw x.env) ex (x.reads p.arrays)).1:=by
  rw [tL]
  exact nU M (aw x.env) ex (x.reads p.arrays) [x.sets p.arrays] hexo (by omega)
 rw [hval] at hev
 have hoff:((off:Int)+n).toNat=off+n:=by omega
 have hnn1:(n:Int)<(n:Int)+1:=by omega
 simp [bx2,hwn,hnn1,ga2,hlastc,hh2.symm]
 rw [←hh3]
 simp [hro,hi,w2,hgw,hnl,s2,hne,hst8.1,hst8b]
 refine hev.mono ?_
 rintro av ⟨h4,c4⟩ hc4 ⟨rfl,rv',z1,z2,z3,z4⟩
 simp only at hc4 z1 z2 z4
 obtain ⟨v,hv⟩:∃ v,v=(bp M (aw x.env) ex (x.reads p.arrays)).1:=⟨_,rfl⟩
 rw [←hv]
 have by4:=(z4 (c1+1) (by omega) (by omega)).trans by3
 have hm4:MemAt h4 c4 g p.arrays M G:=hm3.frame hc4 fun k hk=>by
  have:k<c0:=hk.elim (fun h=>by omega) fun h=>(hm.lt k h).1
  exact z4 k (by omega) (by omega)
 obtain ⟨ver,hmap⟩:=hm4.map
 have hlk:=gX eJ (f:=fun v:AV=>v) (z:=.nil) (ok:=false) (s:=⟨h4,c4⟩) hmap s.array
 rw [t6] at hlk
 have t7':=hm4.rows j a gi t1 t2
 have hset:=hm4.set hp.apart t1 t2 t3 t4 t5 v
 obtain ⟨K,hK⟩:∃ K,K=(bA a.sizes).toNat:=⟨_,rfl⟩
 rw [←hK] at hlk t5
 simp [by4,hlk,t5,t7',t8]
 have hstep:gM p.arrays M x=fun s'=>if s'=s then v else M s':=by
  funext s'
  unfold gM
  rw [←hs,hv,hex]
 rw [hstep]
 refine ⟨hset,fun k hk hkG=>?_⟩
 have hki:k≠gi:=by
  rintro rfl
  exact hkG (List.mem_of_getElem? t2)
 rw [ad hki,z4 k (by omega) (by omega),k3 k (by omega),k2 k (by omega)]
end Go.Proofs.YtocppbmmfklbmaaGreat
set_option maxRecDepth 20000
set_option maxHeartbeats 4000000
namespace Go.Proofs.YtocppbmmfklbmaaGreat
open Go.AM Go.Wb
@[simp] theorem lR (l:List Int):(aj l).length=l.length:=by simp [aj]
@[simp] theorem zE (l:List Int) (i:Nat) (h:i<(aj l).length):(aj l)[i]=[.int (l[i]'(by simpa using h))]:=by simp [aj]
theorem mA {n:Int} {r:List Int} (hn:1≤n) (hr:∀ z∈r,1≤z) (hc:r.foldl (·*·) n≤20000):n≤20000:=by
 rw [lF] at hc
 have:=hU r hr
 have h2:n*1≤n*r.foldl (·*·) 1:=Int.mul_le_mul_of_nonneg_left this (by omega)
 omega
theorem rG (a:Wb.Array) (ha:OkArray a):aN Pg Fn90.n [.agg a.cells] (.int (bA a.sizes)):=by
 rintro ⟨h0,c0⟩
 refine Fn90.calls .frz ?_
 unfold Fn90.ac
 have hl4:=ha.len
 have hc:=ha.cells
 simp [Array.cells]
 obtain ⟨Inv,hInv⟩:∃ Inv:Nat→List Int→Slots→St→Prop,Inv=fun (i:Nat) r sl s'=>∃ n:Int,sl 3=.int n∧r.foldl (·*·) n=bA a.sizes∧1≤n:=⟨_,rfl⟩
 refine bh 9 Fn90.W0 a.sizes Inv (by rfl) (by rfl) ?_ ?_ ?_
 ·rw [hInv]; exact ⟨by simp,1,by simp,rfl,by omega⟩
 ·intro v h c hv hF hI
  rw [hInv] at hI
  obtain ⟨n,h3,h4,h5⟩:=hI
  simp at h3
  simp only [List.foldl_nil] at h4
  simp [hv,h3,h4]
  exact aE fun k hk=>by rw [hF.h k (by omega),ad (by omega)]
 ·intro i z zs v h c hi hz hl hv hF hI
  rw [hInv] at hI
  obtain ⟨n,h3,h4,h5⟩:=hI
  simp at h3
  simp only [List.foldl_cons] at h4
  have hzz:=(ha.sizes z (aM hl)).1
  have h1:1≤n*z:=Int.le_trans (by omega) (Int.mul_le_mul h5 hzz (by omega) (by omega))
  have hb:=mA h1 (fun y hy=>(ha.sizes y (by rw [hl]; exact List.mem_append_right _ (List.mem_cons_of_mem _ hy))).1) (by rw [h4]; exact hc)
  have hw:=ae (x:=n*z) (by omega) (by omega)
  have hwi:=ae (x:=(i:Int)+1) (by omega) (by omega)
  have hzi:(aj a.sizes)[i]?=some [.int z]:=by simp [aj,hi,hz]
  simp [hv,hi,hzi,h3,hw,hwi,hz]
  refine ⟨hF,?_⟩
  rw [hInv]
  exact ⟨n*z,by simp,h4,h1⟩
theorem rF (a:Wb.Array) (ha:OkArray a):aN Pg Fn52.n [.agg a.cells] (.int (bA a.sizes)):=by
 rintro ⟨h0,c0⟩
 refine Fn52.calls .frz ?_
 unfold Fn52.ac
 have hl4:=ha.len
 have hc:=ha.cells
 simp [Array.cells]
 obtain ⟨Inv,hInv⟩:∃ Inv:Nat→List Int→Slots→St→Prop,Inv=fun (i:Nat) r sl s'=>∃ n:Int,sl 3=.int n∧r.foldl (·*·) n=bA a.sizes∧1≤n:=⟨_,rfl⟩
 refine bh 9 Fn52.W0 a.sizes Inv (by rfl) (by rfl) ?_ ?_ ?_
 ·rw [hInv]; exact ⟨by simp,1,by simp,rfl,by omega⟩
 ·intro v h c hv hF hI
  rw [hInv] at hI
  obtain ⟨n,h3,h4,h5⟩:=hI
  simp at h3
  simp only [List.foldl_nil] at h4
  simp [hv,h3,h4]
  exact aE fun k hk=>by rw [hF.h k (by omega),ad (by omega)]
 ·intro i z zs v h c hi hz hl hv hF hI
  rw [hInv] at hI
  obtain ⟨n,h3,h4,h5⟩:=hI
  simp at h3
  simp only [List.foldl_cons] at h4
  have hzz:=(ha.sizes z (aM hl)).1
  have h1:1≤n*z:=Int.le_trans (by omega) (Int.mul_le_mul h5 hzz (by omega) (by omega))
  have hb:=mA h1 (fun y hy=>(ha.sizes y (by rw [hl]; exact List.mem_append_right _ (List.mem_cons_of_mem _ hy))).1) (by rw [h4]; exact hc)
  have hw:=ae (x:=n*z) (by omega) (by omega)
  have hwi:=ae (x:=(i:Int)+1) (by omega) (by omega)
  have hzi:(aj a.sizes)[i]?=some [.int z]:=by simp [aj,hi,hz]
  simp [hv,hi,hzi,h3,hw,hwi,hz]
  refine ⟨hF,?_⟩
  rw [hInv]
  exact ⟨n*z,by simp,h4,h1⟩
def cj (n:Int):List Int→List Int→Int
 | _,[]=>0
 | done,k::ks=>if ¬(0≤k∧k≤n-1) then 8 else if k∈done then 6 else cj n (done++[k]) ks
def cV (n:Int) (o:List Int):Int:=if (o.length:Int)≠n then 3 else cj n [] o
theorem vK (l:List Int) (v:Int):aN Pg Fn97.n [row (aj l),.int v] (.int (aP (fun x=>decide (v=x)) l 0)):=by
 rintro ⟨h0,c0⟩
 refine ACalls.small fun hs=>?_
 have hlen:l.length≤68719476736:=by simpa [aj] using hs.1.1
 refine Fn97.calls .frz ?_
 unfold Fn97.ac
 simp
 refine bR 8 Fn97.W0 l (fun i r sl=>aP (fun x=>decide (v=x)) l 0=aP (fun x=>decide (v=x)) r i) (by rfl) (by rfl) ?_ ?_ ?_
 ·simp
 ·intro v1 c1 hv hc hI
  simp [hv,hI,aP]
 ·intro i x xs v1 c1 hi hx hl hv hc hI
  have hw:=ae (x:=(i:Int)+1) (by omega) (by omega)
  have hxi:(aj l)[i]?=some [.int x]:=by simp [aj,hi,hx]
  by_cases hpx:v=x
  ·subst hpx
   simp [hv,hi,hxi,hx,hI,aP]
  ·simp [hv,hi,hxi,hx,hpx,hw,hI,aP]; omega
theorem vQ (l:List Int) (v:Int):aN Pg Fn55.n [row (aj l),.int v] (.bool (decide (v∈l))):=by
 intro s
 refine Fn55.calls .frz ?_
 unfold Fn55.ac
 simp
 refine ACalls.pure (vK l v) fun c2 hc2=>?_
 have:decide (v∈l)=l.any fun x=>decide (v=x):=by
  rw [Bool.eq_iff_iff]; simp
 rw [this]
 simp [jt]
theorem vT (n:Nat) (hn:n≤1000000) (o:List Int):aN Pg Fn14.n [.int n,row (aj o)] (.int (cV n o)):=by
 rintro ⟨h0,c0⟩
 refine ACalls.small fun hs=>?_
 have hlen:o.length≤68719476736:=by simp at hs; exact hs.1
 refine Fn14.calls .frz ?_
 unfold Fn14.ac
 have hw1:=ae (x:=(n:Int)-1) (by omega) (by omega)
 by_cases hne:(o.length:Int)=n
 case neg=>simp [hne,cV]
 have hof:cV n o=cj n [] o:=by simp [cV,hne]
 rw [hof]
 simp [hne]
 obtain ⟨Inv,hInv⟩:∃ Inv:Nat→List Int→Slots→St→Prop,Inv=fun i r sl s'=>cj n [] o=cj n (o.take i) r∧s'.h=h0:=⟨_,rfl⟩
 refine aY 13 Fn14.W0 o Inv (by rfl) (by rfl) ?_ ?_ ?_
 ·rw [hInv]; exact ⟨by simp,by simp,rfl⟩
 ·intro v s' hv hI
  rw [hInv] at hI
  obtain ⟨h1,h2⟩:=hI
  obtain ⟨h,c⟩:=s'
  simp only at h2
  subst h2
  rw [h1]
  simp [hv,hne,cj]
 ·intro i k ks v s' hi hk hl hv hI
  rw [hInv] at hI
  obtain ⟨h1,h2⟩:=hI
  obtain ⟨h,c⟩:=s'
  simp only at h2
  subst h2
  have hwi:=ae (x:=(i:Int)+1) (by omega) (by omega)
  have hin:(i:Int)<n:=by omega
  have hile:i≤o.length:=by omega
  have htk:(aj o).take i=aj (o.take i):=by simp [aj]
  simp only [cj] at h1
  simp [hv,hin,hi,hk,hw1]
  refine ACalls.pure (ca _ _ _) fun c1 hc1=>?_
  have hsr:srI 1 (row (aj o)) none (some (.int i)) none=some (row (aj (o.take i))):=by
   rw [←htk]
   exact pV (by simpa using hile) fun e he=>by obtain ⟨t,_,rfl⟩:=List.mem_map.1 he; rfl
  by_cases hk1:0≤k∧k≤(n:Int)-1
  ·rw [if_neg (not_not_intro hk1)] at h1
   simp [hk1,hsr]
   refine ACalls.pure (vQ _ k) fun c2 hc2=>?_
   by_cases hk2:k∈o.take i
   ·rw [if_pos hk2] at h1
    simp [hk2,h1]
   ·rw [if_neg hk2] at h1
    simp [hk2,hv,hwi]
    rw [hInv]
    refine ⟨?_,rfl⟩
    rw [h1,List.take_add_one,List.getElem?_eq_getElem hi,hk]; rfl
  ·rw [if_pos hk1] at h1
   simp [hk1,h1]
def eR (n:Nat) (l:List Int):List (List AV):=(List.range n).map fun (j:Nat)=>[AV.bool (decide ((j:Int)∈l))]
theorem qZ {n:Nat} {l:List Int} {k:Nat}:(eR n l).set k [AV.bool true]=eR n (l++[(k:Int)]):=by
 refine List.ext_getElem? fun j=>?_
 unfold eR
 by_cases hj:j<n
 ·by_cases hjk:j=k
  ·subst hjk
   rw [List.getElem?_set_self (by simpa using hj)]
   simp [hj]
  ·rw [List.getElem?_set_ne (fun e=>hjk e.symm)]
   have:¬(j:Int)=k:=by omega
   simp [hj,this]
 ·rw [List.getElem?_eq_none (by simpa using hj),List.getElem?_eq_none (by simpa using hj)]
theorem vA (n:Nat) (hn:n≤1000000) (o:List Int):aN Pg Fn51.n [row (aj o),.int n] (.int (cV n o)):=by
 rintro ⟨h0,c0⟩
 refine ACalls.small fun hs=>?_
 have hlen:o.length≤68719476736:=by simp at hs; exact hs.1
 refine Fn51.calls .frz ?_
 unfold Fn51.ac
 have hw1:=ae (x:=(n:Int)-1) (by omega) (by omega)
 by_cases hne:(o.length:Int)=n
 case neg=>simp [hne,cV]
 have hof:cV n o=cj n [] o:=by simp [cV,hne]
 rw [hof]
 have hms:msI 1 [.bool false] 1 (.int n) (.int n) ⟨h0,c0⟩=some (.row c0 1 0 n,⟨upd h0 c0 (some (.row 1 (eR n []) .live none)),c0+1⟩):=by
  have h1:(n:Int)≤68719476736:=by omega
  have h2:eR n []=List.replicate n [AV.bool false]:=by
   refine List.ext_getElem? fun j=>?_
   unfold eR
   by_cases hj:j<n
   ·simp [hj]
   ·rw [List.getElem?_eq_none (by simpa using hj),List.getElem?_eq_none (by simpa using hj)]
  rw [h2]
  simp [msI,asI,h1,AM.newRow,az]
  try rfl
 simp [hne,hms]
 obtain ⟨Inv,hInv⟩:∃ Inv:Nat→List Int→Slots→St→Prop,Inv=fun i r sl s'=>cj n [] o=cj n (o.take i) r∧s'.h c0=some (.row 1 (eR n (o.take i)) .live none)∧(∀ k,k<c0→s'.h k=h0 k)∧c0+1≤s'.c:=⟨_,rfl⟩
 refine aY 16 Fn51.W0 o Inv (by rfl) (by rfl) ?_ ?_ ?_
 ·rw [hInv]
  exact ⟨by simp,by simp,af,fun k hk=>ad (by omega),Nat.le_refl _⟩
 ·intro v s' hv hI
  rw [hInv] at hI
  obtain ⟨h1,h2,h3,h4⟩:=hI
  rw [h1]
  simp [hv,hne,cj]
  exact aE h3
 ·intro i k ks v s' hi hk hl hv hI
  rw [hInv] at hI
  obtain ⟨h1,h2,h3,h4⟩:=hI
  obtain ⟨h,c⟩:=s'
  simp only at h2 h3 h4
  have hwi:=ae (x:=(i:Int)+1) (by omega) (by omega)
  have hin:(i:Int)<n:=by omega
  simp only [cj] at h1
  simp [hv,hin,hi,hk,hw1]
  refine ACalls.pure (eL _ _ _) fun c1 hc1=>?_
  by_cases hk1:0≤k∧k≤(n:Int)-1
  ·rw [if_neg (not_not_intro hk1)] at h1
   obtain ⟨kn,rfl⟩:∃ kn:Nat,k=kn:=⟨k.toNat,by omega⟩
   have hkn:kn<n:=by omega
   have hsn:(eR n (o.take i))[kn]?=some [AV.bool (decide ((kn:Int)∈o.take i))]:=by simp [eR,hkn]
   by_cases hk2:(kn:Int)∈o.take i
   ·rw [if_pos hk2] at h1
    rw [decide_eq_true hk2] at hsn
    simp [hk1,hkn,h2,hsn,h1]
    exact aE h3
   ·rw [if_neg hk2] at h1
    rw [decide_eq_false hk2] at hsn
    simp [hk1,hkn,h2,hsn,hv,hwi]
    rw [hInv]
    refine ⟨?_,?_,fun k hk=>(ad (by omega)).trans (h3 k hk),by show c0+1≤c1; omega⟩
    ·rw [h1,List.take_add_one,List.getElem?_eq_getElem hi,hk]; rfl
    ·show upd h c0 _ c0=_
     rw [af,qZ,List.take_add_one,List.getElem?_eq_getElem hi,hk]; rfl
  ·rw [if_pos hk1] at h1
   simp [hk1,h1]
   exact aE h3
end Go.Proofs.YtocppbmmfklbmaaGreat
set_option maxRecDepth 20000
set_option maxHeartbeats 4000000
namespace Go.Proofs.YtocppbmmfklbmaaGreat
open Go.AM Go.Wb
def gq (v:Int):Bool:=!decide (0≤v∧v≤1000002)
def bG (A:List Wb.Array):ByteArray→List Wb.Grid→Int
 | _,[]=>0
 | last,g::gs=>if bK g.key=false then 5 else if sle g.key last=true then 7 else if bC A g.key<0 then 8 else if (g.values.length:Int)≠bA (ei A g.key) then 3 else if g.values.any gq=true then 1 else bG A g.key gs
theorem vV (l:List Int) (f:Nat) (p:Int→Bool) (h:Heap) (c:Nat) (hp:m8 f [] [] AV.int h c p l) :
  ACalls Pg Fn96.n [row (aj l),.fn (.func f) [] []] ⟨h,c⟩ fun av s'=>av=.int (aP p l 0)∧s'.h=h:=by
 refine ACalls.small fun hs=>?_
 have hlen:l.length≤68719476736:=by simp at hs; exact hs.1
 refine Fn96.calls .frz ?_
 unfold Fn96.ac
 simp
 refine bR 8 Fn96.W0 l (fun i r sl=>aP p l 0=aP p r i) (by rfl) (by rfl) ?_ ?_ ?_
 ·simp
 ·intro v c1 hv hc hI
  simp [hv,hI,aP]
 ·intro i x xs v c1 hi hx hl hv hc hI
  have hw:=ae (x:=(i:Int)+1) (by omega) (by omega)
  have hpx:=hp x (aM hl) c1 hc
  simp [hv,hi,hx]
  refine ACalls.at hpx fun c2 hc2=>?_
  by_cases hpx:p x=true
  ·simp [hpx,hI,aP]
  ·simp [hpx,hv,hw,hI,aP]; omega
theorem rI (l:List Int) (f:Nat) (p:Int→Bool) (h:Heap) (c:Nat) (hp:m8 f [] [] AV.int h c p l) :
  ACalls Pg Fn53.n [row (aj l),.fn (.func f) [] []] ⟨h,c⟩ fun av s'=>av=.bool (l.any p)∧s'.h=h:=by
 refine Fn53.calls .frz ?_
 unfold Fn53.ac
 simp
 refine ACalls.at (vV l f p h c hp) fun c2 hc2=>?_
 simp [jt]
theorem vC (v:Int):aN Pg Fn54.n [.int v] (.bool (gq v)):=by
 intro s
 refine Fn54.calls .frz ?_
 unfold Fn54.ac
 simp
 refine ACalls.pure (ca _ _ _) fun c1 hc1=>?_
 simp [gq]
theorem vZ (v:Int):aN Pg Fn91.n [.int v] (.bool (gq v)):=by
 intro s
 refine Fn91.calls .frz ?_
 unfold Fn91.ac
 simp
 refine ACalls.pure (eL _ _ _) fun c1 hc1=>?_
 simp [gq]
theorem iw {A:List Wb.Array} {key:ByteArray} (h:¬bC A key<0):∃ (i:Nat) (a:Wb.Array),A[i]?=some a∧bC A key=i∧i<A.length∧ei A key=a.sizes∧a.key=key:=by
 obtain ⟨i,a,hi,h1,h2,h3,h4⟩:=fU h
 exact ⟨i,a,by rw [List.getElem?_eq_getElem hi,h2],h1,hi,h4,h3⟩
theorem vU (p:Wb.Prog) (hA:∀ a∈p.arrays,OkArray a) (gs:List Wb.Grid):aN Pg Fn12.n [p.av,row (gs.map Grid.cells)] (.int (bG p.arrays ⟨#[]⟩ gs)):=by
 rintro ⟨h0,c0⟩
 refine ACalls.small fun hs=>?_
 have hlen:gs.length≤68719476736:=by simp [Prog.av] at hs; omega
 have hcal:=iD p
 simp only [Prog.av] at hcal
 refine Fn12.calls .frz ?_
 unfold Fn12.ac
 simp [Prog.av]
 obtain ⟨hb,hhb⟩:∃ hb,hb=upd h0 c0 (some (.row 2 [[row (p.arrays.map Array.cells),row (p.steps.map Step.cells)]] .live none)):=⟨_,rfl⟩
 rw [←hhb]
 have hbx:hb c0=_:=(congrFun hhb c0).trans af
 have hF0:Fr c0 h0 hb (c0+1):=by rw [hhb]; exact (Fr.refl _ _).upd (Nat.le_refl _) (Nat.le_succ _)
 obtain ⟨Inv,hInv⟩:∃ Inv:Nat→List Wb.Grid→Slots→St→Prop,Inv=fun i r sl s'=>∃ last,sl 5=.str last∧bG p.arrays ⟨#[]⟩ gs=bG p.arrays last r:=⟨_,rfl⟩
 refine bh 11 Fn12.W0 gs Inv (by rfl) (by rfl) ?_ ?_ ?_
 ·rw [hInv]; exact ⟨by simp,_,by simp,rfl⟩
 ·intro v h c hv hF hI
  rw [hInv] at hI
  obtain ⟨last,h5,hI⟩:=hI
  rw [hI]
  simp [hv,bG]
  exact (hF0.trans hF).retH
 ·intro i g gs' v h c hi hx hl hv hF hI
  rw [hInv] at hI
  obtain ⟨last,h5,hI⟩:=hI
  simp at h5
  have hw:=ae (x:=(i:Int)+1) (by omega) (by omega)
  simp only [bG] at hI
  have hcc:=hF.c
  obtain ⟨h2,hh2⟩:∃ h2,h2=upd h c (some (.row 2 [[.str g.key,row (aj g.values)]] .live none)):=⟨_,rfl⟩
  have hF2:Fr (c0+1) hb h2 (c+1):=by rw [hh2]; exact hF.upd hcc (Nat.le_succ _)
  have hb2:h2 c0=_:=(hF2.h c0 (by omega)).trans hbx
  have hbo:=(hF.h c0 (by omega)).trans hbx
  have hg2:=(congrFun hh2 c).trans af
  have hend:retH c0 h0 h2=h0:=(hF0.trans hF2).retH
  have hcc0:¬c0=c:=by omega
  simp [hv,hi,hx,Grid.cells,←hh2,hb2,hg2]
  refine ACalls.pure (hcal g.key) fun c2 hc2=>?_
  simp [hg2]
  refine ACalls.pure (jy g.key) fun c3 hc3=>?_
  by_cases k1:bK g.key=false
  ·rw [if_pos k1] at hI
   simp [k1,hI]
   exact hend
  rw [if_neg k1] at hI
  have k1':bK g.key=true:=by simpa using k1
  by_cases k2:sle g.key last=true
  ·rw [if_pos k2] at hI
   simp [k1',hg2,h5,k2,hI]
   exact hend
  rw [if_neg k2] at hI
  by_cases k3:bC p.arrays g.key<0
  ·rw [if_pos k3] at hI
   simp [k1',hg2,h5,k2,k3,hI]
   exact hend
  rw [if_neg k3] at hI
  obtain ⟨j,a,hj,hja,hjl,hjs,hjk⟩:=iw k3
  have ha:=hA a (List.mem_of_getElem? hj)
  have hjc:(p.arrays.map Array.cells)[j]?=some [.str a.key,row (aj a.sizes)]:=by rw [List.getElem?_map,hj]; rfl
  have hje:p.arrays[j]=a:=(List.getElem?_eq_some_iff.1 hj).2
  have hcel:=rF a ha
  simp only [Array.cells] at hcel
  rw [hja] at k3
  rw [hjs] at hI
  simp [k1',hg2,h5,k2,k3,hja,hb2,hjl,hje,Array.cells]
  refine ACalls.pure hcel fun c4 hc4=>?_
  by_cases k4:(g.values.length:Int)=bA a.sizes
  case neg=>
   rw [if_pos k4] at hI
   simp [k4,hg2,hb2,hI,hjl,hje,Array.cells]
   exact hend
  rw [if_neg (not_not_intro k4)] at hI
  simp [k4,hg2,hb2,hjl,hje,Array.cells]
  refine ACalls.at (rI g.values _ gq h2 c4 fun x hx c' hc'=>?_) fun c5 hc5=>?_
  ·exact vC x ⟨h2,c'⟩
  by_cases k5:g.values.any gq=true
  ·rw [if_pos k5] at hI
   simp only [k5]
   simp [hI]
   exact hend
  ·rw [if_neg k5] at hI
   have k5':g.values.any gq=false:=by simpa using k5
   simp only [k5']
   simp [hg2,hv,hw]
   refine ⟨⟨by show c0+1≤c5; omega,hF2.h⟩,?_⟩
   rw [hInv]
   exact ⟨g.key,by simp,hI⟩
end Go.Proofs.YtocppbmmfklbmaaGreat
set_option maxRecDepth 20000
set_option maxHeartbeats 4000000
namespace Go.Proofs.YtocppbmmfklbmaaGreat
open Go.AM Go.Wb
theorem n9 (p:Wb.Prog) (hA:∀ a∈p.arrays,OkArray a) (gs:List Wb.Grid):aN Pg Fn47.n [p.av,row (gs.map Grid.cells)] (.int (bG p.arrays ⟨#[]⟩ gs)):=by
 rintro ⟨h0,c0⟩
 refine ACalls.small fun hs=>?_
 have hlen:gs.length≤68719476736:=by simp [Prog.av] at hs; omega
 have hcal:=og p
 simp only [Prog.av] at hcal
 refine Fn47.calls .frz ?_
 unfold Fn47.ac
 simp [Prog.av]
 obtain ⟨hb,hhb⟩:∃ hb,hb=upd h0 c0 (some (.row 2 [[row (p.arrays.map Array.cells),row (p.steps.map Step.cells)]] .live none)):=⟨_,rfl⟩
 rw [←hhb]
 have hbx:hb c0=_:=(congrFun hhb c0).trans af
 have hF0:Fr c0 h0 hb (c0+1):=by rw [hhb]; exact (Fr.refl _ _).upd (Nat.le_refl _) (Nat.le_succ _)
 obtain ⟨Inv,hInv⟩:∃ Inv:Nat→List Wb.Grid→Slots→St→Prop,Inv=fun (i:Nat) r sl s'=>∃ last,bG p.arrays ⟨#[]⟩ gs=bG p.arrays last r∧(i=0→last=⟨#[]⟩)∧∀ t,0<i→gs[i-1]?=some t→t.key=last:=⟨_,rfl⟩
 refine bh 10 Fn47.W0 gs Inv (by rfl) (by rfl) ?_ ?_ ?_
 ·rw [hInv]; exact ⟨by simp,_,rfl,fun _=>rfl,fun t h=>by omega⟩
 ·intro v h c hv hF hI
  rw [hInv] at hI
  obtain ⟨last,hI,_⟩:=hI
  rw [hI]
  simp [hv,bG]
  exact (hF0.trans hF).retH
 ·intro i g gs' v h c hi hx hl hv hF hI
  rw [hInv] at hI
  obtain ⟨last,hI,hI0,hI1⟩:=hI
  have hw:=ae (x:=(i:Int)+1) (by omega) (by omega)
  simp only [bG] at hI
  have hcc:=hF.c
  obtain ⟨h2,hh2⟩:∃ h2,h2=upd h c (some (.row 2 [[.str g.key,row (aj g.values)]] .live none)):=⟨_,rfl⟩
  have hF2:Fr (c0+1) hb h2 (c+1):=by rw [hh2]; exact hF.upd hcc (Nat.le_succ _)
  have hb2:h2 c0=_:=(hF2.h c0 (by omega)).trans hbx
  have hbo:=(hF.h c0 (by omega)).trans hbx
  have hg2:=(congrFun hh2 c).trans af
  have hend:retH c0 h0 h2=h0:=(hF0.trans hF2).retH
  have hcc0:¬c0=c:=by omega
  simp [hv,hi,hx,Grid.cells,←hh2,hb2,hg2]
  refine ACalls.pure (hcal g.key) fun c2 hc2=>?_
  simp [hg2]
  refine ACalls.pure (lN g.key) fun c3 hc3=>?_
  by_cases k1:bK g.key=false
  ·rw [if_pos k1] at hI
   simp [k1,hI]
   exact hend
  rw [if_neg k1] at hI
  have k1':bK g.key=true:=by simpa using k1
  have hsle:i=0→sle g.key last=false:=fun h=>by rw [hI0 h]; exact oP k1'
  have hi1:i-1<gs.length:=by omega
  have hw2:0<i→IntKind.i64.wrap ((i:Int)-1)=((i-1:Nat):Int):=fun h=>by rw [ae (by omega) (by omega)]; omega
  simp [k1',hg2]
  by_cases k2:sle g.key last=true
  ·have h6:0<i:=Nat.pos_of_ne_zero fun e=>by rw [hsle e] at k2; cases k2
   have hn:=hI1 gs[i-1] h6 (List.getElem?_eq_getElem hi1)
   rw [if_pos k2] at hI
   simp [h6,hg2,hw2 h6,hi1,hn,Grid.cells,k2,hI]
   exact hend
  rw [if_neg k2] at hI
  have k2':sle g.key last=false:=by simpa using k2
  by_cases h6:0<i
  case' pos=>
   have hn:=hI1 gs[i-1] h6 (List.getElem?_eq_getElem hi1)
   simp [h6,hg2,hw2 h6,hi1,hn,Grid.cells,k2']
  case' neg=>simp [h6]
  all_goals
   by_cases k3:bC p.arrays g.key<0
   ·rw [if_pos k3] at hI
    simp [k3,hI]
    exact hend
   rw [if_neg k3] at hI
   obtain ⟨j,a,hj,hja,hjl,hjs,hjk⟩:=iw k3
   have ha:=hA a (List.mem_of_getElem? hj)
   have hjc:(p.arrays.map Array.cells)[j]?=some [.str a.key,row (aj a.sizes)]:=by rw [List.getElem?_map,hj]; rfl
   have hje:p.arrays[j]=a:=(List.getElem?_eq_some_iff.1 hj).2
   have hcel:=rG a ha
   simp only [Array.cells] at hcel
   rw [hja] at k3
   rw [hjs] at hI
   simp [hg2,k3,hja,hb2,hjl,hje,Array.cells]
   refine ACalls.pure hcel fun c4 hc4=>?_
   by_cases k4:(g.values.length:Int)=bA a.sizes
   case neg=>
    rw [if_pos k4] at hI
    simp [k4,hg2,hb2,hI,hjl,hje,Array.cells]
    exact hend
   rw [if_neg (not_not_intro k4)] at hI
   simp [k4,hg2,hb2,hjl,hje,Array.cells]
   refine ACalls.at (rI g.values _ gq h2 c4 fun x hx c' hc'=>?_) fun c5 hc5=>?_
   ·exact vZ x ⟨h2,c'⟩
   by_cases k5:g.values.any gq=true
   ·rw [if_pos k5] at hI
    simp only [k5]
    simp [hI]
    exact hend
   ·rw [if_neg k5] at hI
    have k5':g.values.any gq=false:=by simpa using k5
    simp only [k5']
    simp [hg2,hv,hw]
    refine ⟨⟨by show c0+1≤c5; omega,hF2.h⟩,?_⟩
    rw [hInv]
    refine ⟨g.key,hI,fun h=>by omega,fun t _ ht=>?_⟩
    rw [show i+1-1=i by omega,List.getElem?_eq_getElem hi,hx] at ht
    injection ht with ht; rw [ht]
end Go.Proofs.YtocppbmmfklbmaaGreat
set_option maxRecDepth 20000
set_option maxHeartbeats 4000000
namespace Go.Proofs.YtocppbmmfklbmaaGreat
open Go.AM Go.Wb
def de (p:Wb.Prog) (gs:List Wb.Grid):Int:=if aW p=0 then bG p.arrays ⟨#[]⟩ gs else aW p
theorem vo (p:Wb.Prog) (hcnt:aC p.steps≤300) (gs:List Wb.Grid):aN Pg Fn17.n [p.av,row (gs.map Grid.cells)] (.int (de p gs)):=by
 rintro ⟨h0,c0⟩
 have hck:=rh p (by omega)
 simp only [Prog.av] at hck
 refine Fn17.calls .frz ?_
 unfold Fn17.ac
 simp [Prog.av]
 refine ACalls.pure hck fun c1 hc1=>?_
 by_cases hz:aW p=0
 case neg=>simp [hz,de]
 have hcg:=n9 p (fy hz).arrays gs
 simp only [Prog.av] at hcg
 simp [hz]
 refine ACalls.pure hcg fun c2 hc2=>?_
 simp [de,hz]
theorem po (p:Wb.Prog):bq p=if aW p=0 then eo p else aW p:=rfl
theorem rr (p:Wb.Prog) (hcnt:aC p.steps≤300) (h0:Heap) (c0:Nat):ACalls Pg Fn46.n [p.av] ⟨h0,c0⟩ fun av s'=>Fr c0 h0 s'.h s'.c∧if bq p=0 then ∃ go stm which vals rnd acc frm,av=.tup [.ptr go 0 0,.int 0]∧RanAt s'.h s'.c go p stm which vals rnd acc frm else av=.tup [.nilp,.int (bq p)]:=by
 have hck:=rh p (by omega)
 simp only [Prog.av] at hck
 refine Fn46.calls .keep ?_
 unfold Fn46.ac
 obtain ⟨hb,hhb⟩:∃ hb,hb=upd h0 c0 (some (.row 2 [[row (p.arrays.map Array.cells),row (p.steps.map Step.cells)]] .live none)):=⟨_,rfl⟩
 have hF0:Fr c0 h0 hb (c0+1):=by rw [hhb]; exact (Fr.refl _ _).upd (Nat.le_refl _) (Nat.le_succ _)
 have hbx:=(congrFun hhb c0).trans af
 rw [po]
 simp [Prog.av,←hhb,hbx]
 refine ACalls.pure hck fun c1 hc1=>?_
 by_cases hz:aW p=0
 case neg=>
  simp [hz]
  exact ⟨by show c0≤c1; omega,hF0.h⟩
 have hpl:=vf p (fy hz) hcnt hb c1
 simp only [Prog.av] at hpl
 simp [hz,hbx]
 refine hpl.mono ?_
 rintro av ⟨h2,c2⟩ hc2 ⟨hF,hq⟩
 simp only at hc2 hF hq
 have hFF:Fr c0 h0 h2 c2:=⟨by omega,fun k hk=>(hF.h k (by omega)).trans (hF0.h k hk)⟩
 by_cases hpz:eo p=0
 ·rw [if_pos hpz] at hq
  obtain ⟨go,stm,which,vals,rnd,acc,frm,rfl,hr⟩:=hq
  simp [hpz]
  exact ⟨hFF,stm,which,vals,rnd,acc,frm,hr⟩
 ·rw [if_neg hpz] at hq
  subst hq
  simp [hpz]
  exact hFF
theorem MemAt.put {h:Heap} {c g:Nat} {A:List Wb.Array} {M M':Mem} {G:List Nat} (x:MemAt h c g A M G) (hA:gH A) {i gi:Nat} {a:Wb.Array} (h1:A[i]?=some a) (h2:G[i]?=some gi) {vs:List Int} (e1:bn M' a=vs) (e2:∀ s,s.array≠a.key→M' s=M s) :
  MemAt (AM.upd h gi (some (.row 1 (aj vs) .live none))) c g A M' G:=by
 obtain ⟨ver,hm⟩:=x.map
 have hg:=x.lt gi (List.mem_of_getElem? h2)
 refine ⟨x.len,⟨ver,(ad (Ne.symm hg.2)).trans hm⟩,fun j b gj f1 f2=>?_,x.lt,x.nd,x.gc⟩
 by_cases hij:j=i
 ·subst hij
  rw [h1] at f1; injection f1 with f1; subst f1
  rw [h2] at f2; injection f2 with f2; subst f2
  rw [af,e1]
 ·have hne:gj≠gi:=fun e=>by
   subst e
   obtain ⟨hj2,hj3⟩:=List.getElem?_eq_some_iff.1 f2
   obtain ⟨hi2,hi3⟩:=List.getElem?_eq_some_iff.1 h2
   have:=List.pairwise_iff_getElem.1 x.nd
   rcases Nat.lt_trichotomy i j with h | h | h
   ·exact this i j hi2 hj2 h (by rw [hi3,hj3])
   ·exact hij h.symm
   ·exact this j i hj2 hi2 h (by rw [hi3,hj3])
  rw [ad hne,x.rows j b gj f1 f2]
  have hkey:b.key≠a.key:=by
   rcases Nat.lt_trichotomy i j with h | h | h
   ·exact fun e=>hA j i b a f1 h1 h e.symm
   ·exact absurd h.symm hij
   ·exact fun e=>hA i j a b h1 f1 h e
  have:bn M' b=bn M b:=by
   unfold bn
   exact List.map_congr_left fun k _=>e2 _ hkey
  rw [this]
def gU (A:List Wb.Array) (g:Wb.Grid):Prop:=∃ (i:Nat) (a:Wb.Array),A[i]?=some a∧a.key=g.key∧(g.values.length:Int)=bA a.sizes∧∀ v∈g.values,0≤v∧v≤1000002
theorem kE {A:List Wb.Array}:∀ {gs:List Wb.Grid} {last:ByteArray},bG A last gs=0→∀ g∈gs,gU A g
 | [],_,_,g,hg=>by cases hg
 | x::gs,last,h,g,hg=>by
  simp only [bG] at h
  split at h
  ·cases h
  ·split at h
   ·cases h
   ·split at h
    ·cases h
    ·rename_i h3
     split at h
     ·cases h
     ·rename_i h4
      split at h
      ·cases h
      ·rename_i h5
       rcases List.mem_cons.1 hg with rfl | hg
       ·obtain ⟨j,a,hj,hja,hjl,hjs,hjk⟩:=iw h3
        rw [hjs] at h4
        refine ⟨j,a,hj,hjk,Classical.byContradiction h4,fun v hv=>?_⟩
        have h5':g.values.any gq=false:=by simpa using h5
        have:=List.any_eq_false.1 h5' v hv
        unfold gq at this
        simpa using this
       ·exact kE h g hg
theorem rV {A:List Wb.Array} {M:Mem} (hM:d6 M) {g:Wb.Grid} (hg:gU A g):d6 (cU M g):=fun s=>by
 unfold cU
 split
 ·rename_i h
  obtain ⟨_,_,_,_,_,hv⟩:=hg
  rw [List.getD_eq_getElem?_getD,List.getElem?_eq_getElem (by omega)]
  exact hv _ (List.getElem_mem _)
 ·exact hM s
theorem oO {A:List Wb.Array}:∀ (gs:List Wb.Grid) (M:Mem),d6 M→(∀ g∈gs,gU A g)→d6 (gs.foldl cU M)
 | [],M,hM,_=>hM
 | g::gs,M,hM,h=>oO gs _ (rV hM (h g List.mem_cons_self)) fun x hx=>h x (List.mem_cons_of_mem _ hx)
theorem mX {A:List Wb.Array} {gs:List Wb.Grid} (h:∀ g∈gs,gU A g):d6 (dn gs):=oO gs _ (fun s=>by simp) h
theorem qE {M:Mem} {g:Wb.Grid} {a:Wb.Array} (h:a.key=g.key) (hl:(g.values.length:Int)=bA a.sizes):bn (cU M g) a=g.values:=by
 refine List.ext_getElem? fun k=>?_
 unfold bn
 have hk':(bA a.sizes).toNat=g.values.length:=by omega
 by_cases hk:k<g.values.length
 ·rw [List.getElem?_map,List.getElem?_range (by omega),List.getElem?_eq_getElem hk]
  simp [cU,h,hk]
 ·rw [List.getElem?_eq_none (by simp; omega),List.getElem?_eq_none (by omega)]
end Go.Proofs.YtocppbmmfklbmaaGreat
set_option maxRecDepth 20000
set_option maxHeartbeats 4000000
namespace Go.Proofs.YtocppbmmfklbmaaGreat
open Go.AM Go.Wb
theorem nC:∀ {A B:List Wb.Array} {G H:List Nat},A.length=G.length→ct (A++B) (G++H)=ct A G++ct B H
 | [],B,[],H,_=>rfl
 | [],B,y::G,H,h=>by simp at h
 | x::A,B,[],H,h=>by simp at h
 | x::A,B,y::G,H,h=>by
  have:=nC (A:=A) (B:=B) (G:=G) (H:=H) (by simpa using h)
  unfold ct at this ⊢
  simp only [List.cons_append,List.zipWith_cons_cons,this]
theorem mq:∀ {A:List Wb.Array} {G:List Nat} {q:ByteArray×AV},q∈ct A G→∃ a∈A,q.1=a.key
 | [],G,q,h=>by simp [ct] at h
 | x::A,[],q,h=>by simp [ct] at h
 | x::A,y::G,q,h=>by
  unfold ct at h
  simp only [List.zipWith_cons_cons,List.mem_cons] at h
  rcases h with rfl | h
  ·exact ⟨x,List.mem_cons_self,rfl⟩
  ·obtain ⟨a,h1,h2⟩:=mq (A:=A) (G:=G) h
   exact ⟨a,List.mem_cons_of_mem _ h1,h2⟩
theorem rB (p:Wb.Prog) (hp:Right p) (gs:List Wb.Grid) (hgs:∀ g∈gs,gU p.arrays g) (h0:Heap) (c0:Nat) :
  ACalls Pg Fn48.n [p.av,row (gs.map Grid.cells)] ⟨h0,c0⟩ fun av s'=>Fr c0 h0 s'.h s'.c∧∃ gm G,av=.map gm∧c0≤gm∧(∀ gi∈G,c0≤gi)∧MemAt s'.h s'.c gm p.arrays (dn gs) G:=by
 refine ACalls.small fun hsm=>?_
 have hlen:p.arrays.length≤68719476736∧gs.length≤68719476736:=by simp [Prog.av] at hsm; omega
 refine Fn48.calls .keep ?_
 unfold Fn48.ac
 simp [Prog.av]
 obtain ⟨hb,hhb⟩:∃ hb,hb=upd (upd h0 c0 (some (.row 2 [[row (p.arrays.map Array.cells),row (p.steps.map Step.cells)]] .live none))) (c0+1) (some (.map [] (c0+1))):=⟨_,rfl⟩
 rw [←hhb]
 have hbx:hb c0=some (.row 2 [[row (p.arrays.map Array.cells),row (p.steps.map Step.cells)]] .live none):=by rw [hhb,ad (by omega),af]
 have hbm:hb (c0+1)=some (.map [] (c0+1)):=by rw [hhb,af]
 have hF0:Fr c0 h0 hb (c0+1+1):=⟨by omega,fun k hk=>by rw [hhb,ad (by omega),ad (by omega)]⟩
 obtain ⟨Inv,hInv⟩:∃ Inv:Nat→List Wb.Array→Slots→St→Prop,Inv=fun (i:Nat) r sl s'=>Fr c0 h0 s'.h s'.c∧∃ G,(∀ gi∈G,c0≤gi)∧MemAt s'.h s'.c (c0+1) (p.arrays.take i) (fun _=>0) G:=⟨_,rfl⟩
 refine aY 14 Fn48.W0 p.arrays Inv (by rfl) (by rfl) ?_ ?_ ?_
 ·rw [hInv]
  exact ⟨by simp,hF0,[],by simp,⟨rfl,⟨c0+1,hbm⟩,by simp,by simp,by simp,by show c0+1<c0+1+1; omega⟩⟩
 ·intro v s' hv hI
  rw [hInv,List.take_length] at hI
  obtain ⟨hF,G,hG,hm⟩:=hI
  obtain ⟨h,c⟩:=s'
  simp only at hF hm
  simp [hv]
  obtain ⟨Inv2,hInv2⟩:∃ Inv:Nat→List Wb.Grid→Slots→St→Prop,Inv=fun (i:Nat) r sl s'=>Fr c0 h0 s'.h s'.c∧MemAt s'.h s'.c (c0+1) p.arrays ((gs.take i).foldl cU fun _=>0) G:=⟨_,rfl⟩
  refine aY 27 Fn48.W1 gs Inv2 (by rfl) (by rfl) ?_ ?_ ?_
  ·rw [hInv2]
   exact ⟨by simp,hF,hm⟩
  ·intro v2 s2 hv2 hI2
   rw [hInv2,List.take_length] at hI2
   obtain ⟨hF2,hm2⟩:=hI2
   obtain ⟨h2,c2⟩:=s2
   simp [hv2]
   exact ⟨hF2,G,hG,hm2⟩
  ·intro i g gs' v2 s2 hi hx hl hv2 hI2
   rw [hInv2] at hI2
   obtain ⟨hF2,hm2⟩:=hI2
   obtain ⟨h2,c2⟩:=s2
   simp only at hF2 hm2
   have hw:=ae (x:=(i:Int)+1) (by omega) (by omega)
   obtain ⟨j,a,hj,hjk,hvl,hvr⟩:=hgs g (aM hl)
   have hjG:j<G.length:=by rw [hm2.len]; exact (List.getElem?_eq_some_iff.1 hj).1
   have hgj:G[j]?=some G[j]:=List.getElem?_eq_getElem hjG
   obtain ⟨gj,hgj'⟩:∃ gj,gj=G[j]:=⟨_,rfl⟩
   rw [←hgj'] at hgj
   obtain ⟨h3,hh3⟩:∃ h3,h3=upd h2 c2 (some (.row 2 [[.str g.key,row (aj g.values)]] .live none)):=⟨_,rfl⟩
   have hm3:MemAt h3 (c2+1) (c0+1) p.arrays ((gs.take i).foldl cU fun _=>0) G:=hm2.frame (Nat.le_succ _) fun k hk=>by
    have h1:=hm2.gc
    have:k<c2:=hk.elim (fun h=>by omega) fun h=>(hm2.lt k h).1
    rw [hh3,ad (by omega)]
   have hb3:=(congrFun hh3 c2).trans af
   obtain ⟨ver,hmap⟩:=hm3.map
   have hlk:=gX eJ (f:=fun v:AV=>v) (z:=.nil) (ok:=false) (s:=⟨h3,c2+1⟩) hmap g.key
   rw [←hjk,mT hp.apart j a gj hj hgj,hjk] at hlk
   have hrow:=hm3.rows j a gj hj hgj
   have hgjl:=hm3.lt gj (List.mem_of_getElem? hgj)
   obtain ⟨K,hK⟩:∃ K,K=(bA a.sizes).toNat:=⟨_,rfl⟩
   rw [←hK] at hlk
   have hKl:g.values.length=K:=by omega
   have hcp:cpI 1 (.row gj 1 0 K) (row (aj g.values)) ⟨h3,c2+1⟩=some (.int K,⟨upd h3 gj (some (.row 1 (aj g.values) .live none)),c2+1⟩):=by
    have h1:(bn ((gs.take i).foldl cU fun _=>0) a).length=K:=by rw [iz,hK]
    have h2:(aj g.values).take K=aj g.values:=List.take_of_length_le (by simp [hKl])
    have h3:(aj (bn ((gs.take i).foldl cU fun _=>0) a)).drop K=[]:=List.drop_of_length_le (by simp [h1])
    have h4:row (aj g.values)=.sl (aj g.values) false:=by simp
    rw [h4]
    simp [cpI,St.show_,hrow,jH,d8,h1,h2,h3,hKl]
   simp [hv2,hi,hx,Grid.cells,←hh3,hb3,hlk,hcp,hw]
   rw [hInv2]
   have hput:=hm3.put hp.apart hj hgj (M':=cU ((gs.take i).foldl cU fun _=>0) g) (qE hjk hvl) (fun s hs=>by
    unfold cU
    rw [if_neg fun h=>hs (h.1.trans hjk.symm)])
   refine ⟨⟨by have:=hF2.c; show c0≤c2+1; omega,fun k hk=>?_⟩,?_⟩
   ·show upd h3 gj _ k=_
    rw [ad (by have:=hG gj (List.mem_of_getElem? hgj); omega),hh3,ad (by have:=hF2.c; omega)]; exact hF2.h k hk
   ·rw [List.take_add_one,List.getElem?_eq_getElem hi,hx,List.foldl_append]
    exact hput
 ·intro i a as' v s' hi hx hl hv hI
  rw [hInv] at hI
  obtain ⟨hF,G,hG,hm⟩:=hI
  obtain ⟨h,c⟩:=s'
  simp only at hF hm
  have hw:=ae (x:=(i:Int)+1) (by omega) (by omega)
  have ha:=hp.arrays a (aM hl)
  have hca:=ha.cells
  have hc1:1≤bA a.sizes:=hU a.sizes fun z hz=>(ha.sizes z hz).1
  have hcel:=rG a ha
  simp only [Array.cells] at hcel
  obtain ⟨h2,hh2⟩:∃ h2,h2=upd h c (some (.row 2 [[.str a.key,row (aj a.sizes)]] .live none)):=⟨_,rfl⟩
  have hb2:=(congrFun hh2 c).trans af
  obtain ⟨K,hK⟩:∃ K,K=(bA a.sizes).toNat:=⟨_,rfl⟩
  have hKc:bA a.sizes=K:=by omega
  rw [hKc] at hcel
  simp [hv,hi,hx,Array.cells,←hh2,hb2]
  refine ACalls.pure hcel fun c2 hc2=>?_
  have hcc:=hF.c
  have hK2:K≤20000:=by omega
  have hrep:List.replicate K [AV.int 0]=aj (bn (fun _=>0) a):=by
   refine List.ext_getElem? fun j=>?_
   unfold bn aj
   rw [←hK]
   by_cases hj:j<K
   ·simp [hj]
   ·rw [List.getElem?_eq_none (by simpa using hj),List.getElem?_eq_none (by simpa using hj)]
  have hms:msI 1 [.int 0] 8 (.int K) (.int K) ⟨h2,c2⟩=some (.row c2 1 0 K,⟨upd h2 c2 (some (.row 1 (aj (bn (fun _=>0) a)) .live none)),c2+1⟩):=by
   have h1:(K:Int)≤68719476736:=by omega
   rw [←hrep]
   simp [msI,asI,h1,AM.newRow,az]
   try rfl
  obtain ⟨h3,hh3⟩:∃ h3,h3=upd h2 c2 (some (.row 1 (aj (bn (fun _=>0) a)) .live none)):=⟨_,rfl⟩
  rw [←hh3] at hms
  have hk3:∀ k,k<c→h3 k=h k:=fun k hk=>by rw [hh3,ad (by omega),hh2,ad (by omega)]
  have hgm:=hm.gc
  obtain ⟨ver,hmap⟩:=hm.map
  have hlt:=hm.len
  have hil:(p.arrays.take i).length=i:=by rw [List.length_take]; omega
  have hm3:=(hk3 (c0+1) hgm).trans hmap
  have hb3:h3 c=some (.row 2 [[.str a.key,row (aj a.sizes)]] .live none):=by rw [hh3,ad (by omega)]; exact hb2
  have hmu:=kP eJ (f:=fun v:AV=>v) (g:=c0+1) (s:=⟨h3,c2+1⟩) hm3 a.key (.row c2 1 0 K)
  have hnew:dI (ct (p.arrays.take i) G) a.key (.row c2 1 0 K)=ct (p.arrays.take (i+1)) (G++[c2]):=by
   rw [oH,List.take_add_one,List.getElem?_eq_getElem hi,hx,Option.toList_some,nC hlt.symm]
   ·rw [hK]; rfl
   ·intro q hq
    obtain ⟨b,hb1,hb2⟩:=mq hq
    obtain ⟨j,hj,hjb⟩:=List.mem_iff_getElem.1 hb1
    simp at hj hjb
    rw [hb2]
    exact hp.apart i j a b (by rw [List.getElem?_eq_getElem hi,hx]) (by rw [List.getElem?_eq_getElem (by omega),hjb]) (by omega)
  rw [hnew] at hmu
  obtain ⟨h4,hh4⟩:∃ h4,h4=upd h3 (c0+1) (some (.map (kvs AV.str (fun v:AV=>v) (ct (p.arrays.take (i+1)) (G++[c2]))) (c2+1))):=⟨_,rfl⟩
  simp only at hmu
  rw [←hh4] at hmu
  simp [hms,hb2,hb3,hmu,hw,hv]
  rw [hInv]
  have hk4:∀ k,k<c→k≠c0+1→h4 k=h k:=fun k hk hk2=>by rw [hh4,ad hk2,hk3 k hk]
  refine ⟨⟨by show c0≤c2+1+1; omega,fun k hk=>(hk4 k (by omega) (by omega)).trans (hF.h k hk)⟩,G++[c2],?_,?_,⟨c2+1,(congrFun hh4 _).trans af⟩,?_,?_,?_,by show c0+1<c2+1+1; omega⟩
  ·intro gi hgi
   rcases List.mem_append.1 hgi with h | h
   ·exact hG gi h
   ·rw [List.mem_singleton.1 h]; omega
  ·rw [List.length_append,hlt,List.length_take,List.length_take]; simp; omega
  ·intro j b gj h1 h2'
   rw [List.take_add_one,List.getElem?_eq_getElem hi,hx,Option.toList_some] at h1
   by_cases hj:j<i
   ·rw [List.getElem?_append_left (by rw [hil]; exact hj)] at h1
    rw [List.getElem?_append_left (by rw [hlt,hil]; exact hj)] at h2'
    have hgl:=hm.lt gj (List.mem_of_getElem? h2')
    exact (hk4 gj hgl.1 hgl.2).trans (hm.rows j b gj h1 h2')
   ·rw [List.getElem?_append_right (by rw [hil]; omega),hil] at h1
    rw [List.getElem?_append_right (by rw [hlt,hil]; omega),hlt,hil] at h2'
    have hji:j-i=0:=by
     refine Classical.byContradiction fun hn=>?_
     rw [List.getElem?_eq_none (by simp; omega)] at h1; cases h1
    rw [hji] at h1 h2'
    simp at h1 h2'
    subst h1; subst h2'
    show h4 c2=_
    rw [hh4,ad (by omega),hh3,af]
  ·intro gi hgi
   rcases List.mem_append.1 hgi with h | h
   ·have:=hm.lt gi h
    exact ⟨by show gi<c2+1+1; omega,this.2⟩
   ·rw [List.mem_singleton.1 h]; exact ⟨by show c2<c2+1+1; omega,by omega⟩
  ·rw [List.nodup_append]
   refine ⟨hm.nd,by simp,fun x hx y hy=>?_⟩
   rw [List.mem_singleton.1 hy]
   have:=hm.lt x hx
   omega
end Go.Proofs.YtocppbmmfklbmaaGreat
set_option maxRecDepth 20000
set_option maxHeartbeats 4000000
namespace Go.Proofs.YtocppbmmfklbmaaGreat
open Go.AM Go.Wb
theorem ol:∀ a b:List UInt8,Lib.compareBytes b a =-Lib.compareBytes a b
 | [],[]=>rfl
 | [],_::_=>rfl
 | _::_,[]=>rfl
 | x::a,y::b=>by
  have ih:=ol a b
  simp only [Lib.compareBytes]
  by_cases h1:x<y
  ·have h2:¬y<x:=fun h=>by have:=UInt8.lt_iff_toNat_lt.1 h; have:=UInt8.lt_iff_toNat_lt.1 h1; omega
   simp [h1,h2]
  ·by_cases h2:y<x
   ·simp [h1,h2]
   ·simp [h1,h2,ih]
theorem u9:∀ {a b:List UInt8},Lib.compareBytes a b=0→a=b
 | [],[],_=>rfl
 | [],_::_,h=>by simp [Lib.compareBytes] at h
 | _::_,[],h=>by simp [Lib.compareBytes] at h
 | x::a,y::b,h=>by
  simp only [Lib.compareBytes] at h
  by_cases h1:x<y
  ·simp [h1] at h
  ·by_cases h2:y<x
   ·simp [h1,h2] at h
   ·simp only [if_neg h1,if_neg h2] at h
    have hxy:x=y:=by
     have h1':¬x.toNat<y.toNat:=fun h=>h1 (UInt8.lt_iff_toNat_lt.2 h)
     have h2':¬y.toNat<x.toNat:=fun h=>h2 (UInt8.lt_iff_toNat_lt.2 h)
     exact UInt8.toNat_inj.1 (by omega)
    rw [hxy,u9 h]
theorem qL:∀ {a b c:List UInt8},0≤Lib.compareBytes b a→0≤Lib.compareBytes c b→0≤Lib.compareBytes c a
 | [],_,[],_,_=>by simp [Lib.compareBytes]
 | [],_,_::_,_,_=>by simp [Lib.compareBytes]
 | _::_,[],_,h,_=>by simp [Lib.compareBytes] at h
 | _::_,_::_,[],_,h=>by simp [Lib.compareBytes] at h
 | x::a,y::b,z::c,h,h'=>by
  simp only [Lib.compareBytes] at h h' ⊢
  have e1:y<x↔y.toNat<x.toNat:=UInt8.lt_iff_toNat_lt
  have e2:x<y↔x.toNat<y.toNat:=UInt8.lt_iff_toNat_lt
  have e3:z<y↔z.toNat<y.toNat:=UInt8.lt_iff_toNat_lt
  have e4:y<z↔y.toNat<z.toNat:=UInt8.lt_iff_toNat_lt
  have e5:z<x↔z.toNat<x.toNat:=UInt8.lt_iff_toNat_lt
  have e6:x<z↔x.toNat<z.toNat:=UInt8.lt_iff_toNat_lt
  by_cases a1:y<x
  ·simp [a1] at h
  ·by_cases a2:z<y
   ·simp [a2] at h'
   ·have a3:¬z<x:=by rw [e5]; rw [e1] at a1; rw [e3] at a2; omega
    rw [if_neg a3]
    by_cases a4:x<z
    ·simp [a4]
    ·rw [if_neg a4]
     have a5:¬x<y:=by rw [e2]; rw [e6] at a4; rw [e3] at a2; omega
     have a6:¬y<z:=by rw [e4]; rw [e6] at a4; rw [e1] at a1; omega
     rw [if_neg a1,if_neg a5] at h
     rw [if_neg a2,if_neg a6] at h'
     exact qL h h'
def glt (x y:Wb.Grid):Bool:=decide (Lib.compareBytes (bs x.key) (bs y.key)<0)
theorem yG (x y:ByteArray) (a b:List AV):tlt (.str x::a) (.str y::b)=decide (Lib.compareBytes (bs x) (bs y)<0):=rfl
def eC (A:List Wb.Array) (M:Mem) (L:List Wb.Grid):Prop:=L.Perm (A.map fun a=>⟨a.key,bn M a⟩)∧L.Pairwise fun x y=>glt y x=false
theorem qz {A:List Wb.Array} (hA:gH A) {M:Mem} {L L':List Wb.Grid} (h:eC A M L) (h':eC A M L'):L=L':=by
 refine oL glt (h.1.trans h'.1.symm) h.2 h'.2 fun x hx y hy h1 h2=>?_
 have hk:x.key=y.key:=by
  unfold glt at h1 h2
  have h1:¬Lib.compareBytes (bs x.key) (bs y.key)<0:=by simpa using h1
  have h2:¬Lib.compareBytes (bs y.key) (bs x.key)<0:=by simpa using h2
  have:=ol (bs x.key) (bs y.key)
  exact wq (u9 (by omega))
 obtain ⟨a,ha,rfl⟩:=List.mem_map.1 (h.1.mem_iff.1 hx)
 obtain ⟨b,hb,rfl⟩:=List.mem_map.1 (h.1.mem_iff.1 hy)
 obtain ⟨i,hi,hia⟩:=List.mem_iff_getElem.1 ha
 obtain ⟨j,hj,hjb⟩:=List.mem_iff_getElem.1 hb
 have hij:i=j:=by
  have e1:A[i]?=some a:=by rw [List.getElem?_eq_getElem hi,hia]
  have e2:A[j]?=some b:=by rw [List.getElem?_eq_getElem hj,hjb]
  rcases Nat.lt_trichotomy i j with h | h | h
  ·exact absurd hk (hA j i b a e2 e1 h)
  ·exact h
  ·exact absurd hk.symm (hA i j a b e1 e2 h)
 subst hij
 rw [←hia,←hjb]
structure GV (h:Heap) (c0:Nat) (V:ByteArray→List Int) (es:List (List AV)):Prop where
 el:∀ e∈es,∃ (key:ByteArray) (gv:Nat),e=[.str key,.row gv 1 0 (V key).length]∧c0≤gv∧h gv=some (.row 1 (aj (V key)) .live none)
def dK (e:List AV):ByteArray:=match e with
 | .sc (.string a)::_=>a
 | _=>⟨#[]⟩
def gOf (V:ByteArray→List Int) (e:List AV):Wb.Grid:=⟨dK e,V (dK e)⟩
theorem GV.frz {h:Heap} {c0 go:Nat} {V:ByteArray→List Int} {es:List (List AV)} (H:GV h c0 V es) (hg:h go=some (.row 2 es .live none)) (hc:c0≤go):Frz h (fun k=>c0≤k) (.row go 2 0 es.length) (row ((es.map (gOf V)).map Grid.cells)):=by
 have hel:=H.el
 have hgs:∀ (i:Nat) (e y:List AV),es[i]?=some e→((es.map (gOf V)).map Grid.cells)[i]?=some y→e.length=y.length∧∀ (j:Nat) (c d:AV),e[j]?=some c→y[j]?=some d→Frz h (fun k=>c0≤k) c d:=by
  intro i e y he hy
  obtain ⟨key,gv,rfl,y1,y3⟩:=hel e (List.mem_of_getElem? he)
  rw [List.getElem?_map,List.getElem?_map,he] at hy
  simp [gOf,dK,Grid.cells] at hy
  subst hy
  refine ⟨rfl,fun j c d hc hd=>?_⟩
  match j with
  | 0=>simp at hc hd; subst hc; subst hd; exact .leaf _
  | 1=>
   simp at hc hd; subst hc; subst hd
   refine .row gv 1 0 _ _ .live _ y3 (.inl rfl) y1 (by simp [aj]) (by simp [aj]) ?_ ?_
   ·intro i e y he hy
    rw [Nat.zero_add] at he; rw [he] at hy; cases hy; rfl
   ·intro i j e y c d he hy hc hd
    rw [Nat.zero_add] at he; rw [he] at hy; cases hy; rw [hc] at hd; cases hd
    obtain ⟨n,_,hn⟩:=List.mem_map.1 (List.mem_of_getElem? he)
    subst hn
    match j with
    | 0=>simp at hc; subst hc; exact .leaf _
    | j+1=>simp at hc
  | j+2=>simp at hc
 have hrow:row ((es.map (gOf V)).map Grid.cells)=.sl ((es.map (gOf V)).map Grid.cells) false:=by simp
 rw [hrow]
 refine .row go 2 0 es.length _ .live _ hg (.inl rfl) hc (by simp) (by simp) ?_ ?_
 ·intro i e y he hy
  rw [Nat.zero_add] at he
  exact (hgs i e y he hy).1
 ·intro i j e y c d he hy hc hd
  rw [Nat.zero_add] at he
  exact (hgs i e y he hy).2 j c d hc hd
theorem GV.ok {h:Heap} {c0:Nat} {V:ByteArray→List Int} {es:List (List AV)} (H:GV h c0 V es):∀ e∈es,az 2 e=true:=fun e he=>by
 obtain ⟨key,gv,rfl,_⟩:=H.el e he; rfl
def klt (x y:List AV):Bool:=decide (Lib.compareBytes (bs (dK x)) (bs (dK y))<0)
theorem wA (a b c:List AV) (h:klt b a=false) (h':klt c b=false):klt c a=false:=by
 unfold klt at h h' ⊢
 have h1:¬Lib.compareBytes (bs (dK b)) (bs (dK a))<0:=by simpa using h
 have h2:¬Lib.compareBytes (bs (dK c)) (bs (dK b))<0:=by simpa using h'
 have:=qL (a:=bs (dK a)) (b:=bs (dK b)) (c:=bs (dK c)) (by omega) (by omega)
 simp; omega
theorem wt (a b:List AV) (h:klt a b=true):klt b a=false:=by
 unfold klt at h ⊢
 have h1:Lib.compareBytes (bs (dK a)) (bs (dK b))<0:=by simpa using h
 have:=ol (bs (dK a)) (bs (dK b))
 simp; omega
theorem rp (V:ByteArray→List Int) (es:List (List AV)):((dq klt es).map (gOf V)).Pairwise fun x y=>glt y x=false:=by
 rw [List.pairwise_map]
 exact qm klt wA wt es
theorem vt (a b:ByteArray) (x y:AV) (hx:x.cell=true) (hy:y.cell=true) (s:St):ACalls Pg Fn95.n [.agg [.str a,x],.agg [.str b,y]] s fun av s'=>av=.int (Lib.compareBytes (bs a) (bs b))∧s'.h=s.h:=by
 refine Fn95.calls .frz ?_
 unfold Fn95.ac
 have hne:¬s.c=s.c+1:=by omega
 have hx':az 2 [.str a,x]=true:=by simp only [az,List.all_cons,hx,List.all_nil]; rfl
 have hy':az 2 [.str b,y]=true:=by simp only [az,List.all_cons,hy,List.all_nil]; rfl
 simp only [az] at hx' hy'
 simp [hne,-AV.cell,AV.cells,hx,hy,show (AV.str a).cell=true from rfl,show (AV.str b).cell=true from rfl]
 refine ACalls.pure (lP _ _) fun c1 hc1=>?_
 simp
theorem vE (a b:ByteArray) (x y:AV) (hx:x.cell=true) (hy:y.cell=true) (s:St):ACalls Pg Fn58.n [.agg [.str a,x],.agg [.str b,y]] s fun av s'=>av=.int (Lib.compareBytes (bs a) (bs b))∧s'.h=s.h:=by
 refine Fn58.calls .frz ?_
 unfold Fn58.ac
 have hne:¬s.c=s.c+1:=by omega
 have hx':az 2 [.str a,x]=true:=by simp only [az,List.all_cons,hx,List.all_nil]; rfl
 have hy':az 2 [.str b,y]=true:=by simp only [az,List.all_cons,hy,List.all_nil]; rfl
 simp only [az] at hx' hy'
 simp [hne,-AV.cell,AV.cells,hx,hy,show (AV.str a).cell=true from rfl,show (AV.str b).cell=true from rfl]
 refine ACalls.pure (lP _ _) fun c1 hc1=>?_
 simp
theorem GV.cmps {h:Heap} {c0:Nat} {V:ByteArray→List Int} {es:List (List AV)} (H:GV h c0 V es) {f:Nat} (hf:∀ (a b:ByteArray) (x y:AV),x.cell=true→y.cell=true→∀ s:St,ACalls Pg f [.agg [.str a,x],.agg [.str b,y]] s fun av s'=>av=.int (Lib.compareBytes (bs a) (bs b))∧s'.h=s.h):mF f klt es:=by
 intro x hx y hy h' c'
 obtain ⟨k1,g1,rfl,_⟩:=H.el x hx
 obtain ⟨k2,g2,rfl,_⟩:=H.el y hy
 refine (hf k1 k2 _ _ rfl rfl ⟨h',c'⟩).mono fun r s' _ hr=>?_
 exact ⟨⟨_,hr.1,rfl⟩,hr.2⟩
theorem GV.perm {h:Heap} {c0:Nat} {V:ByteArray→List Int} {es es':List (List AV)} (H:GV h c0 V es) (hp:es'.Perm es):GV h c0 V es':=
 ⟨fun e he=>H.el e (hp.mem_iff.1 he)⟩
theorem GV.frame {h h':Heap} {c0:Nat} {V:ByteArray→List Int} {es:List (List AV)} (H:GV h c0 V es) (hh:∀ e∈es,h' (eM e)=h (eM e)):GV h' c0 V es:=
 ⟨fun e he=>by
  obtain ⟨key,gv,rfl,h1,h3⟩:=H.el e he
  exact ⟨key,gv,rfl,h1,(hh _ he).trans h3⟩⟩
def ee (A:List Wb.Array) (M:Mem) (key:ByteArray):List Int:=(List.range (bA (ei A key)).toNat).map fun (j:Nat)=>M ⟨key,j⟩
end Go.Proofs.YtocppbmmfklbmaaGreat
set_option maxRecDepth 20000
set_option maxHeartbeats 4000000
namespace Go.Proofs.YtocppbmmfklbmaaGreat
open Go.AM Go.Wb
theorem sM {A:List Wb.Array} (hA:gH A) {a b:Wb.Array} (ha:a∈A) (hb:b∈A) (h:a.key=b.key):a=b:=by
 obtain ⟨i,hi,hia⟩:=List.mem_iff_getElem.1 ha
 obtain ⟨j,hj,hjb⟩:=List.mem_iff_getElem.1 hb
 have e1:A[i]?=some a:=by rw [List.getElem?_eq_getElem hi,hia]
 have e2:A[j]?=some b:=by rw [List.getElem?_eq_getElem hj,hjb]
 rcases Nat.lt_trichotomy i j with h1 | h1 | h1
 ·exact absurd h (hA j i b a e2 e1 h1)
 ·subst h1; rw [←hia,←hjb]
 ·exact absurd h.symm (hA i j a b e1 e2 h1)
theorem ra {A:List Wb.Array} (hA:gH A) {a:Wb.Array} (ha:a∈A):ei A a.key=a.sizes:=by
 have h0:¬bC A a.key<0:=by
  unfold bC
  have h1:=jt (fun x:Wb.Array=>decide (x.key=a.key)) A
  have h2:A.any (fun x:Wb.Array=>decide (x.key=a.key))=true:=List.any_eq_true.2 ⟨a,ha,by simp⟩
  rw [h2] at h1
  have h3:=of_decide_eq_true h1
  omega
 obtain ⟨i,b,h1,h2,h3,h4,h5⟩:=iw h0
 rw [h4,sM hA (List.mem_of_getElem? h1) ha h5]
theorem jU {A:List Wb.Array} (hA:gH A) {a:Wb.Array} (ha:a∈A) (M:Mem):ee A M a.key=bn M a:=by
 unfold ee bn
 rw [ra hA ha]
theorem kj:∀ (n:Nat) (D:List Nat),D.Nodup→(∀ x∈D,x<n)→D.length≤n
 | 0,D,_,h=>by
  cases D with
  | nil=>simp
  | cons x D=>exact absurd (h x List.mem_cons_self) (by omega)
 | n+1,D,hn,h=>by
  by_cases hm:n∈D
  ·have:=kj n (D.erase n) (hn.erase n) fun x hx=>by
    have h1:=h x (List.mem_of_mem_erase hx)
    have h2:x≠n:=fun e=>by subst e; exact hn.not_mem_erase hx
    omega
   rw [List.length_erase_of_mem hm] at this
   omega
  ·have:=kj n D hn fun x hx=>by
    have h1:=h x hx
    have h2:x≠n:=fun e=>hm (e▸hx)
    omega
   omega
def mR (A:List Wb.Array) (G:List Nat) (i:Nat):List AV:=match (ct A G)[i]? with
 | some p=>[.str p.1,p.2]
 | none=>[]
theorem sh {A:List Wb.Array} {G:List Nat} (h:G.length=A.length):(ct A G).length=A.length:=by simp [ct,h]
theorem rQ {A:List Wb.Array} {G:List Nat} {i:Nat} (hi:i<A.length) (hg:G.length=A.length):∃ (a:Wb.Array) (gi:Nat),A[i]?=some a∧G[i]?=some gi∧(ct A G)[i]?=some (a.key,.row gi 1 0 (bA a.sizes).toNat):=by
 have hgi:i<G.length:=by omega
 refine ⟨A[i],G[i],List.getElem?_eq_getElem hi,List.getElem?_eq_getElem hgi,?_⟩
 unfold ct
 rw [List.getElem?_eq_getElem (by simp; omega),List.getElem_zipWith]
theorem ri (A:List Wb.Array) (hA:gH A) (hA12:A.length≤12) (M:Mem) (G:List Nat) (cb g:Nat) (h0:Heap) (c0:Nat) (hm:MemAt h0 c0 g A M G) (hcb:cb≤c0) (hG:∀ gi∈G,cb≤gi) :
  ACalls Pg Fn50.n [.map g] ⟨h0,c0⟩ fun av s'=>∃ go es,av=.row go 2 0 es.length∧cb≤go∧s'.h go=some (.row 2 es .live none)∧GV s'.h cb (ee A M) es∧eC A M (es.map (gOf (ee A M)))∧∀ k,k<c0→s'.h k=h0 k:=by
 refine Fn50.calls .keep ?_
 unfold Fn50.ac
 obtain ⟨ver,hmap⟩:=hm.map
 have hgc:=hm.gc
 have hml:=sh hm.len
 have hgi0:¬g=c0:=by omega
 simp [rgI,hmap,hgi0]
 obtain ⟨h1,hh1⟩:∃ h1,h1=upd (upd h0 c0 (some (.row 2 [] .live none))) (c0+1) (some (.iter g ver [])):=⟨_,rfl⟩
 rw [←hh1]
 have hF:∀ k,k<c0→h1 k=h0 k:=fun k hk=>by rw [hh1,ad (by omega),ad (by omega)]
 have hit1:h1 (c0+1)=some (.iter g ver []):=by rw [hh1,af]
 have hgo1:h1 c0=some (.row 2 [] .live none):=by rw [hh1,ad (by omega),af]
 obtain ⟨Inv,hInv⟩:∃ Inv:Nat→Slots→St→Prop,Inv=fun (m:Nat) sl s'=>∃ (D:List Nat) (go:Nat),D.Nodup∧(∀ i∈D,i<A.length)∧m=A.length-D.length∧sl 3=.row go 2 0 D.length∧s'.h (c0+1)=some (.iter g ver D)∧s'.h go=some (.row 2 (D.map (mR A G)) .live none)∧c0≤go∧go≠c0+1∧go<s'.c∧(∀ k,k<c0→s'.h k=h0 k)∧c0+1+1≤s'.c:=⟨_,rfl⟩
 refine cD Fn50.W0 (by rfl) Inv A.length ?_ ?_
 ·rw [hInv]
  exact ⟨[],c0,by simp,by simp,by simp,by simp,hit1,by simpa using hgo1,Nat.le_refl _,by omega,by show c0<c0+1+1; omega,hF,Nat.le_refl _⟩
 ·intro m v s' hI
  rw [hInv] at hI
  obtain ⟨D,go,i1,i2,i3,i4,i5,i6,i7,i8,i9,i10,i11⟩:=hI
  obtain ⟨h,c⟩:=s'
  simp only at i5 i6 i9 i10 i11
  simp at i4
  have hmh:=(i10 g hgc).trans hmap
  have hDl:=kj A.length D i1 i2
  simp
  show nxW _ _ _
  simp only [nxW,i5,hmh]
  have hkl:(kvs AV.str (fun v:AV=>v) (ct A G)).length=A.length:=by simp [kvs,hml]
  have hE:∀ i,i<A.length→∃ (a:Wb.Array) (gi:Nat),A[i]?=some a∧G[i]?=some gi∧mR A G i=[.str a.key,.row gi 1 0 (ee A M a.key).length]∧gOf (ee A M) (mR A G i)=⟨a.key,bn M a⟩∧(kvs AV.str (fun v:AV=>v) (ct A G))[i]?=some (.str a.key,.row gi 1 0 (ee A M a.key).length):=fun i hi=>by
   obtain ⟨a,gi,e1,e2,e3⟩:=rQ (A:=A) (G:=G) hi hm.len
   have hva:=jU hA (List.mem_of_getElem? e1) M
   have hme:mR A G i=[.str a.key,.row gi 1 0 (ee A M a.key).length]:=by unfold mR; rw [e3,hva,iz]
   refine ⟨a,gi,e1,e2,hme,?_,?_⟩
   ·rw [hme]; simp [gOf,dK,hva]
   ·unfold kvs; rw [List.getElem?_map,e3,hva,iz]; rfl
  refine ⟨trivial,fun hall=>?_,fun i q hq hnd=>?_⟩
  ·rw [hkl] at hall
   have hperm:D.Perm (List.range A.length):=(List.perm_ext_iff_of_nodup i1 List.nodup_range).2 fun x=>⟨fun hx=>List.mem_range.2 (i2 x hx),fun hx=>hall x (List.mem_range.1 hx)⟩
   obtain ⟨es,hes⟩:∃ es,es=D.map (mR A G):=⟨_,rfl⟩
   rw [←hes] at i6
   have hel:es.length=D.length:=by rw [hes]; simp
   have hgv:GV h cb (ee A M) es:=⟨fun e he=>by
    rw [hes] at he
    obtain ⟨i,hi,rfl⟩:=List.mem_map.1 he
    obtain ⟨a,gi,e1,e2,e3,e4,e5⟩:=hE i (i2 i hi)
    have hgm:=List.mem_of_getElem? e2
    refine ⟨a.key,gi,e3,hG gi hgm,?_⟩
    rw [i10 gi (hm.lt gi hgm).1,hm.rows i a gi e1 e2,jU hA (List.mem_of_getElem? e1)]⟩
   have hgvne:∀ e∈es,eM e≠go:=fun e he=>by
    obtain ⟨i,hi,rfl⟩:=List.mem_map.1 (hes▸he)
    obtain ⟨a,gi,e1,e2,e3,e4,e5⟩:=hE i (i2 i hi)
    have:=(hm.lt gi (List.mem_of_getElem? e2)).1
    rw [e3]; show gi≠go; omega
   simp [i4]
   rw [←hel]
   refine (fB es (by omega) hgv.ok Fn95.n klt go h c i6 i9 (hgv.cmps vt)).mono ?_
   rintro av ⟨h2,c2⟩ hc2 ⟨t1,t2⟩
   simp only at hc2 t1 t2
   have hsl:(dq klt es).length=es.length:=dx _ _ _
   simp [i4]
   refine ⟨go,dq klt es,⟨rfl,by omega⟩,by omega,t1,(hgv.frame fun e he=>t2 _ (hgvne e he)).perm (fT _ _),⟨?_,rp _ _⟩,fun k hk=>(t2 k (by omega)).trans (i10 k hk)⟩
   refine ((fT klt es).map _).trans ?_
   rw [hes]
   refine ((hperm.map (mR A G)).map _).trans (List.Perm.of_eq ?_)
   rw [List.map_map]
   refine List.ext_getElem? fun i=>?_
   by_cases hi:i<A.length
   ·obtain ⟨a,gi,e1,e2,e3,e4,e5⟩:=hE i hi
    rw [List.getElem?_map,List.getElem?_range hi,List.getElem?_map,e1]
    simp only [Option.map_some,Function.comp,e4]
   ·rw [List.getElem?_eq_none (by simpa using hi),List.getElem?_eq_none (by simpa using hi)]
  ·have hin:i<A.length:=by
    have:=(List.getElem?_eq_some_iff.1 hq).1
    rw [hkl] at this; exact this
   obtain ⟨a,gi,e1,e2,e3,e4,e5⟩:=hE i hin
   rw [e5] at hq
   injection hq with hq
   subst hq
   obtain ⟨K,hK⟩:∃ K,K=(ee A M a.key).length:=⟨_,rfl⟩
   rw [←hK] at e3 e5 ⊢
   have hnd2:(D++[i]).Nodup:=by
    rw [List.nodup_append]
    exact ⟨i1,by simp,fun x hx y hy e=>hnd (by rw [List.mem_singleton.1 hy] at e; exact e▸hx)⟩
   have hlt2:∀ x∈D++[i],x<A.length:=fun x hx=>by
    rcases List.mem_append.1 hx with hx | hx
    ·exact i2 x hx
    ·rw [List.mem_singleton.1 hx]; exact hin
   have hl2:=kj A.length _ hnd2 hlt2
   simp only [List.length_append,List.length_singleton] at hl2
   obtain ⟨h2,hh2⟩:∃ h2,h2=upd h (c0+1) (some (.iter g ver (D++[i]))):=⟨_,rfl⟩
   have j1:=(congrFun hh2 (c0+1)).trans af
   have k2:∀ k,k≠c0+1→h2 k=h k:=fun k hk=>by rw [hh2,ad hk]
   have j2:=(k2 g (by omega)).trans hmh
   have j3:=(k2 go i8).trans i6
   have hap:=bH (sz:=2) (bytes:=40) (md:=.plain) (x:=[.str a.key,.row gi 1 0 K]) (b:=true) (s:=⟨h2,c⟩) (len:=D.length) (by simp) j3 (by simp) (by decide) (by decide) (by decide) rfl (by omega)
   simp only at hap
   rw [←hh2]
   simp [ntI,j1,j2,e5,i4,aK,bsI,au,hap]
   refine ⟨A.length-(D.length+1),by omega,?_⟩
   rw [hInv]
   refine ⟨D++[i],c,hnd2,hlt2,by simp,by simp,?_,?_,by omega,by omega,by show c<c+1; omega,fun k hk=>?_,by show _≤c+1; omega⟩
   ·show upd (upd h2 go none) c _ (c0+1)=_
    rw [ad (by omega),ad (Ne.symm i8)]; exact j1
   ·show upd (upd h2 go none) c _ c=_
    rw [af,List.map_append,List.map_singleton,e3]
   ·show upd (upd h2 go none) c _ k=_
    rw [ad (by omega),ad (by omega),k2 k (by omega)]; exact i10 k hk
end Go.Proofs.YtocppbmmfklbmaaGreat
set_option maxRecDepth 20000
set_option maxHeartbeats 4000000
namespace Go.Proofs.YtocppbmmfklbmaaGreat
open Go.AM Go.Wb
theorem _root_.Go.AM.ACalls.deepT {P:Program} {f:FuncId} {args:List AV} {s:St} {R R':AV→St→Prop} (D:Nat→Prop) (hp:ACalls P f args s R) (hr:∀ av s',R av s'→∃ (x:AV) (n:Int) (x':AV),av=.tup [x,.int n]∧Frz s'.h D x x'∧∀ h'',FzH D s'.h h''→R' (.tup [x',.int n]) ⟨h'',s'.c⟩):ACalls P f args s R':=by
 intro G w vs hS hv
 refine (hp G w vs hS hv).mono fun v w' ⟨av,G',s',h1,h2,h3,h4⟩=>?_
 obtain ⟨x,n,x',rfl,hy,hR⟩:=hr av s' h4
 have hn:Rep G' (.tup [norm x,.int n]) v:=gB _ _ h3
 obtain ⟨us,rfl,hl,hrep⟩:=hn.ofTup
 have h0:∃ u0 u1,us.toList=[u0,u1]:=by
  match hus:us.toList,hl with
  | [u0,u1],_=>exact ⟨u0,u1,rfl⟩
 obtain ⟨u0,u1,hus⟩:=h0
 have r0:=hrep 0 (norm x) u0 rfl (by rw [hus]; rfl)
 have r1:=hrep 1 (.int n) u1 rfl (by rw [hus]; rfl)
 obtain ⟨G2,s2,q1,q2,q3,q4,q5⟩:=hy.ok G' s' w' u0 h2 (FzH.refl D _) r0
 refine ⟨.tup [x',.int n],G2,s2,h1.trans q1,q2,?_,?_⟩
 ·have:us=#[u0,u1]:=by apply Array.toList_inj.1; rw [hus]
  rw [this]
  refine .tup _ _ rfl fun j c v hc hv=>?_
  match j with
  | 0=>simp at hc hv; subst hc; subst hv; exact q3
  | 1=>simp at hc hv; subst hc; subst hv; exact r1.mono q1.le
  | j+2=>simp at hc
 ·have:=hR s2.h q5
  obtain ⟨h2',c2'⟩:=s2
  simp only at q4 this
  subst q4
  exact this
def bV (p:Wb.Prog) (gs:List Wb.Grid):Int:=if bq p=0 then bG p.arrays ⟨#[]⟩ gs else bq p
theorem iZ {p:Wb.Prog} {gs:List Wb.Grid} (h:bV p gs=0):aW p=0∧bq p=0∧(∀ x∈(aA p).2.l,x.ok p.arrays=true)∧ci p.arrays (aA p).2.l≤200000∧∀ g∈gs,gU p.arrays g:=by
 unfold bV at h
 split at h
 ·rename_i h1
  have h1':=h1
  unfold bq at h1
  split at h1
  ·rename_i h2
   split at h1
   ·rename_i h3
    unfold cg at h1
    split at h1
    ·cases h1
    ·rename_i h4
     split at h1
     ·cases h1
     ·rename_i h5
      refine ⟨h2,h1',fun x hx=>?_,by omega,kE h⟩
      have h4':((aA p).2.l.any fun i=>!i.ok p.arrays)=false:=by simpa using h4
      have:=List.any_eq_false.1 h4' x hx
      simpa using this
   ·exact absurd h1 ‹_›
  ·exact absurd h1 ‹_›
 ·exact absurd h ‹_›
theorem mW (A:List Wb.Array) (l:List Inst) (a b:List Int) (M:Mem):dk A l (a++b) M=dk A l b (dk A l a M):=List.foldl_append
theorem lO {A:List Wb.Array} {l:List Inst} (hl:∀ x∈l,cr A (Step.expr x.step)):∀ (o:List Int) (M:Mem),d6 M→d6 (dk A l o M)
 | [],M,hM=>hM
 | k::o,M,hM=>by
  have:dk A l (k::o) M=dk A l o (match l[k.toNat]? with | some x=>gM A M x | none=>M):=rfl
  rw [this]
  refine lO hl o _ ?_
  cases h:l[k.toNat]? with
  | none=>exact hM
  | some x=>exact tY hM (hl x (List.mem_of_getElem? h))
theorem sf (n:Nat):du (n+1)=du n++[(n:Int)]:=by simp [du,List.range_succ]
structure Going (h:Heap) (c cv g go:Nat) (p:Wb.Prog) (stm which vals rnd acc frm:AV) (M:Mem) (G:List Nat):Prop where
 ran:RanAt h c go p stm which vals rnd acc frm
 mem:MemAt h c g p.arrays M G
 low:∀ k,nj go stm which vals acc frm k→k<cv
 hi:∀ gi∈G,cv≤gi
theorem Going.do_ {h:Heap} {c cv g go:Nat} {p:Wb.Prog} {stm which vals rnd acc frm:AV} {M:Mem} {G:List Nat} (x:Going h c cv g go p stm which vals rnd acc frm M G) (hp:Right p) (hc:aC p.steps≤300) (hM:d6 M) (hok:∀ x∈(aA p).2.l,x.ok p.arrays=true) (hmany:ci p.arrays (aA p).2.l≤200000) (k:Nat) (hk:k<(aA p).2.l.length) :
  ACalls Pg Fn49.n [.ptr go 0 0,.int k,.map g] ⟨h,c⟩ fun av s'=>Going s'.h s'.c cv g go p stm which vals rnd acc frm (dk p.arrays (aA p).2.l [(k:Int)] M) G∧∀ k,k<c→k∉G→s'.h k=h k:=by
 have hx:=List.getElem?_eq_getElem hk
 refine (vS p hp hc M hM stm which vals rnd acc frm go k g G _ hx (hok _ (List.getElem_mem hk)) hmany h c x.ran x.mem fun gi hg hr=>by have:=x.hi gi hg; have:=x.low gi hr; omega).mono ?_
 rintro av ⟨h1,c1⟩ hc1 ⟨q1,q2⟩
 simp only at hc1 q1 q2
 have e:dk p.arrays (aA p).2.l [(k:Int)] M=gM p.arrays M (aA p).2.l[k]:=by simp [dk,hk]
 rw [e]
 exact ⟨⟨x.ran.re hc1 fun j hj=>q2 j (x.ran.lt hj) fun hg=>by have:=x.hi j hg; have:=x.low j hj; omega,q1,x.low,x.hi⟩,q2⟩
theorem qV (p:Wb.Prog) (hcnt:aC p.steps≤300) (hA12:p.arrays.length≤12) (gs:List Wb.Grid) (h0:Heap) (c0:Nat) :
  ACalls Pg Fn10.n [p.av,row (gs.map Grid.cells)] ⟨h0,c0⟩ fun av s'=>Fr c0 h0 s'.h s'.c∧if bV p gs=0 then ∃ go es,av=.tup [.row go 2 0 es.length,.int 0]∧c0≤go∧s'.h go=some (.row 2 es .live none)∧(∃ V,GV s'.h c0 V es∧eC p.arrays (dk p.arrays (aA p).2.l (du (aA p).2.l.length) (dn gs)) (es.map (gOf V))) else av=.tup [.sl [] true,.int (bV p gs)]:=by
 have hpl:=fun h c=>rr p hcnt h c
 simp only [Prog.av] at hpl
 refine Fn10.calls .keep ?_
 unfold Fn10.ac
 obtain ⟨hb,hhb⟩:∃ hb,hb=upd h0 c0 (some (.row 2 [[row (p.arrays.map Array.cells),row (p.steps.map Step.cells)]] .live none)):=⟨_,rfl⟩
 have hF0:Fr c0 h0 hb (c0+1):=by rw [hhb]; exact (Fr.refl _ _).upd (Nat.le_refl _) (Nat.le_succ _)
 have hbx:=(congrFun hhb c0).trans af
 simp [Prog.av,←hhb,hbx]
 refine (hpl hb (c0+1)).mono ?_
 rintro av ⟨h1,c1⟩ hc1 ⟨hF1,hq⟩
 simp only at hc1 hF1 hq
 have hFF1:Fr c0 h0 h1 c1:=⟨by omega,fun k hk=>(hF1.h k (by omega)).trans (hF0.h k hk)⟩
 have hbx1:=(hF1.h c0 (by omega)).trans hbx
 by_cases hz:bq p=0
 case neg=>
  rw [if_neg hz] at hq
  subst hq
  have he:bV p gs=bq p:=by simp [bV,hz]
  rw [he]
  simp [hz]
  exact hFF1
 rw [if_pos hz] at hq
 obtain ⟨go,stm,which,vals,rnd,acc,frm,rfl,hr⟩:=hq
 have he:bV p gs=bG p.arrays ⟨#[]⟩ gs:=by simp [bV,hz]
 have hpf:aW p=0:=by
  refine Classical.byContradiction fun h=>?_
  unfold bq at hz
  rw [if_neg h] at hz; exact h hz
 have hp:=fy hpf
 have hcg:=n9 p hp.arrays gs
 simp only [Prog.av] at hcg
 rw [←he] at hcg
 simp [hbx1]
 refine ACalls.pure hcg fun c2 hc2=>?_
 by_cases hz2:bV p gs=0
 case neg=>
  simp [hz2]
  exact ⟨by show c0≤c2; omega,hFF1.h⟩
 obtain ⟨_,_,hok,hmany,hgs⟩:=iZ hz2
 have hva:=rB p hp gs hgs h1 c2
 simp only [Prog.av] at hva
 simp [hz2,hbx1]
 refine hva.mono ?_
 rintro av ⟨h3,c3⟩ hc3 ⟨hF3,g,G,rfl,hg,hG,hm⟩
 simp only at hc3 hF3 hm
 obtain ⟨l,hl⟩:∃ l,l=(aA p).2.l:=⟨_,rfl⟩
 have hgo:Going h3 c3 c2 g go p stm which vals rnd acc frm (dn gs) G:=⟨hr.re (by omega) fun k hk=>hF3.h k (by have:=hr.lt hk; omega),hm,fun k hk=>by have:=hr.lt hk; omega,hG⟩
 have hobj:=hgo.ran.obj
 have hwl:=hgo.ran.plo.hwhich.len ⟨h3,c3⟩
 have ewl:(aj ((aA p).2.l.map fun i=>(i.num:Int))).length=(aA p).2.l.length:=by simp [aj]
 rw [ewl,←hl] at hwl
 have hMg:=mX hgs
 have hinv:=dY hp
 have hlen5:l.length≤200000:=by
  have:=lT p.arrays l
  have h1:(l.length:Int)≤ci p.arrays l:=by
   clear hwl hgo hl
   induction l with
   | nil=>simp [ci]
   | cons y ys ih=>
    have:=lT p.arrays ys
    have e:=jJ p.arrays [y] ys
    rw [jL] at e
    simp only [List.singleton_append] at e
    rw [e]
    have:=ih this
    simp; omega
  rw [hl] at h1 ⊢
  omega
 simp [hobj,hwl]
 obtain ⟨Inv,hInv⟩:∃ Inv:Nat→List Inst→Slots→St→Prop,Inv=fun (i:Nat) r sl s'=>Going s'.h s'.c c2 g go p stm which vals rnd acc frm (dk p.arrays (aA p).2.l (du i) (dn gs)) G∧(∀ k,k<c0→s'.h k=h0 k)∧c2≤s'.c:=⟨_,rfl⟩
 refine aY 33 Fn10.W0 l Inv (by rfl) (by rfl) ?_ ?_ ?_
 ·rw [hInv]
  exact ⟨by simp,hgo,fun k hk=>(hF3.h k (by omega)).trans (hFF1.h k hk),hc3⟩
 ·intro v s' hv hI
  rw [hInv] at hI
  obtain ⟨q1,q2,q3⟩:=hI
  obtain ⟨h4,c4⟩:=s'
  simp only at q1 q2 q3
  simp [hv]
  refine (ri p.arrays hp.apart hA12 _ G c2 g h4 c4 q1.mem q3 q1.hi).mono ?_
  rintro av ⟨h5,c5⟩ hc5 ⟨gr,es,rfl,t1,t2,t3,t4,t5⟩
  simp only at hc5 t2 t3 t5
  simp
  refine ⟨⟨by show c0≤c5; omega,fun k hk=>(t5 k (by omega)).trans (q2 k hk)⟩,gr,es,⟨rfl,rfl⟩,by omega,t2,ee p.arrays (dk p.arrays (aA p).snd.l (du l.length) (dn gs)),⟨fun e he=>?_⟩,?_⟩
  ·obtain ⟨key,gv,e1,e2,e3⟩:=t3.el e he
   exact ⟨key,gv,e1,by omega,e3⟩
  ·rw [hl] at t4 ⊢; exact t4
 ·intro i x xs v s' hi hx hl2 hv hI
  rw [hInv] at hI
  obtain ⟨q1,q2,q3⟩:=hI
  obtain ⟨h4,c4⟩:=s'
  simp only at q1 q2 q3
  have hw:=ae (x:=(i:Int)+1) (by omega) (by omega)
  simp [hv,hi]
  refine (q1.do_ hp hcnt (lO (fun y hy=>(hinv y hy).expr) _ _ hMg) hok hmany i (by rw [←hl]; exact hi)).mono ?_
  rintro av ⟨h5,c5⟩ hc5 ⟨t1,t2⟩
  simp only at hc5 t1 t2
  simp [hv,hw]
  rw [hInv]
  refine ⟨?_,fun k hk=>(t2 k (by omega) fun hg=>by have:=q1.hi k hg; omega).trans (q2 k hk),by show c2≤c5; omega⟩
  rw [sf,mW]
  exact t1
def db (p:Wb.Prog) (gs:List Wb.Grid) (o:List Int):Int:=if bV p gs=0 then cV (aA p).2.l.length o else bV p gs
theorem kA {n:Int}:∀ {o done:List Int},cj n done o=0→∀ k∈o,0≤k∧k<n
 | [],_,_,k,hk=>by cases hk
 | x::o,done,h,k,hk=>by
  simp only [cj] at h
  split at h
  ·cases h
  ·rename_i h1
   split at h
   ·cases h
   ·rcases List.mem_cons.1 hk with rfl | hk
    ·omega
    ·exact kA h k hk
theorem nB {n:Int} {o:List Int} (h:cV n o=0):(o.length:Int)=n∧∀ k∈o,0≤k∧k<n:=by
 unfold cV at h
 split at h
 ·cases h
 ·rename_i h1
  exact ⟨Classical.byContradiction h1,kA h⟩
theorem nV (p:Wb.Prog) (hcnt:aC p.steps≤300) (hA12:p.arrays.length≤12) (gs:List Wb.Grid) (o:List Int) (h0:Heap) (c0:Nat) :
  ACalls Pg Fn11.n [p.av,row (gs.map Grid.cells),row (aj o)] ⟨h0,c0⟩ fun av s'=>Fr c0 h0 s'.h s'.c∧if db p gs o=0 then ∃ go es,av=.tup [.row go 2 0 es.length,.int 0]∧c0≤go∧s'.h go=some (.row 2 es .live none)∧(∃ V,GV s'.h c0 V es∧eC p.arrays (dk p.arrays (aA p).2.l o (dn gs)) (es.map (gOf V))) else av=.tup [.sl [] true,.int (db p gs o)]:=by
 have hpl:=fun h c=>rr p hcnt h c
 simp only [Prog.av] at hpl
 refine Fn11.calls .keep ?_
 unfold Fn11.ac
 obtain ⟨hb,hhb⟩:∃ hb,hb=upd h0 c0 (some (.row 2 [[row (p.arrays.map Array.cells),row (p.steps.map Step.cells)]] .live none)):=⟨_,rfl⟩
 have hF0:Fr c0 h0 hb (c0+1):=by rw [hhb]; exact (Fr.refl _ _).upd (Nat.le_refl _) (Nat.le_succ _)
 have hbx:=(congrFun hhb c0).trans af
 simp [Prog.av,←hhb,hbx]
 refine (hpl hb (c0+1)).mono ?_
 rintro av ⟨h1,c1⟩ hc1 ⟨hF1,hq⟩
 simp only at hc1 hF1 hq
 have hFF1:Fr c0 h0 h1 c1:=⟨by omega,fun k hk=>(hF1.h k (by omega)).trans (hF0.h k hk)⟩
 have hbx1:=(hF1.h c0 (by omega)).trans hbx
 by_cases hz:bq p=0
 case neg=>
  rw [if_neg hz] at hq
  subst hq
  have he:db p gs o=bq p:=by simp [db,bV,hz]
  rw [he]
  simp [hz]
  exact hFF1
 rw [if_pos hz] at hq
 obtain ⟨go,stm,which,vals,rnd,acc,frm,rfl,hr⟩:=hq
 have he:bV p gs=bG p.arrays ⟨#[]⟩ gs:=by simp [bV,hz]
 have hpf:aW p=0:=by
  refine Classical.byContradiction fun h=>?_
  unfold bq at hz
  rw [if_neg h] at hz; exact h hz
 have hp:=fy hpf
 have hcg:=n9 p hp.arrays gs
 simp only [Prog.av] at hcg
 rw [←he] at hcg
 simp [hbx1]
 refine ACalls.pure hcg fun c2 hc2=>?_
 by_cases hz2:bV p gs=0
 case neg=>
  have he2:db p gs o=bV p gs:=by simp [db,hz2]
  rw [he2]
  simp [hz2]
  exact ⟨by show c0≤c2; omega,hFF1.h⟩
 obtain ⟨_,_,hok,hmany,hgs⟩:=iZ hz2
 obtain ⟨l,hl⟩:∃ l,l=(aA p).2.l:=⟨_,rfl⟩
 have hobj1:=hr.obj
 have hwl:=hr.plo.hwhich.len ⟨h1,c2⟩
 have ewl:(aj ((aA p).2.l.map fun i=>(i.num:Int))).length=(aA p).2.l.length:=by simp [aj]
 rw [ewl,←hl] at hwl
 have hlen5:l.length≤200000:=by
  have:=lT p.arrays l
  have h1:(l.length:Int)≤ci p.arrays l:=by
   clear hwl hl
   induction l with
   | nil=>simp [ci]
   | cons y ys ih=>
    have:=lT p.arrays ys
    have e:=jJ p.arrays [y] ys
    rw [jL] at e
    simp only [List.singleton_append] at e
    rw [e]
    have:=ih this
    simp; omega
  rw [hl] at h1 ⊢
  omega
 have hco:=vA l.length (by omega) o
 have he3:db p gs o=cV l.length o:=by rw [hl]; simp [db,hz2]
 simp [hz2,hobj1,hwl]
 refine ACalls.pure hco fun c2' hc2'=>?_
 rw [he3]
 by_cases hz3:cV l.length o=0
 case neg=>
  simp [hz3]
  exact ⟨by show c0≤c2'; omega,hFF1.h⟩
 obtain ⟨hol,hor⟩:=nB hz3
 have hva:=rB p hp gs hgs h1 c2'
 simp only [Prog.av] at hva
 simp [hz3,hbx1]
 refine hva.mono ?_
 rintro av ⟨h3,c3⟩ hc3 ⟨hF3,g,G,rfl,hg,hG,hm⟩
 simp only at hc3 hF3 hm
 have hgo:Going h3 c3 c2' g go p stm which vals rnd acc frm (dn gs) G:=⟨hr.re (by omega) fun k hk=>hF3.h k (by have:=hr.lt hk; omega),hm,fun k hk=>by have:=hr.lt hk; omega,hG⟩
 have hMg:=mX hgs
 have hinv:=dY hp
 simp
 obtain ⟨Inv,hInv⟩:∃ Inv:Nat→List Int→Slots→St→Prop,Inv=fun (i:Nat) r sl s'=>Going s'.h s'.c c2' g go p stm which vals rnd acc frm (dk p.arrays (aA p).2.l (o.take i) (dn gs)) G∧(∀ k,k<c0→s'.h k=h0 k)∧c2'≤s'.c:=⟨_,rfl⟩
 refine aY 44 Fn11.W0 o Inv (by rfl) (by rfl) ?_ ?_ ?_
 ·rw [hInv]
  exact ⟨by simp,hgo,fun k hk=>(hF3.h k (by omega)).trans (hFF1.h k hk),hc3⟩
 ·intro v s' hv hI
  rw [hInv,List.take_length] at hI
  obtain ⟨q1,q2,q3⟩:=hI
  obtain ⟨h4,c4⟩:=s'
  simp only at q1 q2 q3
  simp [hv]
  refine (ri p.arrays hp.apart hA12 _ G c2' g h4 c4 q1.mem q3 q1.hi).mono ?_
  rintro av ⟨h5,c5⟩ hc5 ⟨gr,es,rfl,t1,t2,t3,t4,t5⟩
  simp only at hc5 t2 t3 t5
  simp
  refine ⟨⟨by show c0≤c5; omega,fun k hk=>(t5 k (by omega)).trans (q2 k hk)⟩,gr,es,⟨rfl,rfl⟩,by omega,t2,ee p.arrays (dk p.arrays (aA p).snd.l o (dn gs)),⟨fun e he=>?_⟩,?_⟩
  ·obtain ⟨key,gv,e1,e2,e3⟩:=t3.el e he
   exact ⟨key,gv,e1,by omega,e3⟩
  ·exact t4
 ·intro i x xs v s' hi hx hl2 hv hI
  rw [hInv] at hI
  obtain ⟨q1,q2,q3⟩:=hI
  obtain ⟨h4,c4⟩:=s'
  simp only at q1 q2 q3
  have hw:=ae (x:=(i:Int)+1) (by omega) (by omega)
  obtain ⟨kn,hkn⟩:∃ kn:Nat,x=kn:=⟨x.toNat,by have:=(hor x (aM hl2)).1; omega⟩
  subst hkn
  have hkl:=(hor _ (aM hl2)).2
  simp [hv,hi,hx]
  refine (q1.do_ hp hcnt (lO (fun y hy=>(hinv y hy).expr) _ _ hMg) hok hmany kn (by rw [←hl]; omega)).mono ?_
  rintro av ⟨h5,c5⟩ hc5 ⟨t1,t2⟩
  simp only at hc5 t1 t2
  simp [hv,hw]
  rw [hInv]
  refine ⟨?_,fun k hk=>(t2 k (by omega) fun hg=>by have:=q1.hi k hg; omega).trans (q2 k hk),by show c2'≤c5; omega⟩
  rw [List.take_add_one,List.getElem?_eq_getElem hi,hx,Option.toList_some,mW]
  exact t1
end Go.Proofs.YtocppbmmfklbmaaGreat
set_option maxRecDepth 20000
set_option maxHeartbeats 4000000
namespace Go.Proofs.YtocppbmmfklbmaaGreat
open Go.AM Go.Wb
@[simp] theorem wR (l:List Wb.Spot):bo (l.map Spot.cells)=l.map Spot.cells:=cN (fun _=>rfl) l
theorem vB (l:List Wb.Spot):(l.map Spot.cells).all (az 2)=true:=List.all_eq_true.2 fun e he=>by obtain ⟨t,_,rfl⟩:=List.mem_map.1 he; rfl
theorem ka (l:List Wb.Spot) (hl:l.length≤1000000) (h0:Heap) (c0:Nat) :
  ACalls Pg Fn56.n [row (l.map Spot.cells)] ⟨h0,c0⟩ fun av s'=>Fr c0 h0 s'.h s'.c∧RdN s'.h 2 av (l.map Spot.cells)∧∀ k,an av k→c0≤k∧k<s'.c:=by
 refine Fn56.calls .keep ?_
 unfold Fn56.ac
 simp
 refine jF (fun h=>?_) ?_
 ·have hL:l=[]:=by simpa using h
  simp [hL]
  exact ⟨Fr.refl _ _,.inl ⟨rfl,_,rfl⟩,fun k hk=>absurd hk aJ⟩
 ·simp [bsI,au]
  have hap:=cJ (sz:=2) (bytes:=24) (md:=.plain) (es:=[]) (xs:=l.map Spot.cells) (b:=false) (s:=⟨h0,c0⟩) (by decide) (by decide) (by decide) (by simp) (fun e he=>List.all_eq_true.1 (vB l) e he) (by simp; omega) (.inr rfl)
  simp at hap
  simp [hap]
  exact ⟨(Fr.refl h0 c0).upd (Nat.le_refl _) (Nat.le_succ _),.inr ⟨c0,_,0,.live,by simp,af,by rw [List.drop_zero]; exact List.take_of_length_le (Nat.le_refl _),by simp⟩,fun k hk=>by have:=aq.1 hk; omega⟩
def RefMem (h:Heap) (g:Nat) (M:Mem):Prop:=∃ (m:List (Wb.Spot×Int)) (ver:Nat),h g=some (.map (kvs kY AV.int m) ver)∧∀ s,M s=(bL m s).getD 0
theorem RefMem.set {h:Heap} {c g:Nat} {M:Mem} (x:RefMem h g M) (s:Wb.Spot) (v:Int):∃ b,muI (.agg [.str,.int]) (.map g) (.agg (Spot.cells s)) (.int v) ⟨h,c⟩=some ⟨AM.upd h g b,c+1⟩∧∀ h',h' g=b→RefMem h' g (fun s'=>if s'=s then v else M s'):=by
 obtain ⟨m,ver,h1,h2⟩:=x
 have hmu:=kP mH (f:=AV.int) (g:=g) (s:=⟨h,c⟩) h1 s v
 refine ⟨_,hmu,fun h' hh=>⟨dI m s v,c,hh,fun s'=>?_⟩⟩
 rw [oX]
 show (if s'=s then v else M s')=_
 split
 ·rfl
 ·exact h2 s'
theorem RefMem.get {h:Heap} {c g:Nat} {M:Mem} (x:RefMem h g M) (s:Wb.Spot):lkI (.agg [.str,.int]) (.int 0) false (.map g) (.agg (Spot.cells s)) ⟨h,c⟩=some (.int (M s)):=by
 obtain ⟨m,ver,h1,h2⟩:=x
 have hlk:=gX mH (f:=AV.int) (z:=.int 0) (ok:=false) (s:=⟨h,c⟩) h1 s
 have hms:((bL m s).map AV.int).getD (.int 0)=.int (M s):=by rw [h2 s]; cases bL m s <;> rfl
 rw [hms] at hlk
 exact hlk
def jR (M:Mem) (key:ByteArray) (vs:List Int) (j:Nat):Mem:=fun s=>if s.array=key∧0≤s.cell∧s.cell<j then vs.getD s.cell.toNat 0 else M s
theorem sk (M:Mem) (key:ByteArray) (vs:List Int):jR M key vs 0=M:=by
 funext s
 unfold jR
 rw [if_neg (by omega)]
theorem y9 (M:Mem) (g:Wb.Grid):jR M g.key g.values g.values.length=cU M g:=rfl
theorem rM (M:Mem) (key:ByteArray) (vs:List Int) (j:Nat) (hj:j<vs.length):jR M key vs (j+1)=fun s'=>if s'=⟨key,(j:Int)⟩ then vs[j] else jR M key vs j s':=by
 funext s
 obtain ⟨a,n⟩:=s
 unfold jR
 simp only
 by_cases h:(⟨a,n⟩:Wb.Spot)=⟨key,(j:Int)⟩
 ·rw [if_pos h]
  injection h with h1 h2
  subst h1; subst h2
  rw [if_pos ⟨rfl,by omega,by push_cast; omega⟩]
  simp [hj]
 ·rw [if_neg h]
  by_cases h2:a=key∧0≤n∧n<(j+1:Nat)
  ·have h3:¬n=j:=fun e=>h (by rw [h2.1,e])
   have h4:=h2.2.2
   rw [if_pos h2,if_pos ⟨h2.1,h2.2.1,by push_cast at h4; omega⟩]
  ·rw [if_neg h2,if_neg fun h3=>h2 ⟨h3.1,h3.2.1,by have:=h3.2.2; push_cast; omega⟩]
def rP (h:Heap) (c:Nat) (A:List Wb.Array) (x:AV) (l:List Inst):Prop:=
 ∃ es,(0<es.length→∃ g,x=.row g 22 0 es.length∧h g=some (.row 22 es .live none))∧es.length=l.length∧∀ (k:Nat) (e:List AV) (i:Inst),es[k]?=some e→l[k]?=some i→∃ ge,ge<c∧cO h ge i.env∧e=fu A i ge
theorem UsesAt.n {h:Heap} {c:Nat} {A:List Wb.Array} {x:AV} {l:List Inst} (u:UsesAt h c A x l):rP h c A (norm x) l:=by
 obtain ⟨es,h1,h2,h3⟩:=u
 refine ⟨es,fun h0=>?_,h2,h3⟩
 obtain ⟨g,rfl,hg⟩:=h1.at h0
 exact ⟨g,rfl,hg⟩
theorem lZ (p:Wb.Prog) (hp:Right p) (hA12:p.arrays.length≤12) (l:List Inst) (hl:l.length≤1000000) (hin:∀ x∈l,InstOk p.arrays (bw [] p.steps) x) (lx:AV) (gs:List Wb.Grid) (hgs:∀ g∈gs,gU p.arrays g) (o:List Int) (ho:∀ k∈o,0≤k∧k<l.length) (h0:Heap) (c0:Nat) (hu:rP h0 c0 p.arrays lx l) (hlx:∀ k,an lx k→k<c0) :
  ACalls Pg Fn15.n [p.av,lx,row (gs.map Grid.cells),row (aj o)] ⟨h0,c0⟩ fun av s'=>Fr c0 h0 s'.h s'.c∧∃ go es,av=.row go 2 0 es.length∧c0≤go∧s'.h go=some (.row 2 es .live none)∧∃ V,GV s'.h c0 V es∧eC p.arrays (dk p.arrays l o (dn gs)) (es.map (gOf V)):=by
 refine ACalls.small fun hsm=>?_
 have hlen:p.arrays.length≤68719476736∧gs.length≤68719476736∧o.length≤68719476736:=by simp [Prog.av] at hsm; omega
 refine Fn15.calls .keep ?_
 unfold Fn15.ac
 obtain ⟨us,hu1,hu2,hu3⟩:=hu
 simp [Prog.av]
 obtain ⟨hb,hhb⟩:∃ hb,hb=upd (upd h0 c0 (some (.row 2 [[row (p.arrays.map Array.cells),row (p.steps.map Step.cells)]] .live none))) (c0+1) (some (.map [] (c0+1))):=⟨_,rfl⟩
 rw [←hhb]
 have hbx:hb c0=some (.row 2 [[row (p.arrays.map Array.cells),row (p.steps.map Step.cells)]] .live none):=by rw [hhb,ad (by omega),af]
 have hbm:hb (c0+1)=some (.map [] (c0+1)):=by rw [hhb,af]
 have hblow:∀ k,k<c0→hb k=h0 k:=fun k hk=>by rw [hhb,ad (by omega),ad (by omega)]
 have hrm:RefMem hb (c0+1) (fun _=>0):=⟨[],_,hbm,fun s=>rfl⟩
 obtain ⟨B,hB⟩:∃ B:Heap→Nat→Prop,B=fun h c=>(∀ k,k<c0→h k=h0 k)∧h c0=hb c0∧c0+1+1≤c:=⟨_,rfl⟩
 have hBF:∀ {h c h' c'},B h c→(∀ k,k<c→k≠c0+1→h' k=h k)→c≤c'→B h' c':=fun {h c h' c'} hb hh hc=>by
  rw [hB] at hb ⊢
  exact ⟨fun k hk=>(hh k (by omega) (by omega)).trans (hb.1 k hk),(hh c0 (by omega) (by omega)).trans hb.2.1,by omega⟩
 obtain ⟨Inv,hInv⟩:∃ Inv:Nat→List Wb.Grid→Slots→St→Prop,Inv=fun (i:Nat) r sl s'=>B s'.h s'.c∧RefMem s'.h (c0+1) ((gs.take i).foldl cU fun _=>0):=⟨_,rfl⟩
 refine aY 25 Fn15.W0 gs Inv (by rfl) (by rfl) ?_ ?_ ?_
 ·rw [hInv]
  exact ⟨by simp,by rw [hB]; exact ⟨hblow,rfl,Nat.le_refl _⟩,hrm⟩
 ·intro v s' hv hI
  rw [hInv,List.take_length] at hI
  obtain ⟨hb1,hm1⟩:=hI
  obtain ⟨h1,c1⟩:=s'
  simp only at hb1 hm1
  simp [hv]
  have hMg:d6 (dn gs):=mX hgs
  have hlxu:us.length≤1000000:=by omega
  obtain ⟨Inv3,hInv3⟩:∃ Inv:Nat→List Int→Slots→St→Prop,Inv=fun (i:Nat) r sl s'=>B s'.h s'.c∧RefMem s'.h (c0+1) (dk p.arrays l (o.take i) (dn gs)):=⟨_,rfl⟩
  refine aY 47 Fn15.W2 o Inv3 (by rfl) (by rfl) ?_ ?_ ?_
  ·rw [hInv3]
   exact ⟨by simp,hb1,hm1⟩
  ·intro v2 s2 hv2 hI2
   rw [hInv3,List.take_length] at hI2
   obtain ⟨hb2,hm2⟩:=hI2
   obtain ⟨h2,c2⟩:=s2
   simp only at hb2 hm2
   obtain ⟨M,hM⟩:∃ M,M=dk p.arrays l o (dn gs):=⟨_,rfl⟩
   rw [←hM] at hm2 ⊢
   have hbx2:h2 c0=some (.row 2 [[row (p.arrays.map Array.cells),row (p.steps.map Step.cells)]] .live none):=by rw [hB] at hb2; exact hb2.2.1.trans hbx
   simp [hv2]
   obtain ⟨hC,hhC⟩:∃ hC,hC=upd h2 c2 (some (.row 2 [] .live none)):=⟨_,rfl⟩
   rw [←hhC]
   have hb2':=hb2
   rw [hB] at hb2'
   have hcc2:=hb2'.2.2
   have kC:∀ k,k<c2→hC k=h2 k:=fun k hk=>by rw [hhC,ad (by omega)]
   have hbC:B hC (c2+1):=hBF hb2 (fun k hk _=>kC k hk) (Nat.le_succ _)
   have goC:=(congrFun hhC c2).trans af
   have hbxC:=(kC c0 (by omega)).trans hbx2
   have hRC:RefMem hC (c0+1) M:=by
    obtain ⟨m,ver,e1,e2⟩:=hm2
    exact ⟨m,ver,(kC _ (by omega)).trans e1,e2⟩
   simp [hbxC]
   obtain ⟨V,hV⟩:∃ V,V=ee p.arrays M:=⟨_,rfl⟩
   obtain ⟨Inv4,hInv4⟩:∃ Inv:Nat→List Wb.Array→Slots→St→Prop,Inv=fun (i:Nat) r sl s'=>∃ (go:Nat) (es:List (List AV)),sl 17=.row go 2 0 es.length∧c2≤go∧go<s'.c∧s'.h go=some (.row 2 es .live none)∧es.length=i∧GV s'.h c2 V es∧(∀ e∈es,eM e<s'.c∧eM e≠go)∧es.map (gOf V)=(p.arrays.take i).map (fun a=>⟨a.key,bn M a⟩)∧RefMem s'.h (c0+1) M∧B s'.h s'.c:=⟨_,rfl⟩
   refine aY 80 Fn15.W3 p.arrays Inv4 (by rfl) (by rfl) ?_ ?_ ?_
   ·rw [hInv4]
    exact ⟨by simp,c2,[],by simp,Nat.le_refl _,by show c2<c2+1; omega,goC,rfl,⟨by simp⟩,by simp,by simp,hRC,hbC⟩
   ·intro v3 s3 hv3 hI3
    rw [hInv4,List.take_length] at hI3
    obtain ⟨go,es,i1,i2,i3,i4,i5,i6,i7,i8,i9,i10⟩:=hI3
    obtain ⟨h3,c3⟩:=s3
    simp at i1
    simp only at i3 i4 i6 i7 i9 i10
    simp [hv3,i1]
    refine (fB es (by omega) i6.ok Fn58.n klt go h3 c3 i4 i3 (i6.cmps vE)).mono ?_
    rintro av ⟨h4,c4⟩ hc4 ⟨t1,t2⟩
    simp only at hc4 t1 t2
    have hsl:(dq klt es).length=es.length:=dx _ _ _
    rw [hB] at i10
    simp [i1]
    refine ⟨⟨by show c0≤c4; omega,fun k hk=>(t2 k (by omega)).trans (i10.1 k hk)⟩,go,dq klt es,⟨rfl,by omega⟩,by omega,t1,V,⟨fun e he=>?_⟩,?_,rp _ _⟩
    ·obtain ⟨key,gv,e1,e2,e3⟩:=((i6.frame (h':=h4) fun e he=>t2 _ (i7 e he).2).perm (fT klt es)).el e he
     exact ⟨key,gv,e1,by omega,e3⟩
    ·refine ((fT klt es).map _).trans ?_
     rw [i8]
   ·intro i a as' v3 s3 hi ha hl2 hv3 hI3
    rw [hInv4] at hI3
    obtain ⟨go,es,i1,i2,i3,i4,i5,i6,i7,i8,i9,i10⟩:=hI3
    obtain ⟨h3,c3⟩:=s3
    simp at i1
    simp only at i3 i4 i6 i7 i9 i10
    have hw:=ae (x:=(i:Int)+1) (by omega) (by omega)
    have i10':=i10
    rw [hB] at i10'
    have ham:=aM hl2
    have hao:=hp.arrays a ham
    have hca:=hao.cells
    have hc1:1≤bA a.sizes:=hU a.sizes fun z hz=>(hao.sizes z hz).1
    have hcel:=rF a hao
    simp only [Array.cells] at hcel
    obtain ⟨K,hK⟩:∃ K,K=(bn M a).length:=⟨_,rfl⟩
    have hKc:bA a.sizes=K:=by rw [hK,iz]; omega
    rw [hKc] at hcel
    obtain ⟨h4,hh4⟩:∃ h4,h4=upd h3 c3 (some (.row 2 [[.str a.key,row (aj a.sizes)]] .live none)):=⟨_,rfl⟩
    obtain ⟨h5,hh5⟩:∃ h5,h5=upd h4 (c3+1) (some (.row 2 [[.str a.key,AV.nil]] .live none)):=⟨_,rfl⟩
    have k4:∀ k,k<c3→h4 k=h3 k:=fun k hk=>by rw [hh4,ad (by omega)]
    have k5:∀ k,k<c3+1→h5 k=h4 k:=fun k hk=>by rw [hh5,ad (by omega)]
    have b4:=(congrFun hh4 c3).trans af
    have b5:=(k5 c3 (by omega)).trans b4
    have g5:=(congrFun hh5 (c3+1)).trans af
    simp [hv3,hi,ha,Array.cells,←hh4,b4,aK]
    rw [←hh5]
    try simp [b5]
    refine ACalls.pure hcel fun c4 hc4=>?_
    simp
    obtain ⟨vs,hvs⟩:∃ vs,vs=bn M a:=⟨_,rfl⟩
    rw [←hvs] at hK
    have hK0:0<vs.length:=by omega
    have hK2:vs.length≤20000:=by omega
    obtain ⟨Inv5,hInv5⟩:∃ Inv:Nat→List Int→Slots→St→Prop,Inv=fun (j:Nat) r sl s'=>∃ rv,s'.h (c3+1)=some (.row 2 [[.str a.key,rv]] .live none)∧RowAt s'.h 1 rv (aj (vs.take j))∧(∀ k,an rv k→c3+1+1≤k∧k<s'.c)∧(∀ k,k<c3+1→s'.h k=h5 k)∧c3+1+1≤s'.c:=⟨_,rfl⟩
    refine aY 89 Fn15.W4 vs Inv5 (by rfl) (by rfl) ?_ ?_ ?_
    ·rw [hInv5]
     exact ⟨by simp,.sl [] true,g5,.inl ⟨rfl,rfl⟩,fun k hk=>absurd hk aJ,fun _ _=>rfl,hc4⟩
    ·intro v4 s4 hv4 hI4
     rw [hInv5,List.take_length] at hI4
     obtain ⟨rv,q1,q2,q3,q4,q5⟩:=hI4
     obtain ⟨h6,c6⟩:=s4
     simp only at q1 q2 q3 q4 q5
     obtain ⟨gv,r1,r2⟩:=q2.at (i:=0) (by simpa using hK0)
     rw [lR] at r1
     subst r1
     have hgv:=q3 gv (aq.2 rfl)
     have go6:h6 go=some (.row 2 es .live none):=(q4 go (by omega)).trans ((k5 go (by omega)).trans ((k4 go i3).trans i4))
     have hap:=bH (sz:=2) (bytes:=40) (md:=.plain) (x:=[.str a.key,.row gv 1 0 vs.length]) (b:=true) (s:=⟨h6,c6⟩) (len:=es.length) (by simp) go6 rfl (by decide) (by decide) (by decide) rfl (by omega)
     simp only at hap
     have hKK:¬((vs.length:Int)<K):=by omega
     simp [hv4,hK,i1,q1,bsI,au,hap,hv3,hw]
     rw [hInv4]
     obtain ⟨h7,hh7⟩:∃ h7,h7=upd (upd h6 go none) c6 (some (.row 2 (es++[[.str a.key,.row gv 1 0 vs.length]]) .live none)):=⟨_,rfl⟩
     have k7:∀ k,k<c3→k≠go→h7 k=h3 k:=fun k hk hkg=>by rw [hh7,ad (by omega),ad hkg,q4 k (by omega),k5 k (by omega),k4 k hk]
     have hVa:V a.key=vs:=by rw [hV,jU hp.apart ham,hvs]
     rw [←hh7]
     refine ⟨c6,es++[[.str a.key,.row gv 1 0 vs.length]],by simp,by omega,by show c6<c6+1; omega,(congrFun hh7 c6).trans af,by simp [i5],⟨fun e he=>?_⟩,fun e he=>?_,?_,?_,?_⟩
     ·rcases List.mem_append.1 he with he | he
      ·obtain ⟨key,gv2,f1,f2,f3⟩:=i6.el e he
       have hlt:=i7 e he
       rw [f1] at hlt
       refine ⟨key,gv2,f1,f2,?_⟩
       show h7 gv2=_
       rw [k7 gv2 hlt.1 hlt.2]; exact f3
      ·rw [List.mem_singleton.1 he]
       refine ⟨a.key,gv,by rw [hVa],by omega,?_⟩
       show h7 gv=_
       rw [hVa,hh7,ad (by omega),ad (by omega)]; exact r2
     ·rcases List.mem_append.1 he with he | he
      ·have:=i7 e he
       exact ⟨by show eM e<c6+1; omega,by omega⟩
      ·rw [List.mem_singleton.1 he]
       show gv<c6+1∧gv≠c6
       omega
     ·rw [List.map_append,i8,List.take_add_one,List.getElem?_eq_getElem hi,ha,Option.toList_some,List.map_append]
      simp [gOf,dK,hVa,hvs]
     ·obtain ⟨m,ver,e1,e2⟩:=i9
      exact ⟨m,ver,(k7 _ (by omega) (by omega)).trans e1,e2⟩
     ·rw [hB]
      exact ⟨fun k hk=>(k7 k (by omega) (by omega)).trans (i10'.1 k hk),(k7 c0 (by omega) (by omega)).trans i10'.2.1,by show _≤c6+1; omega⟩
    ·intro j w ws v4 s4 hj hw4 hl3 hv4 hI4
     rw [hInv5] at hI4
     obtain ⟨rv,q1,q2,q3,q4,q5⟩:=hI4
     obtain ⟨h6,c6⟩:=s4
     simp only at q1 q2 q3 q4 q5
     have hwj:=ae (x:=(j:Int)+1) (by omega) (by omega)
     have hjK:(j:Int)<K:=by omega
     have b6:=(q4 c3 (by omega)).trans b5
     have hR6:RefMem h6 (c0+1) M:=by
      obtain ⟨m,ver,e1,e2⟩:=i9
      exact ⟨m,ver,(q4 _ (by omega)).trans ((k5 _ (by omega)).trans ((k4 _ (by omega)).trans e1)),e2⟩
     have hlk:=hR6.get (c:=c6) ⟨a.key,(j:Int)⟩
     simp only [Spot.cells] at hlk
     have hmw:M ⟨a.key,(j:Int)⟩=w:=by
      have h1:vs[j]?=some w:=by rw [List.getElem?_eq_getElem hj,hw4]
      rw [hvs] at h1
      unfold bn at h1
      rw [List.getElem?_map] at h1
      have hjr:j<(bA a.sizes).toNat:=by omega
      rw [List.getElem?_range hjr] at h1
      exact Option.some.inj h1
     rw [hmw] at hlk
     have htl:(vs.take j).length=j:=by rw [List.length_take]; omega
     obtain ⟨h7,a1,a2,a3,a4⟩:=q2.push (c:=c6) (bytes:=8) (md:=.plain) (b:=true) (e:=[.int w]) (by decide) (by decide) (by decide) (by decide) rfl (fun e he=>List.all_eq_true.1 (jH _) e he) (by rw [lR,htl]; omega) (fun k hk=>(q3 k hk).2)
     rw [lR,htl] at a1 a3
     have nr:¬an rv (c3+1):=fun h=>by have:=q3 _ h; omega
     have q7:=(a4 (c3+1) (by omega) nr).trans q1
     simp [hv4,hj,hjK,q1,b6,aK,hlk,bsI,au,a1,q7,hwj]
     rw [hInv5]
     refine ⟨.row c6 1 0 (j+1),af,.inr ⟨c6,by simp [htl]; omega,?_⟩,fun k hk=>?_,fun k hk=>?_,by show _≤c6+1; omega⟩
     ·show upd h7 (c3+1) _ c6=_
      rw [ad (by omega),a2,List.take_add_one,List.getElem?_eq_getElem hj,hw4]
      simp [aj]
     ·have:=aq.1 hk
      exact ⟨by omega,by show k<c6+1; omega⟩
     ·show upd h7 (c3+1) _ k=_
      rw [ad (by omega),a4 k (by omega) (fun h=>by have:=q3 k h; omega)]; exact q4 k hk
  ·intro i k ks v2 s2 hi hk hl2 hv2 hI2
   rw [hInv3] at hI2
   obtain ⟨hb2,hm2⟩:=hI2
   obtain ⟨h2,c2⟩:=s2
   simp only at hb2 hm2
   have hw:=ae (x:=(i:Int)+1) (by omega) (by omega)
   have hkb:=ho k (aM hl2)
   obtain ⟨kn,rfl⟩:∃ kn:Nat,k=kn:=⟨k.toNat,by omega⟩
   have hkl:kn<l.length:=by omega
   have hku:kn<us.length:=by omega
   obtain ⟨x,hx⟩:∃ x,x=l[kn]:=⟨_,rfl⟩
   have hlk:l[kn]?=some x:=by rw [List.getElem?_eq_getElem hkl,hx]
   obtain ⟨ge,hge1,hge2,hge3⟩:=hu3 kn us[kn] x (List.getElem?_eq_getElem hku) hlk
   have hxo:=hin x (List.mem_of_getElem? hlk)
   obtain ⟨gl,l1,l2⟩:=hu1 (by omega)
   have hgl:=hlx gl (by rw [l1]; exact aq.2 rfl)
   have hb2':=hb2
   rw [hB] at hb2'
   have hcc2:=hb2'.2.2
   have l3:=(hb2'.1 gl hgl).trans l2
   obtain ⟨M,hM⟩:∃ M,M=dk p.arrays l (o.take i) (dn gs):=⟨_,rfl⟩
   rw [←hM] at hm2
   have hMok:d6 M:=by rw [hM]; exact lO (fun y hy=>(hin y hy).expr) _ _ hMg
   obtain ⟨rd,hrd⟩:∃ rd,rd=x.reads p.arrays:=⟨_,rfl⟩
   obtain ⟨sp,hsp⟩:∃ sp,sp=x.sets p.arrays:=⟨_,rfl⟩
   obtain ⟨ex,hex⟩:∃ ex,ex=Step.expr x.step:=⟨_,rfl⟩
   have hrl:rd.length≤4096∧rd.length=aR ex:=by rw [hrd,hex]; unfold Inst.reads; rw [dS]; exact ⟨hxo.nr,rfl⟩
   have l7:ex.cells.length=7:=by obtain ⟨_,_,_,_,_,_⟩:=ex; rfl
   have t7:ex.cells.take 7=ex.cells:=List.take_of_length_le (by rw [l7]; omega)
   obtain ⟨st8,hst8⟩:∃ st8,x.step.cells=st8++ex.cells∧st8.length=8:=by
    rw [hex]
    generalize x.step=X
    obtain ⟨kind,name,low,high,conds,body,array,subs,⟨op,n2,form,ea,es2,args⟩⟩:=X
    exact ⟨[.int kind,.str name,row (low.map Bound.cells),row (high.map Bound.cells),row (conds.map Form.cells),row (body.map Step.cells),.str array,row (subs.map Form.cells)],by simp [Step.cells_mk,Step.expr,Expr.cells_mk],rfl⟩
   obtain ⟨f1,hf1⟩:∃ f1:AV,f1=.str (Step.name x.step):=⟨_,rfl⟩
   have huc:us[kn]=[.str (Step.name x.step),row (aj (x.env.map (·.2)))]++(st8++ex.cells)++[.map ge,row (rd.map Spot.cells),.str sp.array,.int sp.cell,row (aj x.way)]:=by
    rw [hge3]; unfold fu; rw [hst8.1,←hrd,←hsp]
   have hlen22:us[kn].length=22:=by rw [huc]; simp [l7,hst8.2]
   have c18:us[kn][18]?=some (row (rd.map Spot.cells)):=by rw [huc,List.getElem?_append_right (by simp [l7,hst8.2])]; simp [l7,hst8.2]
   have c17:us[kn][17]?=some (.map ge):=by rw [huc,List.getElem?_append_right (by simp [l7,hst8.2])]; simp [l7,hst8.2]
   have c19:(us[kn].drop 19).take 2=[.str sp.array,.int sp.cell]:=by rw [huc,List.drop_append,List.drop_of_length_le (by simp [l7,hst8.2])]; simp [l7,hst8.2]
   have c10:(us[kn].drop 10).take 7=ex.cells:=by
    rw [huc,List.append_assoc,List.drop_append,List.drop_of_length_le (by simp)]
    simp only [List.length_cons,List.length_nil,List.nil_append,List.append_assoc]
    rw [show 10-(0+1+1)=8 by omega,←hst8.2,List.drop_left,←l7,List.take_left]
   obtain ⟨u,hue⟩:∃ u,us[kn]=u:=⟨_,rfl⟩
   rw [hue] at c10 c17 c18 c19 hlen22
   simp [hv2,hi,hk,l1,l3,hku,hue,c18]
   refine (ka rd (by omega) h2 c2).mono ?_
   rintro rv ⟨h3,c3⟩ hc3 ⟨hF3,hrdn,hrv⟩
   simp only at hc3 hF3 hrdn hrv
   have hrvc:rv.cell=true:=by
    rcases hrdn with ⟨_,b,rfl⟩ | h
    ·rfl
    ·exact h.cell
   obtain ⟨h4,hh4⟩:∃ h4,h4=upd h3 c3 (some (.row 1 [[rv]] .live none)):=⟨_,rfl⟩
   have hst:stI 1 (.ptr c3 0 0) rv ⟨upd h3 c3 (some (.row 1 [[AV.nil]] .live none)),c3+1⟩=some ⟨h4,c3+1⟩:=by
    rw [stI_c (v:=rv) (g:=c3) (e:=0) (o:=0) (sz:=1) (es:=[[AV.nil]]) (cs:=[AV.nil]) hrvc af rfl (by simp),hh4]
    simp
   have k4:∀ k,k<c2→h4 k=h2 k:=fun k hk=>by rw [hh4,ad (by omega),hF3.h k hk]
   have hb4:B h4 (c3+1):=hBF hb2 (fun k hk _=>k4 k hk) (by omega)
   have hbox4:=(congrFun hh4 c3).trans af
   have hrd4:RdN h4 2 rv (rd.map Spot.cells):=hrdn.frame fun k hk=>by have:=hrv k hk; rw [hh4,ad (by omega)]
   obtain ⟨m,ver,e1,e2⟩:=hm2
   have hge4:cO h4 ge x.env:=by
    obtain ⟨v,hv⟩:=hge2
    exact ⟨v,(k4 ge (by omega)).trans ((hb2'.1 ge hge1).trans hv)⟩
   have hmv:=vj p.arrays M hMok x.env hxo.env _ ex (Nat.le_refl _) (by rw [hex]; exact hxo.expr) rd (c0+1) ge c3 ver m rv h4 (c3+1) (by omega) e2 ((k4 _ (by omega)).trans e1) hge4 (by omega) (by omega) (by omega) (by omega) (by omega) hbox4 hrd4 (fun k hk=>by have:=hrv k hk; omega)
   have hcx:ex.av=.agg ex.cells:=rfl
   rw [hcx] at hmv
   have l4:=(k4 gl (by omega)).trans l3
   have c17g:∀ h:17<u.length,u[17]'h=.map ge:=fun h=>by
    rw [List.getElem?_eq_getElem h] at c17
    exact Option.some.inj c17
   simp [hst,-rb,hv2,hku,l4,hue,c10,c17g,c19,hlen22]
   refine hmv.mono ?_
   rintro av ⟨h5,c5⟩ hc5 ⟨rfl,rv5,z1,z2,z3,z4⟩
   simp only at hc5 z1 z2 z4
   have hR5:RefMem h5 (c0+1) M:=⟨m,ver,(z4 _ (by omega) (by omega)).trans ((k4 _ (by omega)).trans e1),e2⟩
   obtain ⟨bd,hmu,hR⟩:=hR5.set (c:=c5) sp (bp M (aw x.env) ex rd).1
   simp only [Spot.cells] at hmu
   have l5:=(z4 gl (by omega) (by omega)).trans l4
   have hb5:B h5 c5:=hBF hb2 (fun k hk _=>(z4 k (by omega) (by omega)).trans (k4 k hk)) (by omega)
   simp [hku,l5,hue,c19,hlen22,hmu,hv2,hw]
   rw [hInv3]
   refine ⟨hBF hb5 (fun k hk hk2=>ad hk2) (Nat.le_succ _),?_⟩
   have hstp:dk p.arrays l (o.take (i+1)) (dn gs)=fun s'=>if s'=sp then (bp M (aw x.env) ex rd).1 else M s':=by
    rw [List.take_add_one,List.getElem?_eq_getElem hi,hk,Option.toList_some,mW,←hM]
    have:dk p.arrays l [(kn:Int)] M=gM p.arrays M x:=by simp [dk,hkl,←hx]
    rw [this]
    funext s'
    unfold gM
    rw [←hsp,←hrd,←hex]
   rw [hstp]
   exact hR _ af
 ·intro i g gs' v s' hi hx hl2 hv hI
  rw [hInv] at hI
  obtain ⟨hb1,hm1⟩:=hI
  obtain ⟨h1,c1⟩:=s'
  simp only at hb1 hm1
  have hw:=ae (x:=(i:Int)+1) (by omega) (by omega)
  obtain ⟨M1,hM1⟩:∃ M1,M1=(gs.take i).foldl cU fun _=>0:=⟨_,rfl⟩
  rw [←hM1] at hm1
  have hgok:=hgs g (aM hl2)
  have hgl:g.values.length≤20000:=by
   obtain ⟨_,a,ha,_,h3,_⟩:=hgok
   have:=(hp.arrays a (List.mem_of_getElem? ha)).cells
   omega
  have hc1:c0+1+1≤c1:=by rw [hB] at hb1; exact hb1.2.2
  obtain ⟨h2,hh2⟩:∃ h2,h2=upd h1 c1 (some (.row 2 [[.str g.key,row (aj g.values)]] .live none)):=⟨_,rfl⟩
  have hbx2:=(congrFun hh2 c1).trans af
  have hk2:∀ k,k<c1→h2 k=h1 k:=fun k hk=>by rw [hh2,ad (by omega)]
  have hB2:B h2 (c1+1):=hBF hb1 (fun k hk _=>hk2 k hk) (Nat.le_succ _)
  have hR2:RefMem h2 (c0+1) M1:=by
   obtain ⟨m,ver,e1,e2⟩:=hm1
   exact ⟨m,ver,(hk2 _ (by omega)).trans e1,e2⟩
  simp [hv,hi,hx,Grid.cells,←hh2,hbx2]
  obtain ⟨Inv2,hInv2⟩:∃ Inv:Nat→List Int→Slots→St→Prop,Inv=fun (j:Nat) r sl s'=>B s'.h s'.c∧RefMem s'.h (c0+1) (jR M1 g.key g.values j)∧s'.h c1=h2 c1∧c1+1≤s'.c:=⟨_,rfl⟩
  refine aY 32 Fn15.W1 g.values Inv2 (by rfl) (by rfl) ?_ ?_ ?_
  ·rw [hInv2]
   exact ⟨by simp,hB2,by rw [sk]; exact hR2,rfl,Nat.le_refl _⟩
  ·intro v2 s2 hv2 hI2
   rw [hInv2] at hI2
   obtain ⟨b1,b2,b3,b4⟩:=hI2
   simp [hv2,hv,hw]
   rw [hInv]
   refine ⟨b1,?_⟩
   rw [List.take_add_one,List.getElem?_eq_getElem hi,hx,Option.toList_some,List.foldl_append,←hM1]
   exact b2
  ·intro j w ws v2 s2 hj hw2 hl3 hv2 hI2
   rw [hInv2] at hI2
   obtain ⟨b1,b2,b3,b4⟩:=hI2
   obtain ⟨h3,c3⟩:=s2
   simp only at b1 b2 b3 b4
   have hwj:=ae (x:=(j:Int)+1) (by omega) (by omega)
   obtain ⟨bd,hmu,hR⟩:=b2.set (c:=c3) ⟨g.key,(j:Int)⟩ w
   simp only [Spot.cells] at hmu
   rw [hbx2] at b3
   simp [hv2,hj,hw2,b3,aK,hmu,hwj]
   rw [hInv2]
   refine ⟨hBF b1 (fun k hk hk2=>ad hk2) (Nat.le_succ _),?_,(ad (by omega)).trans (b3.trans hbx2.symm),by show c1+1≤c3+1; omega⟩
   rw [rM _ _ _ _ hj,hw2]
   exact hR _ af
end Go.Proofs.YtocppbmmfklbmaaGreat
set_option maxRecDepth 20000
set_option maxHeartbeats 4000000
namespace Go.Proofs.YtocppbmmfklbmaaGreat
open Go.AM Go.Wb
theorem FzH.low {c0:Nat} {h h':Heap} (x:FzH (fun k=>c0≤k) h h') {k:Nat} (hk:k<c0):h' k=h k:=by
 rcases x k with e | ⟨h1,_⟩
 ·exact e
 ·omega
theorem rC (p:Wb.Prog) (hcnt:aC p.steps≤300) (hA12:p.arrays.length≤12) (gs:List Wb.Grid) (h0:Heap) (c0:Nat) :
  ACalls Pg Fn10.n [p.av,row (gs.map Grid.cells)] ⟨h0,c0⟩ fun av s'=>Fr c0 h0 s'.h s'.c∧∃ L,av=.tup [row (L.map Grid.cells),.int (bV p gs)]∧(bV p gs≠0→L=[])∧(bV p gs=0→eC p.arrays (dk p.arrays (aA p).2.l (du (aA p).2.l.length) (dn gs)) L):=by
 refine ACalls.deepT (fun k=>c0≤k) (qV p hcnt hA12 gs h0 c0) ?_
 rintro av s' ⟨hF,hq⟩
 by_cases hz:bV p gs=0
 ·rw [if_pos hz] at hq
  obtain ⟨go,es,rfl,h1,h2,V,h3,h4⟩:=hq
  refine ⟨_,_,_,rfl,h3.frz h2 h1,fun h'' hh=>⟨⟨hF.c,fun k hk=>(FzH.low hh hk).trans (hF.h k hk)⟩,es.map (gOf V),by rw [hz],fun h=>absurd hz h,fun _=>h4⟩⟩
 ·rw [if_neg hz] at hq
  refine ⟨_,_,_,hq,.leaf _,fun h'' hh=>⟨⟨hF.c,fun k hk=>(FzH.low hh hk).trans (hF.h k hk)⟩,[],rfl,fun _=>rfl,fun h=>absurd h hz⟩⟩
theorem vO (p:Wb.Prog) (hcnt:aC p.steps≤300) (hA12:p.arrays.length≤12) (gs:List Wb.Grid) (o:List Int) (h0:Heap) (c0:Nat) :
  ACalls Pg Fn11.n [p.av,row (gs.map Grid.cells),row (aj o)] ⟨h0,c0⟩ fun av s'=>Fr c0 h0 s'.h s'.c∧∃ L,av=.tup [row (L.map Grid.cells),.int (db p gs o)]∧(db p gs o≠0→L=[])∧(db p gs o=0→eC p.arrays (dk p.arrays (aA p).2.l o (dn gs)) L):=by
 refine ACalls.deepT (fun k=>c0≤k) (nV p hcnt hA12 gs o h0 c0) ?_
 rintro av s' ⟨hF,hq⟩
 by_cases hz:db p gs o=0
 ·rw [if_pos hz] at hq
  obtain ⟨go,es,rfl,h1,h2,V,h3,h4⟩:=hq
  refine ⟨_,_,_,rfl,h3.frz h2 h1,fun h'' hh=>⟨⟨hF.c,fun k hk=>(FzH.low hh hk).trans (hF.h k hk)⟩,es.map (gOf V),by rw [hz],fun h=>absurd hz h,fun _=>h4⟩⟩
 ·rw [if_neg hz] at hq
  refine ⟨_,_,_,hq,.leaf _,fun h'' hh=>⟨⟨hF.c,fun k hk=>(FzH.low hh hk).trans (hF.h k hk)⟩,[],rfl,fun _=>rfl,fun h=>absurd h hz⟩⟩
theorem rk (p:Wb.Prog) (hp:Right p) (hA12:p.arrays.length≤12) (l:List Inst) (hl:l.length≤1000000) (hin:∀ x∈l,InstOk p.arrays (bw [] p.steps) x) (lx:AV) (gs:List Wb.Grid) (hgs:∀ g∈gs,gU p.arrays g) (o:List Int) (ho:∀ k∈o,0≤k∧k<l.length) (h0:Heap) (c0:Nat) (hu:rP h0 c0 p.arrays lx l) (hlx:∀ k,an lx k→k<c0) :
  ACalls Pg Fn15.n [p.av,lx,row (gs.map Grid.cells),row (aj o)] ⟨h0,c0⟩ fun av s'=>Fr c0 h0 s'.h s'.c∧∃ L,av=row (L.map Grid.cells)∧eC p.arrays (dk p.arrays l o (dn gs)) L:=by
 refine ACalls.deep (fun k=>c0≤k) (lZ p hp hA12 l hl hin lx gs hgs o ho h0 c0 hu hlx) ?_
 rintro av s' ⟨hF,go,es,rfl,h1,h2,V,h3,h4⟩
 exact ⟨_,h3.frz h2 h1,fun h'' hh=>⟨⟨hF.c,fun k hk=>(FzH.low hh hk).trans (hF.h k hk)⟩,es.map (gOf V),rfl,h4⟩⟩
theorem uq (n:Nat) (hn:n≤1000000) (h0:Heap) (c0:Nat):ACalls Pg Fn16.n [.int n] ⟨h0,c0⟩ fun av s'=>av=row (aj (du n))∧Fr c0 h0 s'.h s'.c:=by
 refine ACalls.deep (fun k=>c0≤k) (rz n hn h0 c0) ?_
 rintro av s' ⟨g,rfl,h1,h2,h3,hF⟩
 refine ⟨row (aj (du n)),?_,fun h'' hh=>⟨rfl,hF.c,fun k hk=>(FzH.low hh hk).trans (hF.h k hk)⟩⟩
 have hul:=m9 n
 have hr:row (aj (du n))=.sl (aj (du n)) false:=by simp
 rw [hr]
 refine .row g 1 0 n _ .live _ h3 (.inl rfl) h1 (by simp [hul]) (by simp [hul]) ?_ ?_
 ·intro i e y he hy
  rw [Nat.zero_add] at he; rw [he] at hy; cases hy; rfl
 ·intro i j e y c d he hy hc hd
  rw [Nat.zero_add] at he; rw [he] at hy; cases hy; rw [hc] at hd; cases hd
  obtain ⟨m,_,hm⟩:=List.mem_map.1 (List.mem_of_getElem? he)
  subst hm
  match j with
  | 0=>simp at hc; subst hc; exact .leaf _
  | j+1=>simp at hc
theorem ry (a b:Int):aN Pg Fn13.n [row (aj [a,b])] (.int (if a=0 then b else a)):=by
 rintro ⟨h0,c0⟩
 refine Fn13.calls .frz ?_
 unfold Fn13.ac
 simp
 refine bR 7 Fn13.W0 [a,b] (fun (i:Nat) r sl=>(if a=0 then b else a)=(r.find? (fun x=>decide (x≠0))).getD 0) (by rfl) (by rfl) ?_ ?_ ?_
 ·refine ⟨by simp,?_⟩
  by_cases ha:a=0
  ·by_cases hb:b=0 <;> simp [ha,hb,List.find?]
  ·simp [ha,List.find?]
 ·intro v c1 hv hc hI
  simp at hI
  simp [hv,hI]
 ·intro i x xs v c1 hi hx hl hv hc hI
  have hi2:i<2:=by simpa using hi
  have hi3:(i:Int)<2:=by omega
  have hw:=ae (x:=(i:Int)+1) (by omega) (by omega)
  by_cases hz:x=0
  ·simp [hv,hi2,hi3,hx,hz,hw]
   exact ⟨hc,by simpa [List.find?,hz] using hI⟩
  ·simp [hv,hi2,hi3,hx,hz]
   simpa [List.find?,hz] using hI.symm
theorem jq (l:List Int):aN Pg Fn30.n [row (aj l),row (aj l)] (.bool true):=by
 rintro ⟨h0,c0⟩
 refine ACalls.small fun hs=>?_
 have hlen:l.length≤68719476736:=by simp at hs; exact hs.1
 refine Fn30.calls .frz ?_
 unfold Fn30.ac
 simp
 refine bR 13 Fn30.W0 l (fun (i:Nat) r sl=>True) (by rfl) (by rfl) ?_ ?_ ?_
 ·simp
 ·intro v c1 hv hc hI
  simp [hv]
 ·intro i x xs v c1 hi hx hl hv hc hI
  have hw:=ae (x:=(i:Int)+1) (by omega) (by omega)
  simp [hv,hi,hx,hw]
  exact hc
theorem iS (g:Wb.Grid):aN Pg Fn61.n [.agg g.cells,.agg g.cells] (.bool true):=by
 rintro ⟨h0,c0⟩
 refine Fn61.calls .frz ?_
 unfold Fn61.ac
 have hne:¬c0=c0+1:=by omega
 simp [Grid.cells,hne]
 refine ACalls.pure (jq g.values) fun c1 hc1=>?_
 simp
theorem ii (L:List Wb.Grid):aN Pg Fn60.n [row (L.map Grid.cells),row (L.map Grid.cells),.fn (.func Fn61.n) [] []] (.bool true):=by
 rintro ⟨h0,c0⟩
 refine ACalls.small fun hs=>?_
 have hlen:L.length≤68719476736:=by simp at hs; omega
 refine Fn60.calls .frz ?_
 unfold Fn60.ac
 simp
 refine bh 17 Fn60.W0 L (fun (i:Nat) r sl s'=>True) (by rfl) (by rfl) ?_ ?_ ?_
 ·simp
 ·intro v h c hv hF hI
  simp [hv]
  exact hF.retH
 ·intro i g gs v h c hi hx hl hv hF hI
  have hw:=ae (x:=(i:Int)+1) (by omega) (by omega)
  have hcc:=hF.c
  have hne:¬c=c+1:=by omega
  have hs:=iS g
  simp only [Grid.cells] at hs
  simp [hv,hi,hx,Grid.cells,hne]
  refine ACalls.pure hs fun c2 hc2=>?_
  simp [hv,hw]
  exact ⟨by omega,fun k hk=>by rw [ad (by omega),ad (by omega)]; exact hF.h k hk⟩
theorem co (L:List Wb.Grid):aN Pg Fn18.n [row (L.map Grid.cells),row (L.map Grid.cells)] (.bool true):=by
 intro s
 refine Fn18.calls .frz ?_
 unfold Fn18.ac
 simp
 refine ACalls.pure (ii L) fun c1 hc1=>?_
 simp
end Go.Proofs.YtocppbmmfklbmaaGreat
set_option maxRecDepth 20000
set_option maxHeartbeats 4000000
namespace Go.Proofs.YtocppbmmfklbmaaGreat
open Go.AM Go.Wb
def p7:Wb.Prog:=⟨[⟨⟨#[97]⟩,[1]⟩],[.mk 3 ⟨#[115]⟩ [] [] [] [] ⟨#[97]⟩ [⟨0,[]⟩] (.mk 1 7 ⟨0,[]⟩ ⟨#[]⟩ [] [])]⟩
theorem AP:aW p7=0:=by decide
theorem p7_run:(aA p7).1=0∧(aA p7).2.l=[⟨0,.mk 3 ⟨#[115]⟩ [] [] [] [] ⟨#[97]⟩ [⟨0,[]⟩] (.mk 1 7 ⟨0,[]⟩ ⟨#[]⟩ [] []),[],[0]⟩]:=by
 constructor <;> rfl
theorem tr:bV p7 []=0:=by decide
theorem vi:(p7.arrays.map fun a=>(⟨a.key,bn (dk p7.arrays (aA p7).2.l (du (aA p7).2.l.length) (dn [])) a⟩:Wb.Grid))=[⟨⟨#[97]⟩,[7]⟩]:=by rfl
theorem vH:aN Pg Fn62.n [] p7.av:=by
 rintro ⟨h0,c0⟩
 refine Fn62.calls .frz ?_
 unfold Fn62.ac
 simp [bsI,au,aK]
 rfl
theorem oj:aN Pg Fn19.n [] (.bool true):=by
 rintro ⟨h0,c0⟩
 refine Fn19.calls .frz ?_
 unfold Fn19.ac
 have hrun:=fun h c=>rC p7 (by decide) (by decide) [] h c
 simp
 refine ACalls.pure vH fun c1 hc1=>?_
 simp
 refine (hrun h0 c1).mono ?_
 rintro av ⟨h2,c2⟩ hc2 ⟨hF,L,rfl,_,hL⟩
 have hL:=(hL tr).1
 rw [vi] at hL
 have hL1:L=[⟨⟨#[97]⟩,[7]⟩]:=List.perm_singleton.1 hL
 subst hL1
 rw [tr]
 simp [Grid.cells,aj]
 exact aE fun k hk=>hF.h k (by omega)
theorem pQ (A:List Wb.Array):∀ l:List Inst,(l.length:Int)≤ci A l
 | []=>by simp [ci]
 | y::ys=>by
  have ih:=pQ A ys
  have e:=jJ A [y] ys
  rw [jL] at e
  simp only [List.singleton_append] at e
  rw [e]; simp; omega
theorem ta (L:List Int) (hL:L.length≤1048576) (h0:Heap) (c0:Nat) :
  ACalls Pg Fn3.n [row (aj L)] ⟨h0,c0⟩ fun av s'=>av=.bool true∧s'.h=h0:=by
 refine Fn3.calls .frz ?_
 unfold Fn3.ac
 simp [aK]
 obtain ⟨h1,hh1⟩:∃ h1,h1=upd h0 c0 (some (.row 2 [[row (aj L),.int 0]] .live none)):=⟨_,rfl⟩
 have hs1:SM h1 c0 L 0:=by rw [hh1]; exact af
 have k1:∀ k,k<c0→h1 k=h0 k:=fun k hk=>by rw [hh1,ad (by omega)]
 rw [←hh1]
 refine (wE L hL 0 c0 h1 (c0+1) hs1 (by omega) (by omega) (by omega)).mono ?_
 rintro av ⟨h2,c2⟩ hc2 ⟨⟨p,rfl,hgen⟩,a2,ha1,ha2,hs2,k2⟩
 simp only at hc2 hs2 k2
 have hcnt:aC p.steps≤300:=by have:=hgen.steps; omega
 have hA12:p.arrays.length≤12:=by have:=hgen.arrays; omega
 obtain ⟨h3,hh3⟩:∃ h3,h3=upd h2 c2 (some (.row 2 [[row (p.arrays.map Array.cells),row (p.steps.map Step.cells)]] .live none)):=⟨_,rfl⟩
 have k3:∀ k,k<c2→h3 k=h2 k:=fun k hk=>by rw [hh3,ad (by omega)]
 have b3:=(congrFun hh3 c2).trans af
 have hs3:SM h3 c0 L a2:=by unfold SM; rw [k3 c0 (by omega)]; exact hs2
 have hav:p.av=.agg [row (p.arrays.map Array.cells),row (p.steps.map Step.cells)]:=rfl
 have hgl:=wI p hgen L hL a2 c0 h3 (c2+1) hs3 (by omega) (by omega) (by omega)
 have hpf:=s8 p (by omega)
 have hrf:=fun h c=>wF p hcnt h c
 simp only [Prog.av] at hgl hpf hrf
 simp [Prog.av]
 rw [←hh3]
 refine hgl.mono ?_
 rintro av ⟨h4,c4⟩ hc4 ⟨⟨gs,rfl,hgs3⟩,a4,ha3,ha4,hs4,k4⟩
 simp only at hc4 hs4 k4
 have b4:=(k4 c2 (by omega) (by omega)).trans b3
 simp [b4]
 refine ACalls.pure hpf fun c5 hc5=>?_
 simp [b4]
 refine (hrf h4 c5).mono ?_
 rintro av ⟨h6,c6⟩ hc6 ⟨lx,rfl,hF6,hlx,hlu⟩
 simp only at hc6 hF6 hlx hlu
 obtain ⟨l,hl⟩:∃ l,l=(aA p).2.l:=⟨_,rfl⟩
 obtain ⟨n,hn⟩:∃ n:Nat,n=if bq p=0 then l.length else 0:=⟨_,rfl⟩
 have hn2:n≤200000:=by
  by_cases hz:bq p=0
  ·rw [if_pos hz] at hn
   have h1:=pQ p.arrays l
   have h2:ci p.arrays l≤200000:=by
    have hz':=hz
    unfold bq at hz'
    split at hz'
    ·split at hz'
     ·unfold cg at hz'
      split at hz'
      ·cases hz'
      ·split at hz'
       ·cases hz'
       ·rw [hl]; omega
     ·exact absurd hz' ‹_›
    ·exact absurd hz' ‹_›
   omega
  ·rw [if_neg hz] at hn; omega
 have hlen:∀ s,eP 1 lx s=some (.int n):=fun s=>by
  by_cases hz:bq p=0
  ·rw [if_pos hz] at hlu hn
   obtain ⟨us,u1,u2,_⟩:=hlu
   have:=u1.len s
   rw [u2,←hl,←hn] at this; exact this
  ·rw [if_neg hz] at hlu hn
   rw [hlu,hn]; rfl
 have hs6:SM h6 c0 L a4:=by unfold SM; rw [hF6.h c0 (by omega)]; exact hs4
 have b6:=(hF6.h c2 (by omega)).trans b4
 obtain ⟨m,hm⟩:∃ m,m=min n 200:=⟨_,rfl⟩
 have hao:=wn m (by omega) L hL a4 c0 h6 c6 hs6 (by omega) (by omega) (by omega)
 have hmn:eT (fun a b=>if b<a then b else a) [AV.int n,.int 200]=some (.int m):=by
  rw [hm]
  by_cases h:(200:Int)<n
  ·have h2:min n 200=200:=by omega
   simp [eT,h,h2]
  ·have h2:min n 200=n:=by omega
   simp [eT,h,h2]
 simp [hlen,hmn]
 refine hao.mono ?_
 rintro av ⟨h7,c7⟩ hc7 ⟨⟨o,rfl,hol⟩,a7,_,_,hs7,k7⟩
 simp only at hc7 hs7 k7
 have b7:=(k7 c2 (by omega)).trans b6
 have hF7:∀ k,k<c0→h7 k=h0 k:=fun k hk=>by rw [k7 k (by omega),hF6.h k (by omega),k4 k (by omega) (by omega),k3 k (by omega),k2 k (by omega) (by omega),k1 k hk]
 have hone:(if bq p=0 then de p gs else bq p)=bV p gs:=by
  unfold bV de
  by_cases hz:bq p=0
  ·have hpz:aW p=0:=by
    refine Classical.byContradiction fun h=>?_
    have hz':=hz
    unfold bq at hz'
    rw [if_neg h] at hz'; exact h hz'
   rw [if_pos hz,if_pos hz,if_pos hpz]
  ·rw [if_neg hz,if_neg hz]
 have htwo:∀ o2,(if bV p gs=0 then cV n o2 else bV p gs)=db p gs o2:=fun o2=>by
  unfold db
  by_cases hz:bV p gs=0
  ·have hz2:=(iZ hz).2.1
   rw [if_pos hz2] at hn
   rw [if_pos hz,if_pos hz,hn,hl]
  ·rw [if_neg hz,if_neg hz]
 by_cases hbig:(200:Int)<n
 case' pos=>
  obtain ⟨o2,ho2⟩:∃ o2:List Int,o2=[]:=⟨_,rfl⟩
  have hnil:AV.sl [] false=row (aj o2):=by rw [ho2]; rfl
  simp [hbig,hlen,b7]
 case' neg=>
  obtain ⟨o2,ho2⟩:∃ o2:List Int,o2=o:=⟨_,rfl⟩
  have hnil:True:=trivial
  simp [hbig,hlen,b7]
  rw [←ho2]
 all_goals
  have hrr:=rC p hcnt hA12 gs h7 c7
  simp only [Prog.av] at hrr
  refine hrr.mono ?_
  rintro av ⟨h8,c8⟩ hc8 ⟨hF8,L1,rfl,hL1a,hL1b⟩
  simp only at hc8 hF8
  have b8:=(hF8.h c2 (by omega)).trans b7
  simp [b8]
  try rw [hnil]
  have hio:=vO p hcnt hA12 gs o2 h8 c8
  simp only [Prog.av] at hio
  refine hio.mono ?_
  rintro av ⟨h9,c9⟩ hc9 ⟨hF9,L2,rfl,hL2a,hL2b⟩
  simp only at hc9 hF9
  have b9:=(hF9.h c2 (by omega)).trans b8
  have k9:∀ k,k<c7→h9 k=h7 k:=fun k hk=>(hF9.h k (by omega)).trans (hF8.h k hk)
  have hlow9:∀ k,k<c0→h9 k=h0 k:=fun k hk=>(k9 k (by omega)).trans (hF7 k hk)
  have hcg:=vo p hcnt gs
  have herr:=ry (bq p) (de p gs)
  rw [hone] at herr
  have hof:=vT n (by omega) o2
  have herr2:=ry (bV p gs) (cV n o2)
  rw [htwo o2] at herr2
  simp only [Prog.av] at hcg
  by_cases hpz:aW p=0
  case' pos=>
   have hgf:=vU p (fy hpz).arrays gs
   have hck:bG p.arrays ⟨#[]⟩ gs=de p gs:=by simp [de,hpz]
   rw [hck] at hgf
   simp only [Prog.av] at hgf
   simp [hpz,b9]
   refine ACalls.pure hgf fun c10 hc10=>?_
   simp [bsI,au]
  case' neg=>
   have hck:aW p=de p gs:=by simp [de,hpz]
   obtain ⟨c10,hc10⟩:∃ c10,c9≤c10∧c10=c9:=⟨c9,Nat.le_refl _,rfl⟩
   simp [hpz,bsI,au]
   rw [hck]
  all_goals
   refine ACalls.pure herr fun c11 hc11=>?_
   simp [hlen]
   try rw [hnil]
   refine ACalls.pure hof fun c12 hc12=>?_
   simp [bsI,au]
   refine ACalls.pure herr2 fun c13 hc13=>?_
   by_cases h1z:bV p gs=0
   case neg=>
    have h2z:¬db p gs o2=0:=by unfold db; rw [if_neg h1z]; exact h1z
    obtain rfl:=hL1a h1z
    obtain rfl:=hL2a h2z
    simp [h1z,h2z,b9]
    refine ACalls.pure hcg fun c14 hc14=>?_
    simp
    refine ACalls.pure (co []) fun c15 hc15=>?_
    simp
    refine ACalls.pure (co []) fun c16 hc16=>?_
    simp
    refine ACalls.pure oj fun c17 hc17=>?_
    simp
    exact aE hlow9
   obtain ⟨hpz',hrz,hok,hmany,hgs⟩:=iZ h1z
   have hp:=fy hpz'
   rw [if_pos hrz] at hlu hn
   rw [←hl] at hlu hmany
   have hin:=dY hp
   rw [←hl] at hin
   have hu9:UsesAt h9 c13 p.arrays lx l:=by
    refine hlu.frame (by omega) fun k hk=>?_
    have hk1:k<c6∧k≠c0:=by
     rcases hk with hk | ⟨hk,kv,ver,e⟩
     ·have:=hlx k hk; omega
     ·refine ⟨hk,fun e2=>?_⟩
      subst e2
      unfold SM at hs6
      rw [hs6] at e; cases e
    rw [k9 k (by omega),k7 k hk1.2]
   have hnr:∀ k,an (norm lx) k→k<c13:=fun k hk=>by
    have:an lx k:=by
     obtain ⟨us,u1,_⟩:=hlu
     rcases u1 with ⟨e1,_⟩ | ⟨g,e1,_⟩
     ·rw [e1] at hk; exact absurd hk aJ
     ·rw [e1] at hk ⊢; exact hk
    have:=hlx k this; omega
   have hct:=uq n (by omega) h9 c13
   simp [h1z,b9,hlen]
   refine hct.mono ?_
   rintro av ⟨h10,c14⟩ hc14 ⟨rfl,hF10⟩
   simp only at hc14 hF10
   have b10:=(hF10.h c2 (by omega)).trans b9
   have hu10:UsesAt h10 c14 p.arrays lx l:=by
    refine hu9.frame hc14 fun k hk=>hF10.h k ?_
    rcases hk with hk | ⟨hk,_⟩
    ·have:=hlx k hk; omega
    ·exact hk
   have hpl:=rk p hp hA12 l (by omega) hin (norm lx) gs hgs (du n) (fun k hk=>by
    obtain ⟨j,hj,rfl⟩:=List.mem_map.1 hk
    have:=List.mem_range.1 hj
    omega) h10 c14 hu10.n (fun k hk=>by have:=hnr k hk; omega)
   simp only [Prog.av] at hpl
   simp [b10]
   refine hpl.mono ?_
   rintro av ⟨h11,c15⟩ hc15 ⟨hF11,L3,rfl,hL3⟩
   simp only at hc15 hF11
   have b11:=(hF11.h c2 (by omega)).trans b10
   have hLL:L1=L3:=qz hp.apart (hL1b h1z) (by rw [←hl,←hn]; exact hL3)
   subst hLL
   have hlow11:∀ k,k<c0→h11 k=h0 k:=fun k hk=>(hF11.h k (by omega)).trans ((hF10.h k (by omega)).trans (hlow9 k hk))
   by_cases h2z:db p gs o2=0
   case neg=>
    obtain rfl:=hL2a h2z
    simp [h1z,h2z,b11]
    refine ACalls.pure hcg fun c16 hc16=>?_
    simp
    refine ACalls.pure (co L1) fun c17 hc17=>?_
    simp
    refine ACalls.pure (co []) fun c18 hc18=>?_
    simp
    refine ACalls.pure oj fun c19 hc19=>?_
    simp
    exact aE hlow11
   have hor:cV l.length o2=0:=by
    have:=h2z
    unfold db at this
    rw [if_pos h1z,←hl] at this
    exact this
   have hu11:UsesAt h11 c15 p.arrays lx l:=by
    refine hu10.frame hc15 fun k hk=>hF11.h k ?_
    rcases hk with hk | ⟨hk,_⟩
    ·have:=hlx k hk; omega
    ·exact hk
   have hpl2:=rk p hp hA12 l (by omega) hin (norm lx) gs hgs o2 (nB hor).2 h11 c15 hu11.n (fun k hk=>by have:=hnr k hk; omega)
   simp only [Prog.av] at hpl2
   simp [h1z,h2z,b11]
   try rw [hnil]
   refine hpl2.mono ?_
   rintro av ⟨h12,c16⟩ hc16 ⟨hF12,L4,rfl,hL4⟩
   simp only at hc16 hF12
   have b12:=(hF12.h c2 (by omega)).trans b11
   have hLL2:L2=L4:=qz hp.apart (hL2b h2z) (by rw [←hl]; exact hL4)
   subst hLL2
   have hlow12:∀ k,k<c0→h12 k=h0 k:=fun k hk=>(hF12.h k (by omega)).trans (hlow11 k hk)
   simp [b12]
   refine ACalls.pure hcg fun c17 hc17=>?_
   simp
   refine ACalls.pure (co L1) fun c18 hc18=>?_
   simp
   refine ACalls.pure (co L2) fun c19 hc19=>?_
   simp
   refine ACalls.pure oj fun c20 hc20=>?_
   simp
   exact aE hlow12
end Go.Proofs.YtocppbmmfklbmaaGreat
set_option maxRecDepth 20000
namespace Go.Proofs.YtocppbmmfklbmaaGreat
open Go.AM Go.Wb
theorem vk {G G':Gh} {s s':St} {w w':World} (h:Stp G s w G' s' w') (hs:∀ k,s.h k=none):Go.RowKit.Below w.heap.size w w':=
 ⟨h.os,h.tape,h.output,h.size,fun k hk=>h.keep k hk fun ⟨g,body,l,hg,_⟩=>by rw [hs g] at hg; cases hg⟩
theorem tk (f:FuncId) (hcall:∀ (xs:_root_.Array Value) (w:World),(callFunc f xs).run Tryz.prog w=.ok (.enter f xs) w)
  (hlaw:∀ L:List Int,L.length≤1048576→∀ (h0:Heap) (c0:Nat),ACalls Pg f [row (aj L)] ⟨h0,c0⟩ fun av s'=>av=.bool true∧s'.h=h0)
  (W:World) (a:Option Addr) (len cap:Nat) (zs:List Int) (hl:len≤cap) (hz:zs.length=len) (hlen:len≤1048576)
  (hcell:len=0∨∃ b off,a=some ⟨b,off,none⟩∧∀ j,j<len→W.cell? ⟨b,off+j,none⟩=some (.int .i64 (zs.getD j 0))) :
  Calls Tryz.prog f #[.slice a len cap] W fun e W'=>e=.returned (.bool true)∧Go.RowKit.Below W.heap.size W W':=by
 obtain ⟨G,hG⟩:∃ G:Gh,G=⟨fun _=>none,fun b o=>W.cell? ⟨b,o,none⟩⟩:=⟨_,rfl⟩
 have hS:Sim G ⟨fun _=>none,0⟩ W:=by
  refine ⟨fun b o v h=>?_,fun g l h=>?_,fun g b h=>?_,fun i j bi bj li lj _ hi=>?_⟩
  ·rw [hG] at h; exact h
  ·rw [hG] at h; cases h
  ·cases h
  ·cases hi
 have hrow:row (aj zs)=.sl (aj zs) false:=by simp
 have hil:(aj zs).length=len:=by simp [hz]
 have hget:∀ (i:Nat) (e:List AV),(aj zs)[i]?=some e→i<len∧e=[.int (zs.getD i 0)]:=fun i e he=>by
  have hi:i<zs.length:=by
   have:=(List.getElem?_eq_some_iff.1 he).1
   rw [lR] at this; exact this
  refine ⟨by omega,?_⟩
  unfold aj at he
  rw [List.getElem?_map,List.getElem?_eq_getElem hi] at he
  rw [List.getD_eq_getElem?_getD,List.getElem?_eq_getElem hi]
  exact (Option.some.inj he).symm
 have hrep:Rep G (row (aj zs)) (.slice a len cap):=by
  rw [hrow]
  have key:Rep G (.sl (aj zs) false) (.slice a (aj zs).length cap):=by
   obtain ⟨b,off,hb⟩:∃ b off,(len≠0→a=some ⟨b,off,none⟩)∧∀ j,j<len→W.cell? ⟨b,off+j,none⟩=some (.int .i64 (zs.getD j 0)):=by
    rcases hcell with h | ⟨b,off,h1,h2⟩
    ·exact ⟨0,0,fun hn=>absurd h hn,fun j hj=>by omega⟩
    ·exact ⟨b,off,fun _=>h1,h2⟩
   refine .sl (aj zs) false a cap b off 1 (fun i _=>.int .i64 (zs.getD i 0)) (by omega) (fun h=>by cases h) (fun hne=>hb.1 fun h0=>hne (List.length_eq_zero_iff.1 (by omega))) (fun i e he=>by rw [(hget i e he).2]; rfl) (fun i e j c he hc=>?_) (fun i e j c he hc=>?_) (by omega)
   ·obtain ⟨h1,rfl⟩:=hget i e he
    match j with
    | 0=>
     rw [hG]
     show W.cell? ⟨b,off+i*1+0,none⟩=_
     rw [Nat.mul_one,Nat.add_zero]
     exact hb.2 i h1
    | j+1=>simp at hc
   ·obtain ⟨h1,rfl⟩:=hget i e he
    match j with
    | 0=>simp at hc; subst hc; exact .sc _ rfl
    | j+1=>simp at hc
  rw [hil] at key
  exact key
 have hc:=hlaw zs (by omega) (fun _=>none) 0 G W [.slice a len cap] hS (RepL.cons hrep (RepL.nil G))
 unfold CallOk at hc
 rw [hcall] at hc
 refine hc.mono fun e w' he=>?_
 cases e with
 | returned v=>
  obtain ⟨av,G',s',h1,h2,h3,rfl,_⟩:=he
  have hv:v=.bool true:=by cases h3; rfl
  exact ⟨by rw [hv],vk h1 fun _=>rfl⟩
 | _=>exact absurd he id
end Go.Proofs.YtocppbmmfklbmaaGreat
