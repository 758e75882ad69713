/- Part of the claim: see its last text. -/
import Derived.Test.YtjhogglgkjcacaaGreatMc1
import Derived.Test.YtjhogglgkjcacaaGreatMc0
import Derived.Test.YtjhogglgkjcacaaGreatMa20
set_option linter.all false
set_option maxRecDepth 20000
set_option maxHeartbeats 4000000
namespace Go.Proofs.YtjhogglgkjcacaaGreat
open Go.AM Go.Wb
def nm (y:Wb.Step×List Wb.Step):ByteArray:=Step.name y.1
mutual
theorem nS {A:List Wb.Array}:∀ {s:Wb.Step} {L N:List ByteArray} {d:Int},(aD A L d N s).1=0→∀ around,(aD A L d N s).2=N++(cr around s).map nm∧(N.Nodup→(N++(cr around s).map nm).Nodup)
 | .mk kind name low high conds body array subs expr,L,N,d,h,around=>by
  simp only [aD] at h ⊢
  by_cases a1:12<d
  ·rw [if_pos a1] at h; exact absurd h (by simp)
  rw [if_neg a1] at h ⊢
  by_cases a2:¬(1≤kind∧kind≤3)
  ·rw [if_pos a2] at h; exact absurd h (by simp)
  rw [if_neg a2] at h ⊢
  by_cases a3:bD kind name low high conds body array subs expr=false
  ·rw [if_pos a3] at h; exact absurd h (by simp)
  rw [if_neg a3] at h ⊢
  by_cases a4:kind≠2∧bh name=false
  ·rw [if_pos a4] at h; exact absurd h (by simp)
  rw [if_neg a4] at h ⊢
  by_cases a5:kind=1
  ·rw [if_pos a5] at h ⊢
   have h13:¬kind=3:=by omega
   by_cases a6:bu A L name low high=0
   ·rw [if_pos a6] at h ⊢
    simp only [cr,if_neg h13,List.nil_append]
    exact dX h _
   ·rw [if_neg a6] at h; exact absurd h a6
  rw [if_neg a5] at h ⊢
  by_cases a7:kind=2
  ·rw [if_pos a7] at h ⊢
   have h13:¬kind=3:=by omega
   by_cases a6:bI L conds=0
   ·rw [if_pos a6] at h ⊢
    simp only [cr,if_neg h13,List.nil_append]
    exact dX h _
   ·rw [if_neg a6] at h; exact absurd h a6
  rw [if_neg a7] at h ⊢
  have h3:kind=3:=by omega
  have hbody:body=[]:=by
   have:bD kind name low high conds body array subs expr=true:=by simpa using a3
   simp only [bD,if_neg a5,if_neg a7,Bool.and_eq_true,decide_eq_true_eq] at this
   exact this.2
  subst hbody
  have hin:inL name N=false:=by
   simp only [cj] at h
   split at h
   ·exact absurd h (by decide)
   ·simpa using ‹¬inL name N=true›
  simp only [cr,if_pos h3,bG,List.append_nil,List.map_cons,List.map_nil,nm,Step.name]
  refine ⟨trivial,fun hN=>?_⟩
  rw [List.nodup_append]
  exact ⟨hN,by simp,fun a ha b hb=>by rw [List.mem_singleton.1 hb]; exact fun e=>wd hin (e▸ha)⟩
theorem dX {A:List Wb.Array}:∀ {l:List Wb.Step} {L N:List ByteArray} {d:Int},(aC A L d N l).1=0→∀ around,(aC A L d N l).2=N++(bG around l).map nm∧(N.Nodup→(N++(bG around l).map nm).Nodup)
 | [],L,N,d,h,around=>by simp [aC,bG]
 | s::ss,L,N,d,h,around=>by
  simp only [aC] at h ⊢
  by_cases a1:(aD A L d N s).1=0
  ·rw [if_pos a1] at h ⊢
   obtain ⟨i1,i2⟩:=nS a1 around
   obtain ⟨j1,j2⟩:=dX h around
   simp only [bG,List.map_append]
   have e:N++((cr around s).map nm++(bG around ss).map nm)=(aD A L d N s).2++(bG around ss).map nm:=by rw [i1,List.append_assoc]
   rw [e]
   exact ⟨j1,fun hN=>j2 (by rw [i1]; exact i2 hN)⟩
  ·rw [if_neg a1] at h; exact absurd h a1
end
theorem ru {p:Wb.Prog} (h:aW p=0):((bG [] p.steps).map nm).Nodup:=by
 simp only [aW] at h
 split at h
 ·cases h
 ·split at h
  ·split at h
   ·rename_i h4
    have:=(dX h4 []).2 List.nodup_nil
    simpa using this
   ·exact absurd h ‹_›
  ·exact absurd h ‹_›
theorem oY {key:ByteArray}:∀ (l:List (Wb.Step×List Wb.Step)) (acc:Option (Wb.Step×List Wb.Step)),(l.map nm).Nodup→l.foldl (fun a y=>if nm y=key then some y else a) acc=((l.find? fun y=>decide (nm y=key)).or acc)
 | [],acc,_=>by simp
 | y::l,acc,h=>by
  simp only [List.map_cons,List.nodup_cons] at h
  simp only [List.foldl_cons,List.find?_cons]
  rw [oY l _ h.2]
  by_cases e:nm y=key
  ·have:l.find? (fun y=>decide (nm y=key))=none:=by
    rw [List.find?_eq_none]
    intro z hz hzk
    simp at hzk
    exact h.1 (List.mem_map.2 ⟨z,hz,by rw [hzk,e]⟩)
   rw [this]; simp [e]
  ·simp [e]
def eX (key:ByteArray) (v:List (Wb.Step×List Wb.Step)):Option (Wb.Step×List Wb.Step):=v.foldl (fun a y=>if Step.kind y.1=3∧nm y=key then some (y.1,y.2.filter isLoop) else a) none
theorem tm (key:ByteArray) (v:List (Wb.Step×List Wb.Step)) (y:Wb.Step×List Wb.Step):eX key (v++[y])=if Step.kind y.1=3∧nm y=key then some (y.1,y.2.filter isLoop) else eX key v:=by
 unfold eX; rw [List.foldl_append]; rfl
theorem ri (key:ByteArray) (l:List Wb.Step):eX key (cf [] l)=(bG [] l).foldl (fun a y=>if nm y=key then some y else a) none:=by
 rw [lY]
 unfold eX
 generalize (none:Option (Wb.Step×List Wb.Step))=acc
 generalize cf [] l=v
 induction v generalizing acc with
 | nil=>rfl
 | cons y v ih=>
  simp only [List.foldl_cons,List.filter_cons,lz]
  by_cases h3:Step.kind y.1=3
  ·simp only [h3,decide_true,if_true,List.map_cons,List.foldl_cons,true_and]
   rw [ih]; rfl
  ·simp only [h3,decide_false,false_and,if_false,Bool.false_eq_true]
   rw [ih]
theorem uR {p:Wb.Prog} (h:aW p=0) (key:ByteArray):eX key (cf [] p.steps)=ck p key:=by
 rw [ri,oY _ _ (ru h)]
 rw [Option.or_none]; rfl
end Go.Proofs.YtjhogglgkjcacaaGreat
set_option maxRecDepth 20000
set_option maxHeartbeats 4000000
namespace Go.Proofs.YtjhogglgkjcacaaGreat
open Go.AM Go.Wb
def sE:Wb.Step:=.mk 0 ⟨#[]⟩ [] [] [] [] ⟨#[]⟩ [] (.mk 0 0 ⟨0,[]⟩ ⟨#[]⟩ [] [])
def dY:List AV:=[.int 0,.str ⟨#[]⟩,.nil,.nil,.nil,.nil,.str ⟨#[]⟩,.nil,.int 0,.int 0,.int 0,.nil,.str ⟨#[]⟩,.nil,.nil]
def SaI (gk gs gl:Nat) (key:ByteArray) (v:List (Wb.Step×List Wb.Step)) (F:Nat→Prop) (h:Heap):Prop:=
 h gk=some (.row 1 [[.str key]] .live none)∧(match eX key v with
  | none=>h gs=some (.row 15 [dY] .live none)∧h gl=some (.row 1 [[.nil]] .live none)
  | some y=>h gs=some (.row 15 [y.1.cells] .live none)∧h gl=some (.row 1 [[row (y.2.map Step.cells)]] .live none))∧∀ k,F k↔k=gk∨k=gs∨k=gl
theorem tY (y:Wb.Step×List Wb.Step) (hy:y.2.length≤1000) (x:AV) (key:ByteArray) (gk gs gl:Nat) (h1:gk≠gs) (h2:gk≠gl) (h3:gs≠gl) (v:List (Wb.Step×List Wb.Step)) (F:Nat→Prop) (h0:Heap) (c0:Nat) (hI:SaI gk gs gl key v F h0) (hF:∀ k,F k→k<c0) (hx:fi h0 x y.2) :
  ACalls Pg Fn169.n [y.1.av,x,.ptr gk 0 0,.ptr gs 0 0,.ptr gl 0 0] ⟨h0,c0⟩ fun av s'=>∃ F',SaI gk gs gl key (v++[y]) F' s'.h∧(∀ k,F' k→F k∨(c0≤k∧k<s'.c))∧∀ k,k<c0→¬F k→s'.h k=h0 k:=by
 obtain ⟨⟨kind,name,low,high,conds,body,array,subs,⟨op,n2,form,ea,es,args⟩⟩,ar⟩:=y
 obtain ⟨i1,i2,i3⟩:=hI
 have hgk:=hF gk ((i3 gk).2 (.inl rfl))
 have hgs:=hF gs ((i3 gs).2 (.inr (.inl rfl)))
 have hgl:=hF gl ((i3 gl).2 (.inr (.inr rfl)))
 refine ACalls.clean fun hcl=>?_
 have hcl:∀ k,c0≤k→h0 k=none:=fun k hk=>hcl k hk
 rw [Step.av_mk]
 refine Fn169.calls .keep ?_
 unfold Fn169.ac
 obtain ⟨hb,hhb⟩:∃ hb,hb=upd h0 c0 (some (.row 15 [(Wb.Step.mk kind name low high conds body array subs (.mk op n2 form ea es args)).cells] .live none)):=⟨_,rfl⟩
 have hbc:=hhb
 rw [Step.cells_mk] at hhb
 have hlow:∀ k,k<c0→hb k=h0 k:=fun k hk=>by rw [hhb,ad (by omega)]
 have hbx:hb c0=_:=(congrFun hhb c0).trans af
 have bk:=(hlow gk hgk).trans i1
 have happ:=tm key v (.mk kind name low high conds body array subs (.mk op n2 form ea es args),ar)
 have hno:eX key (v++[(.mk kind name low high conds body array subs (.mk op n2 form ea es args),ar)])=eX key v→∃ F',SaI gk gs gl key (v++[(.mk kind name low high conds body array subs (.mk op n2 form ea es args),ar)]) F' hb∧(∀ k,F' k→F k∨(c0≤k∧k<c0+1))∧∀ k,k<c0→¬F k→hb k=h0 k:=fun e=>by
  refine ⟨F,⟨bk,?_,i3⟩,fun k hk=>.inl hk,fun k hk _=>hlow k hk⟩
  rw [e,hlow gs hgs,hlow gl hgl]; exact i2
 simp
 rw [←hhb]
 by_cases hk3:kind=3
 case neg=>
  simp [hk3,hbx]
  exact hno (happ.trans (if_neg fun h=>hk3 h.1))
 subst hk3
 by_cases hnk:name=key
 case neg=>
  simp [hbx,bk,hnk]
  exact hno (happ.trans (if_neg fun h=>hnk h.2))
 subst hnk
 simp [hbx,bk]
 have hx2:fi hb (norm x) ar:=by
  rcases hx with ⟨e1,b,rfl⟩ | ⟨ga,st,par,rfl,hga⟩
  ·exact .inl ⟨e1,_,rfl⟩
  ·refine .inr ⟨ga,st,par,rfl,(hlow ga ?_).trans hga⟩
   refine Classical.byContradiction fun hn=>?_
   have:=hcl ga (by omega)
   simp only at hga
   rw [this] at hga; cases hga
 refine ACalls.at (tZ ar (by simp at hy; omega) (norm x) hb (c0+1) hx2) fun c1 hc1=>?_
 obtain ⟨cs,lv,s1,s2,s3⟩:∃ cs lv,h0 gs=some (.row 15 [cs] .live none)∧cs.length=15∧h0 gl=some (.row 1 [[lv]] .live none):=by
  cases hl:eX name v with
  | none=>rw [hl] at i2; exact ⟨_,_,i2.1,rfl,i2.2⟩
  | some y=>rw [hl] at i2; exact ⟨_,_,i2.1,fI _,i2.2⟩
 have bs:=(hlow gs hgs).trans s1
 have bl:=(hlow gl hgl).trans s3
 have happ':=happ.trans (if_pos ⟨rfl,rfl⟩)
 simp [hbx,bs,bl,s2,h3,Ne.symm h3,List.drop_of_length_le (Nat.le_of_eq s2)]
 refine ⟨F,⟨?_,?_,i3⟩,fun k hk=>.inl hk,fun k hk hkF=>?_⟩
 ·rw [ad h2,ad h1]; exact bk
 ·rw [happ']
  refine ⟨?_,?_⟩
  ·rw [ad h3,af]; simp [Step.cells_mk]; done
  ·rw [af]
 ·have:k≠gs∧k≠gl:=⟨fun e=>hkF ((i3 k).2 (.inr (.inl e))),fun e=>hkF ((i3 k).2 (.inr (.inr e)))⟩
  rw [ad this.2,ad this.1]; exact hlow k hk
theorem wo (gk gs gl:Nat) (key:ByteArray) (h1:gk≠gs) (h2:gk≠gl) (h3:gs≠gl):Sees Fn169.n [] [.ptr gk 0 0,.ptr gs 0 0,.ptr gl 0 0] (SaI gk gs gl key) 1000 (fun _=>True):=by
 have hfr:∀ {v F h h'},SaI gk gs gl key v F h→(∀ k,F k→h' k=h k)→SaI gk gs gl key v F h':=by
  rintro v F h h' ⟨i1,i2,i3⟩ hh
  refine ⟨(hh gk ((i3 gk).2 (.inl rfl))).trans i1,?_,i3⟩
  rw [hh gs ((i3 gs).2 (.inr (.inl rfl))),hh gl ((i3 gl).2 (.inr (.inr rfl)))]; exact i2
 have hpar:∀ {v F h},SaI gk gs gl key v F h→∀ k,F k→px h k:=by
  rintro v F h ⟨i1,i2,i3⟩ k hk sz es st p e
  rcases (i3 k).1 hk with rfl | rfl | rfl
  ·rw [i1] at e; cases e
  ·cases hl:eX key v with
   | none=>rw [hl] at i2; rw [i2.1] at e; cases e
   | some y=>rw [hl] at i2; rw [i2.1] at e; cases e
  ·cases hl:eX key v with
   | none=>rw [hl] at i2; rw [i2.2] at e; cases e
   | some y=>rw [hl] at i2; rw [i2.2] at e; cases e
 refine ⟨hfr,hpar,fun v F X around x h c hv hok hI hF hx har=>?_⟩
 refine ACalls.dropF c (tY (X,around) har x key gk gs gl h1 h2 h3 v F h c hI hF hx) ?_
 rintro av ⟨h2,c2⟩ hc2 ⟨F',j1,j2,j3⟩
 refine ⟨F',hfr j1 fun k hk=>jO (hpar j1 k hk),j2,fun k hk hkF=>(fk hk).trans (j3 k hk hkF),fun k hk sz es st p e=>?_⟩
 obtain ⟨_,q⟩:=dR e
 rcases q with q | q
 ·omega
 ·exact q _ _ _ _ rfl
def jb (p:Wb.Prog) (key:ByteArray):Wb.Step×List Wb.Step:=(ck p key).getD (sE,[])
theorem vX (p:Wb.Prog) (hp:aW p=0) (hc:aB p.steps≤300) (key:ByteArray):aG Pg Fn98.n [p.av,.str key] (.tup [.agg (jb p key).1.cells,row ((jb p key).2.map Step.cells),.bool (ck p key).isSome]):=by
 rintro ⟨h0,c0⟩
 refine Fn98.calls .frz ?_
 unfold Fn98.ac
 obtain ⟨hA,hhA⟩:∃ hA,hA=upd (upd (upd (upd (upd h0 c0 (some (.row 2 [[row (p.arrays.map Array.cells),row (p.steps.map Step.cells)]] .live none))) (c0+1) (some (.row 1 [[.str key]] .live none))) (c0+1+1) (some (.row 15 [dY] .live none))) (c0+1+1+1) (some (.row 15 [dY] .live none))) (c0+1+1+1+1) (some (.row 1 [[.nil]] .live none)):=⟨_,rfl⟩
 have a0:hA c0=some (.row 2 [[row (p.arrays.map Array.cells),row (p.steps.map Step.cells)]] .live none):=by rw [hhA,ad (by omega),ad (by omega),ad (by omega),ad (by omega),af]
 have a1:hA (c0+1)=some (.row 1 [[.str key]] .live none):=by rw [hhA,ad (by omega),ad (by omega),ad (by omega),af]
 have a2:hA (c0+1+1)=some (.row 15 [dY] .live none):=by rw [hhA,ad (by omega),ad (by omega),af]
 have a3:hA (c0+1+1+1)=some (.row 15 [dY] .live none):=by rw [hhA,ad (by omega),af]
 have a4:hA (c0+1+1+1+1)=some (.row 1 [[.nil]] .live none):=by rw [hhA,af]
 have alow:∀ k,k<c0→hA k=h0 k:=fun k hk=>by rw [hhA,ad (by omega),ad (by omega),ad (by omega),ad (by omega),ad (by omega)]
 have hst:SaI (c0+1) (c0+1+1+1) (c0+1+1+1+1) key [] (fun k=>k=c0+1∨k=c0+1+1+1∨k=c0+1+1+1+1) hA:=⟨a1,⟨a3,a4⟩,fun k=>Iff.rfl⟩
 have hw:=tX (wo (c0+1) (c0+1+1+1) (c0+1+1+1+1) key (by omega) (by omega) (by omega)) (aB p.steps) p.steps (Nat.le_refl _) [] (fun k=>k=c0+1∨k=c0+1+1+1∨k=c0+1+1+1+1) [] (.sl [] true) hA (c0+1+1+1+1+1) (by simp; omega) (fun _ _=>trivial) hst (fun k hk=>by omega) (.inl ⟨rfl,rfl⟩) (by simp; omega)
 simp only [dY] at hhA
 simp [Prog.av]
 rw [←hhA]
 simp [a0]
 refine hw.mono ?_
 rintro av ⟨h2,c2⟩ hc2 ⟨F',⟨j1,j2,j3⟩,f1,f2,_,_⟩
 rw [List.nil_append,uR hp] at j2
 simp only at hc2 j1 j2 j3 f1 f2
 have g2:h2 (c0+1+1)=_:=(f2 (c0+1+1) (by omega) (by omega) cQ).trans a2
 have glow:∀ k,k<c0→h2 k=h0 k:=fun k hk=>(f2 k (by omega) (by omega) cQ).trans (alow k hk)
 simp only [dY] at g2
 cases hs:ck p key with
 | none=>
  rw [hs] at j2
  obtain ⟨q1,q2⟩:=j2
  simp only [dY] at q1
  have n1:¬c0+1+1+1+1=c0+1+1:=by omega
  simp [q1,q2,g2,jb,hs,n1]
  refine ⟨by rw [ad (by omega),q2]; rfl,by rfl,ay fun k hk=>?_⟩
  rw [ad (by omega)]; exact glow k hk
 | some y=>
  rw [hs] at j2
  obtain ⟨q1,q2⟩:=j2
  have hk3:Step.kind y.1=3:=by
   have hm:=List.mem_of_find?_eq_some hs
   rw [lY] at hm
   obtain ⟨z,hz,rfl⟩:=List.mem_map.1 hm
   simpa [lz] using (List.mem_filter.1 hz).2
  obtain ⟨⟨kind,name,low,high,conds,body,array,subs,⟨op,n2,form,ea,es,args⟩⟩,ar⟩:=y
  simp only [Step.kind] at hk3
  subst hk3
  rw [Step.cells_mk] at q1
  have n1:¬c0+1+1+1+1=c0+1+1:=by omega
  simp [q1,q2,g2,jb,hs,n1,Step.cells_mk]
  refine ⟨by rw [ad (by omega),q2]; rfl,ay fun k hk=>?_⟩
  rw [ad (by omega)]; exact glow k hk
end Go.Proofs.YtjhogglgkjcacaaGreat
set_option maxRecDepth 20000
set_option maxHeartbeats 4000000
namespace Go.Proofs.YtjhogglgkjcacaaGreat
open Go.AM Go.Wb
def Side.dcells (s:Side):List AV:=[.int s.low,.int s.high,.bool (s.lo&&s.hi)]
def Side.rcells (s:Side):List AV:=[.int s.low,.int s.high,.bool s.lo,.bool s.hi]
def ei:Wb.Step→Prop | .mk _ _ low high _ _ _ _ _=>(∀ b∈low,fO b)∧∀ b∈high,fO b
theorem ua (X:Wb.Step) (hX:ei X):aG Pg Fn171.n [X.av] (.agg (cT X).dcells):=by
 rintro ⟨h0,c0⟩
 refine ACalls.small fun hsm=>?_
 obtain ⟨kind,name,low,high,conds,body,array,subs,⟨op,n2',form,ea,es,args⟩⟩:=X
 obtain ⟨hlo,hhi⟩:=hX
 rw [Step.av_mk] at hsm ⊢
 have hll:low.length≤68719476736:=by simp at hsm; omega
 have hhl:high.length≤68719476736:=by simp at hsm; omega
 refine Fn171.calls .frz ?_
 unfold Fn171.ac
 obtain ⟨hb,hhb⟩:∃ hb,hb=upd (upd (upd h0 c0 (some (.row 15 [(Wb.Step.mk kind name low high conds body array subs (.mk op n2' form ea es args)).cells] .live none))) (c0+1) (some (.row 3 [[.int 0,.int 0,.bool false]] .live none))) (c0+1+1) (some (.row 3 [[.int 0,.int 0,.bool false]] .live none)):=⟨_,rfl⟩
 have hFb:Fr c0 h0 hb (c0+1+1+1):=by rw [hhb]; exact (((Fr.refl _ _).upd (Nat.le_refl _) (Nat.le_succ _)).upd (by omega) (Nat.le_succ _)).upd (by omega) (Nat.le_succ _)
 have bx:hb c0=_:=(congrFun hhb c0).trans (by rw [ad (by omega),ad (by omega),af])
 have b1:hb (c0+1)=_:=(congrFun hhb (c0+1)).trans (by rw [ad (by omega),af])
 have b2:hb (c0+1+1)=_:=(congrFun hhb (c0+1+1)).trans af
 rw [Step.cells_mk] at hhb bx
 simp
 rw [←hhb]
 simp [bx]
 obtain ⟨Inv,hInv⟩:∃ Inv:Nat→List Wb.Bound→Slots→St→Prop,Inv=fun (i:Nat) r sl s'=>∃ (n:Int) (k:Bool),sl 4=.bool k∧s'.h (c0+1+1)=some (.row 3 [[.int n,.int 0,.bool false]] .live none)∧dr r n k=dr low 0 false∧(∀ g,g<c0+1+1→s'.h g=hb g)∧c0+1+1+1≤s'.c:=⟨_,rfl⟩
 refine bz 15 Fn171.W0 low Inv (by rfl) (by rfl) ?_ ?_ ?_
 ·rw [hInv]; exact ⟨by simp,0,false,by simp,b2,rfl,fun _ _=>rfl,Nat.le_refl _⟩
 ·intro v0 s' hv0 hI
  rw [hInv] at hI
  obtain ⟨n,k,h4,i1,i2,i3,i4⟩:=hI
  obtain ⟨h,c⟩:=s'
  simp at h4
  simp only at i1 i3 i4
  have bx2:=(i3 c0 (by omega)).trans bx
  simp [hv0,bx2]
  obtain ⟨lowv,hlv⟩:∃ lowv,lowv=n:=⟨_,rfl⟩
  obtain ⟨lok,hlk⟩:∃ lok,lok=k:=⟨_,rfl⟩
  rw [←hlv] at i1 i2
  rw [←hlk] at h4 i2
  clear hlv hlk
  simp only [dr] at i2
  obtain ⟨Inv2,hInv2⟩:∃ Inv:Nat→List Wb.Bound→Slots→St→Prop,Inv=fun (i:Nat) r sl s'=>∃ (n:Int) (k:Bool),sl 5=.bool k∧s'.h (c0+1+1)=some (.row 3 [[.int lowv,.int n,.bool false]] .live none)∧cN r n k=cN high 0 false∧(∀ g,g<c0+1+1→s'.h g=hb g)∧c0+1+1+1≤s'.c:=⟨_,rfl⟩
  refine bz 44 Fn171.W1 high Inv2 (by rfl) (by rfl) ?_ ?_ ?_
  ·rw [hInv2]; exact ⟨by simp,0,false,by simp,i1,rfl,i3,i4⟩
  ·intro v s' hv2 hI
   rw [hInv2] at hI
   obtain ⟨n2,k2,h5,j1,j2,j3,j4⟩:=hI
   obtain ⟨h',c'⟩:=s'
   simp at h5
   simp only at j1 j3 j4
   simp only [cN] at j2
   have e1:lowv=(dr low 0 false).1:=by rw [←i2]
   have e2:lok=(dr low 0 false).2:=by rw [←i2]
   have e3:n2=(cN high 0 false).1:=by rw [←j2]
   have e4:k2=(cN high 0 false).2:=by rw [←j2]
   have bx3:=(j3 (c0+1) (by omega)).trans b1
   have hsd:(cT (.mk kind name low high conds body array subs (.mk op n2' form ea es args))).dcells=[.int lowv,.int n2,.bool (lok&&k2)]:=by
    simp only [cT,Side.dcells]; rw [←e1,←e2,←e3,←e4]
   rw [hsd]
   have ne1:¬c0+1+1=c0+1:=by omega
   have ne2:¬c0+1=c0+1+1:=by omega
   have fin:∀ b,retH c0 h0 (upd h' (c0+1+1) (some (.row 3 [[.int lowv,.int n2,.bool b]] .live none)))=h0:=fun b=>ay fun k hk=>by rw [ad (by omega),j3 k (by omega)]; exact hFb.h k hk
   cases lok
   ·simp [hv2,h4,h5,j1,bx3,ne1,ne2]
    exact fin _
   ·simp [hv2,h4,h5,j1,bx3,ne1,ne2]
    exact fin _
  ·intro i b bs v s' hi hx hl hv2 hI
   rw [hInv2] at hI
   obtain ⟨n,k,h4,i1,i2,i3,i4⟩:=hI
   obtain ⟨h,c⟩:=s'
   simp at h4
   simp only at i1 i3 i4
   have hv:=hv2
   have hw:=ah (x:=(i:Int)+1) (by omega) (by omega)
   obtain ⟨⟨bc,bt⟩,bd⟩:=b
   simp [hv,hi,hx,Bound.cells]
   obtain ⟨h1,hh1⟩:∃ h1,h1=upd h c (some (.row 3 [[.int bc,row (bt.map Term.cells),.int bd]] .live none)):=⟨_,rfl⟩
   have low1:∀ g,g<c→h1 g=h g:=fun g hg=>by rw [hh1,ad (by omega)]
   have q1:h1 c=_:=(congrFun hh1 c).trans af
   have q2:=(low1 (c0+1+1) (by omega)).trans i1
   rw [←hh1]
   by_cases ht:bt=[]
   case neg=>
    simp [ht,hv,hw]
    rw [hInv2]
    exact ⟨n,k,by simp [h4],q2,by rw [←i2]; simp [cN,ht],fun g hg=>(low1 g (by omega)).trans (i3 g hg),by show _≤c+1; omega⟩
   subst ht
   have hob:=hhi _ (aR hl)
   have hob1:=hob.1.const
   have hob2:=hob.2
   simp only at hob1 hob2
   simp [q1]
   refine ACalls.pure (pM bc bd (by omega) (by omega) (by omega)) fun c2 hc2=>?_
   by_cases hup:k=false∨bc / bd<n
   case neg=>
    have hk:k=true:=by cases k <;> simp at hup ⊢
    have hnu:¬bc / bd<n:=fun e=>hup (.inr e)
    subst hk
    simp [h4,q2,hnu,hv,hw]
    rw [hInv2]
    exact ⟨n,true,by simp [h4],q2,by rw [←i2]; simp [cN,hnu],fun g hg=>(low1 g (by omega)).trans (i3 g hg),by show _≤c2; omega⟩
   have hdone:∃ (n:Int) (k:Bool),n=bc / bd∧k=true:=⟨_,_,rfl,rfl⟩
   cases k
   ·simp [h4,q2,hv,hw]
    rw [hInv2]
    refine ⟨bc / bd,true,by simp,af,by rw [←i2]; simp [cN],fun g hg=>?_,by show _≤c2; omega⟩
    show upd h1 _ _ g=_
    rw [ad (by omega)]; exact (low1 g (by omega)).trans (i3 g hg)
   ·have hu:=hup.resolve_left (by simp)
    simp [h4,q2,hu,hv,hw]
    rw [hInv2]
    refine ⟨bc / bd,true,by simp,af,by rw [←i2]; simp [cN,hu],fun g hg=>?_,by show _≤c2; omega⟩
    show upd h1 _ _ g=_
    rw [ad (by omega)]; exact (low1 g (by omega)).trans (i3 g hg)
 ·intro i b bs v s' hi hx hl hv hI
  rw [hInv] at hI
  obtain ⟨n,k,h4,i1,i2,i3,i4⟩:=hI
  obtain ⟨h,c⟩:=s'
  simp at h4
  simp only at i1 i3 i4
  have hw:=ah (x:=(i:Int)+1) (by omega) (by omega)
  obtain ⟨⟨bc,bt⟩,bd⟩:=b
  simp [hv,hi,hx,Bound.cells]
  obtain ⟨h1,hh1⟩:∃ h1,h1=upd h c (some (.row 3 [[.int bc,row (bt.map Term.cells),.int bd]] .live none)):=⟨_,rfl⟩
  have low1:∀ g,g<c→h1 g=h g:=fun g hg=>by rw [hh1,ad (by omega)]
  have q1:h1 c=_:=(congrFun hh1 c).trans af
  have q2:=(low1 (c0+1+1) (by omega)).trans i1
  rw [←hh1]
  by_cases ht:bt=[]
  case neg=>
   simp [ht,hv,hw]
   rw [hInv]
   exact ⟨n,k,by simp [h4],q2,by rw [←i2]; simp [dr,ht],fun g hg=>(low1 g (by omega)).trans (i3 g hg),by show _≤c+1; omega⟩
  subst ht
  have hob:=hlo _ (aR hl)
  have hob1:=hob.1.const
  have hob2:=hob.2
  simp only at hob1 hob2
  simp [q1]
  refine ACalls.pure (ur bc bd (by omega) (by omega) (by omega)) fun c2 hc2=>?_
  by_cases hup:k=false∨n<upI bc bd
  case neg=>
   have hk:k=true:=by cases k <;> simp at hup ⊢
   have hnu:¬n<upI bc bd:=fun e=>hup (.inr e)
   subst hk
   simp [h4,q2,hnu,hv,hw]
   rw [hInv]
   exact ⟨n,true,by simp [h4],q2,by rw [←i2]; simp [dr,hnu],fun g hg=>(low1 g (by omega)).trans (i3 g hg),by show _≤c2; omega⟩
  have hdone:∃ (n:Int) (k:Bool),n=upI bc bd∧k=true:=⟨_,_,rfl,rfl⟩
  cases k
  ·simp [h4,q2,hv,hw]
   rw [hInv]
   refine ⟨upI bc bd,true,by simp,af,by rw [←i2]; simp [dr],fun g hg=>?_,by show _≤c2; omega⟩
   show upd h1 _ _ g=_
   rw [ad (by omega)]; exact (low1 g (by omega)).trans (i3 g hg)
  ·have hu:=hup.resolve_left (by simp)
   simp [h4,q2,hu,hv,hw]
   rw [hInv]
   refine ⟨upI bc bd,true,by simp,af,by rw [←i2]; simp [dr,hu],fun g hg=>?_,by show _≤c2; omega⟩
   show upd h1 _ _ g=_
   rw [ad (by omega)]; exact (low1 g (by omega)).trans (i3 g hg)
theorem rG (l:List Wb.Step) (hl:∀ s∈l,ei s) (hlen:l.length≤1000) (h0:Heap) (c0:Nat) :
  ACalls Pg Fn99.n [row (l.map Step.cells)] ⟨h0,c0⟩ fun av s'=>∃ g ver,av=.tup [.map g,.bool (cS l)]∧c0≤g∧g<s'.c∧s'.h g=some (.map (kvs AV.str (fun s:Side=>AV.agg (Side.dcells s)) (cz l)) ver)∧Fr c0 h0 s'.h s'.c:=by
 refine Fn99.calls .keep ?_
 unfold Fn99.ac
 simp
 obtain ⟨Inv,hInv⟩:∃ Inv:Nat→List Wb.Step→Slots→St→Prop,Inv=fun (i:Nat) r sl s'=>∃ ver b,sl 5=.bool b∧(b||cS r)=cS l∧s'.h c0=some (.map (kvs AV.str (fun s:Side=>AV.agg (Side.dcells s)) (cz (l.take i))) ver)∧c0<s'.c∧∀ k,k<c0→s'.h k=h0 k:=⟨_,rfl⟩
 refine bz 12 Fn99.W0 l Inv (by rfl) (by rfl) ?_ ?_ ?_
 ·rw [hInv]; exact ⟨by simp,c0,false,by simp,by simp,by simp [cz,kvs],by show c0<c0+1; omega,fun k hk=>by show upd h0 _ _ k=_; rw [ad (by omega)]⟩
 ·intro v s' hv hI
  rw [hInv,List.take_length] at hI
  obtain ⟨ver,b,h5,i1,i2,i3,i4⟩:=hI
  obtain ⟨h,c⟩:=s'
  simp at h5
  simp only at i2 i3 i4
  have hb:b=cS l:=by rw [←i1]; simp [cS]
  subst hb
  simp [hv,h5]
  exact ⟨i3,⟨ver,i2⟩,⟨Nat.le_of_lt i3,i4⟩⟩
 ·intro i x xs v s' hi hx hl2 hv hI
  rw [hInv] at hI
  obtain ⟨ver,b,h5,i1,i2,i3,i4⟩:=hI
  obtain ⟨h,c⟩:=s'
  simp at h5
  simp only at i2 i3 i4
  have hw:=ah (x:=(i:Int)+1) (by omega) (by omega)
  have hso:=ua x (hl x (aR hl2))
  have ts:cz (l.take (i+1))=cB (cz (l.take i)) (Step.name x) (cT x):=by
   rw [List.take_add_one,List.getElem?_eq_getElem hi,hx]; simp [cz]
  obtain ⟨S,hS⟩:∃ S,S=cT x:=⟨_,rfl⟩
  have hnx:(b||cS (x::xs))=((b||(S.lo&&S.hi&&decide (S.high<S.low)))||cS xs):=by rw [hS]; simp [cS,Bool.or_assoc]
  rw [←hS] at hso ts
  rw [hnx] at i1
  obtain ⟨kind,name,low,high,conds,body,array,subs,⟨op,n2',form,ea,es,args⟩⟩:=x
  rw [Step.av_mk] at hso
  simp only [Step.name] at ts
  obtain ⟨h1,hh1⟩:∃ h1,h1=upd h c (some (.row 15 [(Wb.Step.mk kind name low high conds body array subs (.mk op n2' form ea es args)).cells] .live none)):=⟨_,rfl⟩
  rw [Step.cells_mk] at hh1
  have low1:∀ g,g<c→h1 g=h g:=fun g hg=>by rw [hh1,ad (by omega)]
  have q1:h1 c=_:=(congrFun hh1 c).trans af
  simp [hv,hi,hx,Step.cells_mk]
  rw [←hh1]
  refine ACalls.pure hso fun c2 hc2=>?_
  obtain ⟨h2,hh2⟩:∃ h2,h2=upd h1 c2 (some (.row 3 [[.int S.low,.int S.high,.bool (S.lo&&S.hi)]] .live none)):=⟨_,rfl⟩
  have low2:∀ g,g<c2→h2 g=h1 g:=fun g hg=>by rw [hh2,ad (by omega)]
  have r1:h2 c2=_:=(congrFun hh2 c2).trans af
  have r2:=(low2 c (by omega)).trans q1
  have r3:=(low2 c0 (by omega)).trans ((low1 c0 (by omega)).trans i2)
  have hmu:=kL fp (f:=fun s:Side=>AV.agg (Side.dcells s)) (g:=c0) (s:=⟨h2,c2+1⟩) r3 name S
  rw [←ts] at hmu
  simp only [Side.dcells] at hmu
  simp [Side.dcells]
  rw [←hh2]
  obtain ⟨ok,hok⟩:∃ ok,ok=(S.lo&&S.hi):=⟨_,rfl⟩
  rw [←hok] at r1 hmu i1
  have fin:∀ (b':Bool) (sl':Slots),sl' 5=.bool b'→b'=(b||(ok&&decide (S.high<S.low)))→Inv (i+1) xs sl' ⟨upd h2 c0 (some (.map (kvs AV.str (fun s:Side=>AV.agg [AV.int s.low,AV.int s.high,AV.bool (s.lo&&s.hi)]) (cz (l.take (i+1)))) (c2+1))),c2+1+1⟩:=by
   intro b' sl' e1 e2
   rw [hInv]
   refine ⟨c2+1,b',e1,by rw [e2]; exact i1,af,by show c0<c2+1+1; omega,fun k hk=>?_⟩
   show upd h2 c0 _ k=_
   rw [ad (by omega),low2 k (by omega),low1 k (by omega)]; exact i4 k hk
  have n1:¬c2=c0:=by omega
  cases b
  ·cases ok
   ·simp [r2,r1,hmu,hv,h5,hw,n1]
    exact fin false _ (by simp) (by simp)
   ·simp [r2,r1,hmu,hv,h5,hw,n1]
    exact fin (decide (S.high<S.low)) _ (by simp) (by simp)
  ·simp [r2,r1,hmu,hv,h5,hw,n1]
   exact fin true _ (by simp [h5]) (by simp)
end Go.Proofs.YtjhogglgkjcacaaGreat
set_option maxRecDepth 20000
set_option maxHeartbeats 4000000
namespace Go.Proofs.YtjhogglgkjcacaaGreat
open Go.AM Go.Wb
structure SideOk (s:Side):Prop where
 low:-1000000≤s.low∧s.low≤1000000
 high:-1000000≤s.high∧s.high≤1000000
theorem dk {a b:Int} (ha:-1000000≤a∧a≤1000000) (hb:-1000000≤b∧b≤1000000):-1000000000000≤a*b∧a*b≤1000000000000:=by
 have h1:(a*b).natAbs≤1000000*1000000:=by rw [Int.natAbs_mul]; exact Nat.mul_le_mul (by omega) (by omega)
 omega
theorem rB (s:Side) (hs:SideOk s) (c x y:Int) (hc:-1000000≤c∧c≤1000000) (hx:-1000000000000000≤x∧x≤1000000000000000) (hy:-1000000000000000≤y∧y≤1000000000000000) :
  aG Pg Fn84.n [.agg s.dcells,.int c,.int x,.int y] (.tup [.int (x+cM (c*s.low) (c*s.high)),.int (y+cL (c*s.low) (c*s.high))]):=by
 rintro ⟨h0,c0⟩
 refine Fn84.calls .frz ?_
 unfold Fn84.ac
 have m1:=dk hc hs.low
 have m2:=dk hc hs.high
 have w1:IntKind.i64.wrap (c*s.low)=c*s.low:=ah (by omega) (by omega)
 have w2:IntKind.i64.wrap (c*s.high)=c*s.high:=ah (by omega) (by omega)
 have m3:-1000000000000≤cM (c*s.low) (c*s.high)∧cM (c*s.low) (c*s.high)≤1000000000000:=by unfold cM; split <;> omega
 have m4:-1000000000000≤cL (c*s.low) (c*s.high)∧cL (c*s.low) (c*s.high)≤1000000000000:=by unfold cL; split <;> omega
 have w3:IntKind.i64.wrap (x+cM (c*s.low) (c*s.high))=x+cM (c*s.low) (c*s.high):=ah (by omega) (by omega)
 have w4:IntKind.i64.wrap (y+cL (c*s.low) (c*s.high))=y+cL (c*s.low) (c*s.high):=ah (by omega) (by omega)
 simp [Side.dcells,w1,w2]
 exact ⟨w3,w4⟩
structure NevI (h:Heap) (c gf gk gl gh:Nat) (k:Int) (l:List Int) (kn:Bool) (lo hi:Int) (tv:AV):Prop where
 form:h gf=some (.row 2 [[.int k,tv]] .live none)
 terms:RowAt h 2 tv (l.map fun z=>[.str ⟨#[]⟩,.int z])
 known:h gk=some (.row 1 [[.bool kn]] .live none)
 low:h gl=some (.row 1 [[.int lo]] .live none)
 high:h gh=some (.row 1 [[.int hi]] .live none)
 lt:gf<c∧gk<c∧gl<c∧gh<c
 ne:gf≠gk∧gf≠gl∧gf≠gh∧gk≠gl∧gk≠gh∧gl≠gh
 row:∀ g,aq tv g→g<c∧gh<g∧gf<g∧gk<g∧gl<g
theorem uc (coef:Int) (hc:-1000000≤coef∧coef≤1000000) (s:Side) (hs:SideOk s) (gf gk gl gh:Nat) (k:Int) (l:List Int) (hl:l.length≤1000) (kn:Bool) (lo hi:Int) (hlo:-1000000000000000≤lo∧lo≤1000000000000000) (hhi:-1000000000000000≤hi∧hi≤1000000000000000) (tv:AV) (h0:Heap) (c0:Nat) (hI:NevI h0 c0 gf gk gl gh k l kn lo hi tv) :
  ACalls Pg Fn173.n [.int coef,.agg s.dcells,.ptr gf 0 0,.ptr gk 0 0,.ptr gl 0 0,.ptr gh 0 0] ⟨h0,c0⟩ fun av s'=>∃ tv',NevI s'.h s'.c gf gk gl gh k (l++[coef]) (kn&&(s.lo&&s.hi)) (lo+cM (coef*s.low) (coef*s.high)) (hi+cL (coef*s.low) (coef*s.high)) tv'∧∀ g,g<c0→g≠gf→g≠gk→g≠gl→g≠gh→¬aq tv g→s'.h g=h0 g:=by
 obtain ⟨i1,i2,i3,i4,i5,i6,i7,i8⟩:=hI
 have hre:=rB s hs coef lo hi hc hlo hhi
 refine Fn173.calls .keep ?_
 unfold Fn173.ac
 obtain ⟨h1,hh1⟩:∃ h1,h1=upd h0 c0 (some (.row 3 [[.int s.low,.int s.high,.bool (s.lo&&s.hi)]] .live none)):=⟨_,rfl⟩
 have low1:∀ g,g<c0→h1 g=h0 g:=fun g hg=>by rw [hh1,ad (by omega)]
 have b1:h1 c0=_:=(congrFun hh1 c0).trans af
 have j1:=(low1 gf i6.1).trans i1
 have hlr:(l.map fun z=>[AV.str ⟨#[]⟩,AV.int z]).length=l.length:=by simp
 simp [Side.dcells,aI]
 rw [←hh1]
 obtain ⟨h2,p1,p2,p3,p4⟩:=(i2.frame fun k hk=>low1 k (i8 k hk).1).push (c:=c0+1) (bytes:=24) (md:=.plain) (b:=true) (e:=[.str ⟨#[]⟩,.int coef]) (by decide) (by decide) (by decide) (by decide) rfl (fun e he=>by obtain ⟨z,_,rfl⟩:=List.mem_map.1 he; rfl) (by omega) (fun g hg=>by have:=i8 g hg; omega)
 rw [hlr] at p1 p3
 have nr:∀ g,g≤gf∨g≤gk∨g≤gl∨g≤gh→¬aq tv g:=fun g hg hr=>by have:=i8 g hr; omega
 have k1:=(p4 gf (by omega) (nr gf (by omega))).trans j1
 have k2:=(p4 gk (by omega) (nr gk (by omega))).trans ((low1 gk (by omega)).trans i3)
 have k3:=(p4 gl (by omega) (nr gl (by omega))).trans ((low1 gl (by omega)).trans i4)
 have k4:=(p4 gh (by omega) (nr gh (by omega))).trans ((low1 gh (by omega)).trans i5)
 have k5:h2 c0=_:=(p4 c0 (by omega) (fun hr=>by have:=i8 c0 hr; omega)).trans b1
 simp [j1,bsI,an,aI,p1,k1]
 obtain ⟨h3,hh3⟩:∃ h3,h3=upd h2 gf (some (.row 2 [[.int k,.row (c0+1) 2 0 (l.length+1)]] .live none)):=⟨_,rfl⟩
 have n3:∀ g,g≠gf→h3 g=h2 g:=fun g hg=>by rw [hh3,ad hg]
 have q1:h3 gf=_:=(congrFun hh3 gf).trans af
 have q2:=(n3 gk (Ne.symm i7.1)).trans k2
 have q3:=(n3 gl (Ne.symm i7.2.1)).trans k3
 have q4:=(n3 gh (Ne.symm i7.2.2.1)).trans k4
 have q5:=(n3 c0 (by omega)).trans k5
 rw [←hh3]
 obtain ⟨ok,hok⟩:∃ ok,ok=(s.lo&&s.hi):=⟨_,rfl⟩
 rw [←hok] at q5 ⊢
 have hd:s.dcells=[.int s.low,.int s.high,.bool ok]:=by rw [hok]; rfl
 rw [hd] at hre
 obtain ⟨h4,hh4⟩:∃ h4,h4=upd h3 gk (some (.row 1 [[.bool (kn&&ok)]] .live none)):=⟨_,rfl⟩
 have n4:∀ g,g≠gk→h4 g=h3 g:=fun g hg=>by rw [hh4,ad hg]
 have r1:=(n4 gf i7.1).trans q1
 have r2:h4 gk=_:=(congrFun hh4 gk).trans af
 have r3:=(n4 gl (Ne.symm i7.2.2.2.1)).trans q3
 have r4:=(n4 gh (Ne.symm i7.2.2.2.2.1)).trans q4
 have r5:=(n4 c0 (by omega)).trans q5
 obtain ⟨x,hx⟩:∃ x,x=lo+cM (coef*s.low) (coef*s.high):=⟨_,rfl⟩
 obtain ⟨y,hy⟩:∃ y,y=hi+cL (coef*s.low) (coef*s.high):=⟨_,rfl⟩
 rw [←hx,←hy] at hre ⊢
 have fin:∀ c,c0+1+1≤c→∃ tv',NevI (upd (upd h4 gl (some (.row 1 [[.int x]] .live none))) gh (some (.row 1 [[.int y]] .live none))) c gf gk gl gh k (l++[coef]) (kn&&ok) x y tv'∧∀ g,g<c0→g≠gf→g≠gk→g≠gl→g≠gh→¬aq tv g→upd (upd h4 gl (some (.row 1 [[.int x]] .live none))) gh (some (.row 1 [[.int y]] .live none)) g=h0 g:=by
  intro c hc
  have e:∀ g,g≠gl→g≠gh→upd (upd h4 gl (some (.row 1 [[.int x]] .live none))) gh (some (.row 1 [[.int y]] .live none)) g=h4 g:=fun g a b=>by rw [ad b,ad a]
  refine ⟨.row (c0+1) 2 0 (l.length+1),⟨by rw [e gf i7.2.1 i7.2.2.1]; exact r1,?_,by rw [e gk i7.2.2.2.1 i7.2.2.2.2.1]; exact r2,by rw [ad i7.2.2.2.2.2,af],af,by omega,i7,fun g hg=>by have:=aJ.1 hg; omega⟩,fun g h1 h2 h3 h4' h5 h6=>?_⟩
  ·rw [List.map_append]
   refine .inr ⟨c0+1,by simp,?_⟩
   rw [e _ (by omega) (by omega),n4 _ (by omega),n3 _ (by omega),p2]; rfl
  ·rw [e g h4' h5,n4 g h3,n3 g h2,p4 g (by omega) h6]; exact low1 g h1
 cases kn
 ·simp only [Bool.false_and] at hh4
  simp [q2,hd]
  rw [←hh4]
  simp [r5,r3,r4]
  refine ACalls.pure hre fun c2 hc2=>?_
  have r6:upd h4 gl (some (.row 1 [[.int x]] .live none)) gh=_:=(ad (Ne.symm i7.2.2.2.2.2)).trans r4
  simp [r3,r4,r6]
  obtain ⟨tv',f1,f2⟩:=fin c2 (by omega)
  exact ⟨⟨tv',by simpa using f1⟩,f2⟩
 ·simp only [Bool.true_and] at hh4
  simp [q2,hd,q5]
  rw [←hh4]
  simp [r5,r3,r4]
  refine ACalls.pure hre fun c2 hc2=>?_
  have r6:upd h4 gl (some (.row 1 [[.int x]] .live none)) gh=_:=(ad (Ne.symm i7.2.2.2.2.2)).trans r4
  simp [r3,r4,r6]
  obtain ⟨tv',f1,f2⟩:=fin c2 (by omega)
  exact ⟨⟨tv',by simpa using f1⟩,f2⟩
end Go.Proofs.YtjhogglgkjcacaaGreat
set_option maxRecDepth 20000
set_option maxHeartbeats 4000000
namespace Go.Proofs.YtjhogglgkjcacaaGreat
open Go.AM Go.Wb
theorem ic:∀ (l:List (Int×Int×Int)) (p:Int×Int×Int) (x y:Int),aZ (l++[p]) x y=((aZ l x y).1+cM (p.1*p.2.1) (p.1*p.2.2),(aZ l x y).2+cL (p.1*p.2.1) (p.1*p.2.2))
 | [],p,x,y=>rfl
 | q::l,p,x,y=>by simp only [List.cons_append,aZ]; exact ic l p _ _
theorem gA:∀ (l:List (Int×Int×Int)) (x y K:Int),(∀ p∈l,-1000000000000≤cM (p.1*p.2.1) (p.1*p.2.2)∧cM (p.1*p.2.1) (p.1*p.2.2)≤1000000000000 ∧ -1000000000000≤cL (p.1*p.2.1) (p.1*p.2.2)∧cL (p.1*p.2.1) (p.1*p.2.2)≤1000000000000) → -K≤x→x≤K → -K≤y→y≤K →
  -(K+1000000000000*l.length)≤(aZ l x y).1∧(aZ l x y).1≤K+1000000000000*l.length ∧ -(K+1000000000000*l.length)≤(aZ l x y).2∧(aZ l x y).2≤K+1000000000000*l.length
 | [],x,y,K,_,h1,h2,h3,h4=>by simp [aZ]; omega
 | p::l,x,y,K,h,h1,h2,h3,h4=>by
  have hp:=h p List.mem_cons_self
  have:=gA l (x+cM (p.1*p.2.1) (p.1*p.2.2)) (y+cL (p.1*p.2.1) (p.1*p.2.2)) (K+1000000000000) (fun q hq=>h q (List.mem_cons_of_mem _ hq)) (by omega) (by omega) (by omega) (by omega)
  simp only [aZ,List.length_cons]
  push_cast
  omega
theorem dz {m:List (ByteArray×Side)} (h:∀ p∈m,SideOk p.2) (n:ByteArray):SideOk (aT m n):=by
 unfold aT
 have key:∀ m:List (ByteArray×Side),(∀ p∈m,SideOk p.2)→SideOk ((cu m n).getD qy):=by
  intro m
  induction m with
  | nil=>intro _; show SideOk qy; exact ⟨by decide,by decide⟩
  | cons q m ih=>
   intro h
   simp only [cu]
   split
   ·exact h q List.mem_cons_self
   ·exact ih fun p hp=>h p (List.mem_cons_of_mem _ hp)
 exact key m h
theorem oH {g ver:Nat} {s:St} {m:List (ByteArray×Side)} (hg:s.h g=some (.map (kvs AV.str (fun s:Side=>AV.agg (Side.dcells s)) m) ver)) (k:ByteArray) :
  lkI (.one .str) (.agg [.int 0,.int 0,.bool false]) false (.map g) (.str k) s=some (.agg (aT m k).dcells):=by
 have:=kJ fp (f:=fun s:Side=>AV.agg (Side.dcells s)) (z:=.agg [.int 0,.int 0,.bool false]) (ok:=false) hg k
 rw [this]
 unfold aT
 cases cu m k <;> rfl
def PartsI (h:Heap) (c b:Nat) (d:Int) (ps:List (Int×Side)):Prop:=
 ∃ tv,NevI h c (b+3) (b+2) b (b+1) d (ps.map (·.1)) (ps.all fun p=>p.2.lo&&p.2.hi) (aZ (ps.map fun p=>(p.1,p.2.low,p.2.high)) d d).1 (aZ (ps.map fun p=>(p.1,p.2.low,p.2.high)) d d).2 tv
theorem rq {ps:List (Int×Side)} (hp:∀ p∈ps,(-1000000≤p.1∧p.1≤1000000)∧SideOk p.2) (hl:ps.length≤24) {d:Int} (hd:-2000000≤d∧d≤2000000) :
  (-1000000000000000≤(aZ (ps.map fun p=>(p.1,p.2.low,p.2.high)) d d).1∧(aZ (ps.map fun p=>(p.1,p.2.low,p.2.high)) d d).1≤1000000000000000)∧(-1000000000000000≤(aZ (ps.map fun p=>(p.1,p.2.low,p.2.high)) d d).2∧(aZ (ps.map fun p=>(p.1,p.2.low,p.2.high)) d d).2≤1000000000000000):=by
 have:=gA (ps.map fun p=>(p.1,p.2.low,p.2.high)) d d 2000000 (fun q hq=>by
  obtain ⟨p,hpm,rfl⟩:=List.mem_map.1 hq
  obtain ⟨h1,h2⟩:=hp p hpm
  have m1:=dk h1 h2.low
  have m2:=dk h1 h2.high
  simp only [cM,cL]
  refine ⟨?_,?_,?_,?_⟩ <;> split <;> omega) (by omega) (by omega) (by omega) (by omega)
 rw [List.length_map] at this
 omega
theorem pc (p:Int×Side) (hp:(-1000000≤p.1∧p.1≤1000000)∧SideOk p.2) (ps:List (Int×Side)) (hps:∀ p∈ps,(-1000000≤p.1∧p.1≤1000000)∧SideOk p.2) (hl:ps.length≤24) (d:Int) (hd:-2000000≤d∧d≤2000000) (b:Nat) (h0:Heap) (c0:Nat) (hI:PartsI h0 c0 b d ps) :
  ACalls Pg Fn173.n [.int p.1,.agg p.2.dcells,.ptr (b+3) 0 0,.ptr (b+2) 0 0,.ptr b 0 0,.ptr (b+1) 0 0] ⟨h0,c0⟩ fun av s'=>PartsI s'.h s'.c b d (ps++[p])∧∀ g,g<c0→(g<b∨(b+3<g∧∀ tv k,h0 (b+3)=some (.row 2 [[.int k,tv]] .live none)→¬aq tv g))→s'.h g=h0 g:=by
 obtain ⟨tv,hN⟩:=hI
 have hb:=rq hps hl hd
 refine (uc p.1 hp.1 p.2 hp.2 (b+3) (b+2) b (b+1) d (ps.map (·.1)) (by simp; omega) _ _ _ hb.1 hb.2 tv h0 c0 hN).mono ?_
 rintro av s' hc ⟨tv',h1,h2⟩
 refine ⟨⟨tv',?_⟩,fun g hg hgb=>h2 g hg ?_ ?_ ?_ ?_ ?_⟩
 ·rw [List.map_append,List.map_append,List.all_append]
  simp only [List.map_cons,List.map_nil,List.all_cons,List.all_nil,Bool.and_true]
  rw [ic]
  exact h1
 all_goals first | omega | skip
 rcases hgb with h | ⟨h,h'⟩
 ·exact fun hr=>by have:=hN.row g hr; omega
 ·exact h' tv d hN.form
end Go.Proofs.YtjhogglgkjcacaaGreat
set_option maxRecDepth 20000
set_option maxHeartbeats 4000000
namespace Go.Proofs.YtjhogglgkjcacaaGreat
open Go.AM Go.Wb
structure StOk (A:List Wb.Array) (N:Nat) (y:Wb.Step×List Wb.Step):Prop where
 kind:Step.kind y.1=3
 subs:ek A (Step.array y.1) (Step.subs y.1)
 expr:dM A (Step.expr y.1)
 nr:cy (Step.expr y.1)≤4096
 loops:∀ s∈y.2,ei s
 len:y.2.length≤N
mutual
theorem vd {A:List Wb.Array} {N:Nat}:∀ (s:Wb.Step) (L:List ByteArray) (around:List Wb.Step),nG A L s→(∀ x∈around.filter isLoop,ei x)→around.length+count s≤N→∀ y∈cr around s,StOk A N y
 | .mk kind name low high conds body array subs expr,L,around,h,ha,hN=>by
  simp only [nG] at h
  simp only [count] at hN
  have hb:∀ L',fu A L' body→((∀ x∈(around++[Wb.Step.mk kind name low high conds body array subs expr]).filter isLoop,ei x))→∀ y∈bG (around++[Wb.Step.mk kind name low high conds body array subs expr]) body,StOk A N y:=
   fun L' h1 h2=>kY body L' _ h1 h2 (by simp only [List.length_append,List.length_cons,List.length_nil]; omega)
  intro y hy
  simp only [cr] at hy
  rcases h with ⟨hk,_,_,_,h1,h2,h3⟩ | ⟨hk,_,h3⟩ | ⟨hk,hbd,h1,h2,h3⟩
  ·have hne:¬kind=3:=by omega
   rw [if_neg hne,List.nil_append] at hy
   refine hb _ h3 (fun x hx=>?_) y hy
   rw [List.filter_append,List.mem_append] at hx
   rcases hx with hx | hx
   ·exact ha x hx
   ·have:=(List.mem_filter.1 hx).1
    rw [List.mem_singleton] at this
    subst this
    exact ⟨h1,h2⟩
  ·have hne:¬kind=3:=by omega
   rw [if_neg hne,List.nil_append] at hy
   refine hb _ h3 (fun x hx=>?_) y hy
   rw [List.filter_append,List.mem_append] at hx
   rcases hx with hx | hx
   ·exact ha x hx
   ·have hx:=List.mem_filter.1 hx
    have h4:=hx.1
    rw [List.mem_singleton] at h4
    subst h4
    have h5:decide (kind=1)=true:=hx.2
    have h6:=of_decide_eq_true h5
    omega
  ·subst hbd
   simp only [bG,List.append_nil] at hy
   rw [if_pos hk,List.mem_singleton] at hy
   subst hy
   exact ⟨hk,h1,h2,h3,ha,by have:=List.length_filter_le isLoop around; show (around.filter isLoop).length≤N; omega⟩
theorem kY {A:List Wb.Array} {N:Nat}:∀ (l:List Wb.Step) (L:List ByteArray) (around:List Wb.Step),fu A L l→(∀ x∈around.filter isLoop,ei x)→around.length+aB l≤N→∀ y∈bG around l,StOk A N y
 | [],L,around,h,ha,hN=>by simp [bG]
 | s::ss,L,around,h,ha,hN=>by
  simp only [fu] at h
  simp only [aB] at hN
  intro y hy
  simp only [bG,List.mem_append] at hy
  rcases hy with hy | hy
  ·exact vd s L around h.1 ha (by omega) y hy
  ·exact kY ss L around h.2 ha (by omega) y hy
end
theorem gM {p:Wb.Prog} (h:aW p=0) {k:ByteArray} {y:Wb.Step×List Wb.Step} (hy:ck p k=some y):StOk p.arrays (aB p.steps) y:=
 kY p.steps [] [] (mH h).steps (by simp) (by simp) y (List.mem_of_find?_eq_some hy)
theorem oz:∀ (l:List Wb.Bound) (n:Int) (k:Bool),(∀ b∈l,fO b) → -1000000≤n∧n≤1000000 → -1000000≤(dr l n k).1∧(dr l n k).1≤1000000
 | [],n,k,_,hn=>hn
 | b::bs,n,k,hb,hn=>by
  have h1:=hb b List.mem_cons_self
  simp only [dr]
  split
  ·exact oz bs _ _ (fun x hx=>hb x (List.mem_cons_of_mem _ hx)) (qU h1.2.1 1000000 h1.1.const)
  ·exact oz bs _ _ (fun x hx=>hb x (List.mem_cons_of_mem _ hx)) hn
theorem mE:∀ (l:List Wb.Bound) (n:Int) (k:Bool),(∀ b∈l,fO b) → -1000000≤n∧n≤1000000 → -1000000≤(cN l n k).1∧(cN l n k).1≤1000000
 | [],n,k,_,hn=>hn
 | b::bs,n,k,hb,hn=>by
  have h1:=hb b List.mem_cons_self
  simp only [cN]
  split
  ·exact mE bs _ _ (fun x hx=>hb x (List.mem_cons_of_mem _ hx)) (oP h1.2.1 1000000 h1.1.const)
  ·exact mE bs _ _ (fun x hx=>hb x (List.mem_cons_of_mem _ hx)) hn
theorem u6 {X:Wb.Step} (h:ei X):SideOk (cT X):=by
 obtain ⟨kind,name,low,high,conds,body,array,subs,expr⟩:=X
 obtain ⟨h1,h2⟩:=h
 exact ⟨oz low 0 false h1 (by omega),mE high 0 false h2 (by omega)⟩
theorem mF {P:Side→Prop}:∀ (m:List (ByteArray×Side)) (k:ByteArray) (v:Side),(∀ p∈m,P p.2)→P v→∀ p∈cB m k v,P p.2
 | [],k,v,_,hv=>by simp only [cB,List.mem_singleton]; rintro p rfl; exact hv
 | q::m,k,v,hm,hv=>by
  simp only [cB]
  split
  ·intro p hp
   rcases List.mem_cons.1 hp with rfl | hp
   ·exact hv
   ·exact hm p (List.mem_cons_of_mem _ hp)
  ·intro p hp
   rcases List.mem_cons.1 hp with rfl | hp
   ·exact hm _ List.mem_cons_self
   ·exact mF m k v (fun p hp=>hm p (List.mem_cons_of_mem _ hp)) hv p hp
theorem ja {l:List Wb.Step} (h:∀ s∈l,ei s):∀ p∈cz l,SideOk p.2:=by
 have key:∀ (l:List Wb.Step) (m:List (ByteArray×Side)),(∀ s∈l,ei s)→(∀ p∈m,SideOk p.2)→∀ p∈l.foldl (fun m s=>cB m (Step.name s) (cT s)) m,SideOk p.2:=by
  intro l
  induction l with
  | nil=>intro m _ hm; exact hm
  | cons s l ih=>
   intro m hl hm
   exact ih _ (fun x hx=>hl x (List.mem_cons_of_mem _ hx)) (mF m _ _ hm (u6 (hl s List.mem_cons_self)))
 exact key l [] h (by simp)
def AccW.ok (A:List Wb.Array) (a:AccW):Prop:=ek A a.array a.subs
theorem jH {A:List Wb.Array} {N:Nat} {y:Wb.Step×List Wb.Step} (h:StOk A N y):∀ a∈dH y.1,AccW.ok A a:=by
 intro a ha
 simp only [dH,List.mem_append,List.mem_map,List.mem_singleton] at ha
 rcases ha with ⟨x,hx,rfl⟩ | rfl
 ·exact pi _ h.expr x hx
 ·exact h.subs
theorem iM {A:List Wb.Array} {N:Nat} {y:Wb.Step×List Wb.Step} (h:StOk A N y):(dH y.1).length≤4097:=by
 have:=h.nr
 simp only [dH,List.length_append,List.length_map,fH,List.length_cons,List.length_nil]
 omega
theorem nH {A:List Wb.Array} {k:ByteArray} {s t:List Wb.Form} (hs:ek A k s) (ht:ek A k t):s.length=t.length:=by
 obtain ⟨i,a,h1,h2,h3,h4,h5⟩:=hs
 obtain ⟨j,b,g1,g2,g3,g4,g5⟩:=ht
 have:i=j:=by have:=h2.symm.trans g2; omega
 subst this
 rw [h1] at g1; cases g1
 omega
mutual
def k8 (key:ByteArray) (i:Nat):Wb.Step→List Nat
 | .mk kind name low high conds body array subs expr=>if kind=3∧name=key then [i] else match dG key 0 body with
  | []=>[]
  | w::ws=>i::w::ws
def dG (key:ByteArray) (i:Nat):List Wb.Step→List Nat
 | []=>[]
 | s::ss=>match k8 key i s with
  | []=>dG key (i+1) ss
  | w::ws=>w::ws
end
def dy:List Wb.Step→List Nat→List Wb.Step
 | _,[]=>[]
 | l,i::w=>match l[i]? with
  | none=>[]
  | some s=>s::dy (Step.body s) w
def jU:List Wb.Step→List Nat→Prop
 | _,[]=>True
 | l,i::w=>match l[i]? with
  | none=>False
  | some s=>jU (Step.body s) w
structure WayTo (around l:List Wb.Step) (y:Option (Wb.Step×List Wb.Step)) (w:List Nat):Prop where
 ok:jU l w
 none:y=none→w=[]
 some:∀ z,y=some z→w≠[]∧(dy l w).getLast?=some z.1∧z.2=(around++dy l w).filter isLoop
mutual
theorem ww (key:ByteArray):∀ (s:Wb.Step) (i:Nat) (around pre post:List Wb.Step),pre.length=i→WayTo around (pre++s::post) ((cr around s).find? fun y=>decide (Step.name y.1=key)) (k8 key i s)
 | .mk kind name low high conds body array subs expr,i,around,pre,post,hi=>by
  have hat:(pre++.mk kind name low high conds body array subs expr::post)[i]?=some (.mk kind name low high conds body array subs expr):=by
   rw [List.getElem?_append_right (by omega),hi,Nat.sub_self]; rfl
  have hbt:=oL key body 0 (around++[.mk kind name low high conds body array subs expr]) [] rfl
  rw [List.nil_append] at hbt
  simp only [cr,k8]
  by_cases hk:kind=3∧name=key
  ·rw [if_pos hk,if_pos hk.1]
   obtain ⟨h3,rfl⟩:=hk
   simp only [List.cons_append,List.nil_append,List.find?_cons,Step.name,decide_true]
   refine ⟨by simp only [jU,hat],by simp,?_⟩
   rintro z hz
   cases hz
   have hp:dy (pre++.mk kind name low high conds body array subs expr::post) [i]=[.mk kind name low high conds body array subs expr]:=by rw [dy,hat]; rfl
   have hl:isLoop (.mk kind name low high conds body array subs expr)=false:=decide_eq_false (by show ¬kind=1; omega)
   rw [hp]
   refine ⟨by simp,rfl,?_⟩
   rw [List.filter_append,List.filter_cons,hl]
   simp
  ·rw [if_neg hk]
   have hfe:List.find? (fun y=>decide (Step.name y.1=key)) ((if kind=3 then [(Wb.Step.mk kind name low high conds body array subs expr,around.filter isLoop)] else [])++bG (around++[.mk kind name low high conds body array subs expr]) body)=List.find? (fun y=>decide (Step.name y.1=key)) (bG (around++[.mk kind name low high conds body array subs expr]) body):=by
    by_cases h3:kind=3
    ·have hn:¬name=key:=fun e=>hk ⟨h3,e⟩
     simp [h3,Step.name,hn]
    ·simp [h3]
   rw [hfe]
   cases hw:dG key 0 body with
   | nil=>
    rw [hw] at hbt
    refine ⟨trivial,fun _=>rfl,fun z hz=>?_⟩
    exact absurd rfl (hbt.some z hz).1
   | cons w ws=>
    rw [hw] at hbt
    refine ⟨?_,fun e=>?_,fun z hz=>?_⟩
    ·simp only [jU,hat]; exact hbt.ok
    ·have:=hbt.none e; cases this
    ·obtain ⟨h1,h2,h3⟩:=hbt.some z hz
     refine ⟨by simp,?_,?_⟩
     ·rw [dy,hat]
      show (_::dy body (w::ws)).getLast?=_
      rw [List.getLast?_cons,h2]; rfl
     ·rw [dy,hat]
      show z.2=(around++_::dy body (w::ws)).filter isLoop
      rw [h3,List.append_assoc]; rfl
theorem oL (key:ByteArray):∀ (l:List Wb.Step) (i:Nat) (around pre:List Wb.Step),pre.length=i→WayTo around (pre++l) ((bG around l).find? fun y=>decide (Step.name y.1=key)) (dG key i l)
 | [],i,around,pre,hi=>⟨trivial,fun _=>rfl,fun z hz=>by simp [bG] at hz⟩
 | s::ss,i,around,pre,hi=>by
  have h1:=ww key s i around pre ss hi
  have h2:=oL key ss (i+1) around (pre++[s]) (by simp [hi])
  rw [List.append_assoc] at h2
  simp only [bG,dG,List.find?_append]
  cases hw:k8 key i s with
  | nil=>
   rw [hw] at h1
   have hn:(cr around s).find? (fun y=>decide (Step.name y.1=key))=none:=by
    cases e:(cr around s).find? (fun y=>decide (Step.name y.1=key)) with
    | none=>rfl
    | some z=>exact absurd rfl (h1.some z e).1
   rw [hn]
   exact h2
  | cons w ws=>
   rw [hw] at h1
   cases e:(cr around s).find? (fun y=>decide (Step.name y.1=key)) with
   | none=>have:=h1.none e; cases this
   | some z=>
    rw [e] at h1
    exact h1
end
theorem tG (p:Wb.Prog) (key:ByteArray):WayTo [] p.steps (ck p key) (dG key 0 p.steps):=oL key p.steps 0 [] [] rfl
end Go.Proofs.YtjhogglgkjcacaaGreat
set_option maxRecDepth 20000
set_option maxHeartbeats 4000000
namespace Go.Proofs.YtjhogglgkjcacaaGreat
open Go.AM Go.Wb
theorem vR (l:List Wb.Slot) (f:Nat) (a b:List AV) (p:Wb.Slot→Bool) (h:Heap) (c:Nat) (hp:pT f a b (fun x:Wb.Slot=>.agg x.cells) h c p l) :
  ACalls Pg Fn90.n [row (l.map Slot.cells),.fn (.func f) a b] ⟨h,c⟩ fun av s'=>av=.int (aK p l 0)∧s'.h=h:=by
 refine ACalls.small fun hs=>?_
 have hlen:l.length≤68719476736:=by simp at hs; omega
 refine Fn90.calls .frz ?_
 unfold Fn90.ac
 simp
 refine bK 8 Fn90.W0 l (fun i r sl=>aK p l 0=aK p r i) (by rfl) (by rfl) ?_ ?_ ?_
 ·simp
 ·intro v c1 hv hc hI
  simp [hv,hI,aK]
 ·intro i x xs v c1 hi hx hl hv hc hI
  have hw:=ah (x:=(i:Int)+1) (by omega) (by omega)
  simp [hv,hi,hx,Slot.cells]
  refine ACalls.at (hp x (aR hl) c1 hc) fun c2 hc2=>?_
  by_cases hpx:p x=true
  ·simp [hpx,hI,aK]
  ·simp [hpx,hv,hw,hI,aK]; omega
theorem iJ (l:List Wb.Term) (f:Nat) (a b:List AV) (p:Wb.Term→Bool) (h:Heap) (c:Nat) (hp:pT f a b (fun x:Wb.Term=>.agg x.cells) h c p l) :
  ACalls Pg Fn163.n [row (l.map Term.cells),.fn (.func f) a b] ⟨h,c⟩ fun av s'=>av=.int (aK p l 0)∧s'.h=h:=by
 refine ACalls.small fun hs=>?_
 have hlen:l.length≤68719476736:=by simp at hs; omega
 refine Fn163.calls .frz ?_
 unfold Fn163.ac
 simp
 refine bK 8 Fn163.W0 l (fun i r sl=>aK p l 0=aK p r i) (by rfl) (by rfl) ?_ ?_ ?_
 ·simp
 ·intro v c1 hv hc hI
  simp [hv,hI,aK]
 ·intro i x xs v c1 hi hx hl hv hc hI
  have hw:=ah (x:=(i:Int)+1) (by omega) (by omega)
  simp [hv,hi,hx,Term.cells]
  refine ACalls.at (hp x (aR hl) c1 hc) fun c2 hc2=>?_
  by_cases hpx:p x=true
  ·simp [hpx,hI,aK]
  ·simp [hpx,hv,hw,hI,aK]; omega
theorem vT (l:List Wb.Term) (f:Nat) (a b:List AV) (p:Wb.Term→Bool) (h:Heap) (c:Nat) (hp:pT f a b (fun x:Wb.Term=>.agg x.cells) h c p l) :
  ACalls Pg Fn92.n [row (l.map Term.cells),.fn (.func f) a b] ⟨h,c⟩ fun av s'=>av=.bool (l.any p)∧s'.h=h:=by
 refine Fn92.calls .frz ?_
 unfold Fn92.ac
 simp
 refine ACalls.at (iJ l f a b p h c hp) fun c2 hc2=>?_
 simp [rI]
def cP:List Int→Int
 | []=>0
 | x::xs=>if x=0 then cP xs else x
theorem lH (l:List Int):aG Pg Fn86.n [row (be l)] (.int (cP l)):=by
 rintro ⟨h0,c0⟩
 unfold be
 refine ACalls.small fun hs=>?_
 have hlen:l.length≤68719476736:=by simp at hs; omega
 refine Fn86.calls .frz ?_
 unfold Fn86.ac
 simp
 refine bK 7 Fn86.W0 l (fun i r sl=>cP l=cP r) (by rfl) (by rfl) ?_ ?_ ?_
 ·simp
 ·intro v c hv hc hI
  simp [hv,hI,cP]
 ·intro i x xs v c hi hx hl hv hc hI
  have hw:=ah (x:=(i:Int)+1) (by omega) (by omega)
  by_cases hz:x=0
  ·simp [hv,hi,hx,hz,hw]
   exact ⟨hc,by simpa [cP,hz] using hI⟩
  ·simp [hv,hi,hx,hz]
   simpa [cP,hz] using hI.symm
theorem mP (l:List Int):aG Pg Fn12.n [row (be l)] (.int (cP l)):=by
 rintro ⟨h0,c0⟩
 unfold be
 refine ACalls.small fun hs=>?_
 have hlen:l.length≤68719476736:=by simp at hs; omega
 refine Fn12.calls .frz ?_
 unfold Fn12.ac
 simp
 refine bK 7 Fn12.W0 l (fun (i:Nat) r sl=>cP l=cP r) (by rfl) (by rfl) ?_ ?_ ?_
 ·simp
 ·intro v c1 hv hc hI
  simp [hv,hI,cP]
 ·intro i x xs v c1 hi hx hl hv hc hI
  have hw:=ah (x:=(i:Int)+1) (by omega) (by omega)
  by_cases hz:x=0
  ·simp [hv,hi,hx,hz,hw]
   exact ⟨hc,by simpa [cP,hz] using hI⟩
  ·simp [hv,hi,hx,hz]
   simpa [cP,hz] using hI.symm
end Go.Proofs.YtjhogglgkjcacaaGreat
set_option maxRecDepth 20000
set_option maxHeartbeats 4000000
namespace Go.Proofs.YtjhogglgkjcacaaGreat
open Go.AM Go.Wb
theorem fF:∀ {l:List Wb.Slot} {last:ByteArray},bo last l=0→(∀ x∈l,slt last x.name=true ∧ -1000000≤x.value∧x.value≤1000000)∧l.Pairwise fun x y=>slt x.name y.name=true
 | [],_,_=>⟨by simp,.nil⟩
 | y::l,last,h=>by
  simp only [bo] at h
  split at h
  ·cases h
  ·split at h
   ·cases h
   ·rename_i h1
    split at h
    ·cases h
    ·rename_i h2
     obtain ⟨i1,i2⟩:=fF h
     have h3:=wt (by simpa using h2)
     refine ⟨fun x hx=>?_,List.pairwise_cons.2 ⟨fun x hx=>(i1 x hx).1,i2⟩⟩
     rcases List.mem_cons.1 hx with rfl | hx
     ·exact ⟨h3,by omega⟩
     ·exact ⟨pY _ _ _ h3 (i1 x hx).1,(i1 x hx).2⟩
theorem kj {l:List Wb.Slot} {last:ByteArray} (h:bo last l=0):(l.map (·.name)).Nodup:=by
 rw [List.nodup_iff_pairwise_ne,List.pairwise_map]
 exact (fF h).2.imp fun {x y} h e=>by rw [e] at h; unfold slt at h; rw [sL] at h; cases h
def j7 (a b:Wb.Slot):Side:=⟨a.value,b.value,true,true⟩
def gO (m:List (ByteArray×Side)) (l:List (Wb.Slot×Wb.Slot)):List (ByteArray×Side):=l.foldl (fun m p=>cB m p.1.name (j7 p.1 p.2)) m
theorem lW (x:Wb.Slot) (l:List Wb.Slot) (n:ByteArray):bn (x::l) n=if x.name=n then some x.value else bn l n:=by
 unfold bn
 rw [List.find?_cons]
 by_cases h:x.name=n <;> simp [h]
theorem jn {l:List Wb.Slot} {n:ByteArray} (h:n∉l.map (·.name)):bn l n=none:=by
 unfold bn
 rw [List.find?_eq_none.2 fun x hx e=>h (List.mem_map.2 ⟨x,hx,by simpa using e⟩)]; rfl
theorem lX {l:List Wb.Slot} {n:ByteArray} (h:n∈l.map (·.name)):(bn l n).isSome=true:=by
 unfold bn
 cases e:l.find? fun s=>decide (s.name=n) with
 | some x=>rfl
 | none=>
  rw [List.find?_eq_none] at e
  obtain ⟨x,hx,e2⟩:=List.mem_map.1 h
  exact absurd (by simpa using e2) (e x hx)
theorem sA {l:List Wb.Slot} {n:ByteArray} {v:Int} (h:bn l n=some v):∃ x∈l,x.name=n∧x.value=v:=by
 unfold bn at h
 cases e:l.find? fun s=>decide (s.name=n) with
 | none=>rw [e] at h; cases h
 | some x=>
  rw [e] at h
  exact ⟨x,List.mem_of_find?_eq_some e,by simpa using List.find?_some e,by simpa using h⟩
theorem rV (n:ByteArray):∀ (low high:List Wb.Slot) (m:List (ByteArray×Side)),low.map (·.name)=high.map (·.name)→(low.map (·.name)).Nodup →
  cu (gO m (low.zip high)) n=match bn low n,bn high n with
   | some a,some b=>some ⟨a,b,true,true⟩
   | _,_=>cu m n
 | [],[],m,_,_=>rfl
 | [],y::high,m,h,_=>by cases h
 | x::low,[],m,h,_=>by cases h
 | x::low,y::high,m,h,hn=>by
  simp only [List.map_cons,List.cons.injEq] at h
  simp only [List.map_cons,List.nodup_cons] at hn
  show cu (gO (cB m x.name (j7 x y)) (low.zip high)) n=_
  rw [rV n low high _ h.2 hn.2,lW,lW,←h.1]
  by_cases e:x.name=n
  ·have e1:bn low n=none:=jn (e▸hn.1)
   rw [e1,if_pos e,if_pos e,iV,if_pos e.symm]; rfl
  ·rw [if_neg e,if_neg e,iV,if_neg (Ne.symm e)]
theorem kQ (n:ByteArray) {low high:List Wb.Slot} (h:low.map (·.name)=high.map (·.name)) (hn:(low.map (·.name)).Nodup) :
  (aT (gO [] (low.zip high)) n).low=(bn low n).getD 0∧(aT (gO [] (low.zip high)) n).high=(bn high n).getD 0∧(cu (gO [] (low.zip high)) n).isSome=(bn low n).isSome:=by
 unfold aT
 rw [rV n low high [] h hn]
 by_cases e:n∈low.map (·.name)
 ·have h1:=lX e
  have h2:=lX (h▸e)
  obtain ⟨a,ha⟩:=Option.isSome_iff_exists.1 h1
  obtain ⟨b,hb⟩:=Option.isSome_iff_exists.1 h2
  rw [ha,hb]; exact ⟨rfl,rfl,rfl⟩
 ·rw [jn e,jn (h▸e)]; exact ⟨rfl,rfl,rfl⟩
theorem nJ:∀ (l:List (Wb.Slot×Wb.Slot)) (m:List (ByteArray×Side)),(∀ p∈l,(-1000000≤p.1.value∧p.1.value≤1000000)∧(-1000000≤p.2.value∧p.2.value≤1000000))→(∀ p∈m,SideOk p.2)→∀ p∈gO m l,SideOk p.2
 | [],m,_,hm=>hm
 | q::l,m,hl,hm=>by
  have hq:=hl q List.mem_cons_self
  exact nJ l _ (fun p hp=>hl p (List.mem_cons_of_mem _ hp)) (mF m _ _ hm ⟨hq.1,hq.2⟩)
def vA (m:List (ByteArray×Side)) (f:Wb.Form):Int×Int:=aZ (f.terms.map fun t=>(t.coef,(aT m t.name).low,(aT m t.name).high)) f.const f.const
theorem u9 {low high:List Wb.Slot} (f:Wb.Form) (h:low.map (·.name)=high.map (·.name)) (hn:(low.map (·.name)).Nodup):vA (gO [] (low.zip high)) f=iL f low high:=by
 unfold vA iL
 congr 1
 refine List.map_congr_left fun t _=>?_
 obtain ⟨h1,h2,_⟩:=kQ t.name h hn
 rw [h1,h2]
end Go.Proofs.YtjhogglgkjcacaaGreat
set_option maxRecDepth 20000
set_option maxHeartbeats 4000000
namespace Go.Proofs.YtjhogglgkjcacaaGreat
open Go.AM Go.Wb
def uC (s:Wb.Step):Bool:=(cT s).lo&&(cT s).hi&&decide ((cT s).high<(cT s).low)
structure Rg where
 s:Wb.Step
 m:List (ByteArray×Side)
 e:Bool
def gK:List Wb.Step→Rg→Rg
 | [],x=>x
 | s::ss,x=>gK ss (if isLoop s then ⟨s,cB x.m (Step.name s) (cT s),x.e||uC s⟩ else ⟨s,x.m,x.e⟩)
theorem pf:∀ (P:List Wb.Step) (x:Rg),gK P x=⟨P.getLast?.getD x.s,(P.filter isLoop).foldl (fun m s=>cB m (Step.name s) (cT s)) x.m,x.e||cS (P.filter isLoop)⟩
 | [],x=>by simp [gK,cS]
 | s::ss,x=>by
  simp only [gK]
  rw [pf ss,List.getLast?_cons]
  by_cases h:isLoop s=true
  ·simp only [h,if_true,List.filter_cons,List.foldl_cons]
   cases ss.getLast? <;> simp [cS,uC,Bool.or_assoc]
  ·simp only [h,if_false,List.filter_cons,Bool.false_eq_true]
   cases ss.getLast? <;> simp
theorem tC {p:Wb.Prog} {key:ByteArray} {z:Wb.Step×List Wb.Step} (h:ck p key=some z) (s0:Wb.Step):gK (dy p.steps (dG key 0 p.steps)) ⟨s0,[],false⟩=⟨z.1,cz z.2,cS z.2⟩:=by
 obtain ⟨h1,h2,h3⟩:=(tG p key).some z h
 rw [List.nil_append] at h3
 rw [pf,h2,←h3]
 simp [cz]
end Go.Proofs.YtjhogglgkjcacaaGreat
set_option maxRecDepth 20000
set_option maxHeartbeats 4000000
namespace Go.Proofs.YtjhogglgkjcacaaGreat
open Go.AM Go.Wb
def AccW.cells (a:AccW):List AV:=[.str a.array,row (a.subs.map Form.cells),.bool a.sets]
theorem rH (a:AccW):aA 3 a.cells=true:=by obtain ⟨_,_,_⟩:=a; rfl
theorem sj (a:AccW):aQ a.cells=a.cells:=by simp [AccW.cells,aQ]
@[simp] theorem lS (l:List AccW):aP (l.map AccW.cells)=l.map AccW.cells:=bY sj l
def fc (x:Wb.Expr):AccW:=⟨mQ x,gC x,false⟩
theorem pG (X:Wb.Step) (hr:cy (Step.expr X)≤4096):aG Pg Fn100.n [X.av] (row ((dH X).map AccW.cells)):=by
 rintro ⟨h0,c0⟩
 refine ACalls.small fun hsm=>?_
 obtain ⟨kind,name,low,high,conds,body,array,subs,⟨op,n2,form,ea,es,args⟩⟩:=X
 have hrd:=ub _ (.mk op n2 form ea es args) (Nat.le_refl _) hr
 have hrl:=fH (.mk op n2 form ea es args)
 obtain ⟨R,hR⟩:∃ R,R=bU (.mk op n2 form ea es args):=⟨_,rfl⟩
 rw [←hR] at hrd hrl
 have hRl:R.length≤4096:=by rw [hrl]; exact hr
 have hacc:dH (.mk kind name low high conds body array subs (.mk op n2 form ea es args))=R.map fc++[⟨array,subs,true⟩]:=by rw [hR]; rfl
 rw [hacc]
 rw [Expr.av_mk] at hrd
 rw [Step.av_mk] at hsm ⊢
 refine Fn100.calls .frz ?_
 unfold Fn100.ac
 obtain ⟨hb,hhb⟩:∃ hb,hb=upd (upd h0 c0 (some (.row 15 [(Wb.Step.mk kind name low high conds body array subs (.mk op n2 form ea es args)).cells] .live none))) (c0+1) (some (.row 3 [] .live none)):=⟨_,rfl⟩
 have bx:hb c0=_:=(congrFun hhb c0).trans (by rw [ad (by omega),af])
 have br:hb (c0+1)=_:=(congrFun hhb (c0+1)).trans af
 have bl:∀ k,k<c0→hb k=h0 k:=fun k hk=>by rw [hhb,ad (by omega),ad (by omega)]
 rw [Step.cells_mk] at hhb bx
 simp
 rw [←hhb]
 refine ACalls.pure hrd fun c1 hc1=>?_
 simp
 obtain ⟨Inv,hInv⟩:∃ Inv:Nat→List Wb.Expr→Slots→St→Prop,Inv=fun (i:Nat) r sl s'=>∃ go,sl 3=.row go 3 0 i∧c0<go∧go<s'.c∧s'.h go=some (.row 3 (((R.take i).map fc).map AccW.cells) .live none)∧s'.h c0=hb c0∧∀ k,k<c0→s'.h k=h0 k:=⟨_,rfl⟩
 refine bz 10 Fn100.W0 R Inv (by rfl) (by rfl) ?_ ?_ ?_
 ·rw [hInv]
  exact ⟨by simp,c0+1,by simp,by omega,by show c0+1<c1; omega,by simpa using br,rfl,bl⟩
 ·intro v s' hv hI
  rw [hInv,List.take_length] at hI
  obtain ⟨go,h3,i1,i2,i3,i4,i5⟩:=hI
  obtain ⟨h,c⟩:=s'
  simp only [List.map_map] at h3 i2 i3 i4 i5
  have hx0:=i4.trans bx
  have hap:=cC (sz:=3) (bytes:=48) (md:=.plain) (len:=R.length) (x:=[.str array,row (subs.map Form.cells),.bool true]) (b:=true) (s:=⟨h,c⟩) (by simp) i3 (by simp) (by decide) (by decide) (by decide) rfl (by omega)
  simp only [row] at hap
  have h3':=h3
  simp at h3'
  simp [hv,h3',hx0,bsI,an,aI,hap]
  refine ⟨?_,ay fun k hk=>by rw [ad (by omega),ad (by omega)]; exact i5 k hk⟩
  have e:List.map (AccW.cells ∘ fc) R++[[AV.str array,AV.sl (List.map Form.cells subs) false,AV.bool true]]=(R.map fc++[(⟨array,subs,true⟩:AccW)]).map AccW.cells:=by simp [AccW.cells]
  rw [List.take_of_length_le (by simp),e,lS]
  simp
 ·intro i x xs v s' hi hx2 hl2 hv hI
  rw [hInv] at hI
  obtain ⟨go,h3,i1,i2,i3,i4,i5⟩:=hI
  obtain ⟨h,c⟩:=s'
  simp at h3
  simp only [List.map_map] at i2 i3 i4 i5
  have hw:=ah (x:=(i:Int)+1) (by omega) (by omega)
  obtain ⟨h1,hh1⟩:∃ h1,h1=upd h c (some (.row 7 [x.cells] .live none)):=⟨_,rfl⟩
  have low1:∀ g,g<c→h1 g=h g:=fun g hg=>by rw [hh1,ad (by omega)]
  have q1:h1 c=_:=(congrFun hh1 c).trans af
  have q3:=(low1 go i2).trans i3
  have hcel:(fc x).cells=[.str (mQ x),row ((gC x).map Form.cells),.bool false]:=rfl
  obtain ⟨op2,n3,form2,array2,subs2,args2⟩:=x
  have hap:=cC (sz:=3) (bytes:=48) (md:=.plain) (len:=i) (x:=[.str array2,row (subs2.map Form.cells),.bool false]) (b:=true) (s:=⟨h1,c+1⟩) (by simp) q3 (by simp; omega) (by decide) (by decide) (by decide) rfl (by omega)
  simp only [row] at hap
  rw [Expr.cells_mk] at hh1 q1
  simp [hv,hi,hx2,Expr.cells_mk]
  rw [←hh1]
  simp [q1,h3,bsI,an,aI,hap,hv,hw]
  rw [hInv]
  refine ⟨c+1,by simp,by omega,by show c+1<c+1+1; omega,?_,?_,fun k hk=>?_⟩
  ·show upd _ (c+1) _ (c+1)=_
   rw [af,List.take_add_one,List.getElem?_eq_getElem hi,hx2]
   simp [AccW.cells,fc,mQ,gC]
  ·show upd (upd h1 go none) (c+1) _ c0=_
   rw [ad (by omega),ad (by omega),low1 c0 (by omega)]; exact i4
  ·show upd (upd h1 go none) (c+1) _ k=_
   rw [ad (by omega),ad (by omega),low1 k (by omega)]; exact i5 k hk
end Go.Proofs.YtjhogglgkjcacaaGreat
set_option maxRecDepth 20000
set_option maxHeartbeats 4000000
namespace Go.Proofs.YtjhogglgkjcacaaGreat
open Go.AM Go.Wb
theorem PartsI.fr {h h':Heap} {c c' b:Nat} {d:Int} {ps:List (Int×Side)} (H:PartsI h c b d ps) (hh:∀ g,g<c→h' g=h g) (hc:c≤c'):PartsI h' c' b d ps:=by
 obtain ⟨tv,H⟩:=H
 refine ⟨tv,?_,?_,?_,?_,?_,?_,H.ne,fun g hg=>?_⟩
 ·rw [hh _ H.lt.1]; exact H.form
 ·exact H.terms.frame fun k hk=>hh k (H.row k hk).1
 ·rw [hh _ H.lt.2.1]; exact H.known
 ·rw [hh _ H.lt.2.2.1]; exact H.low
 ·rw [hh _ H.lt.2.2.2]; exact H.high
 ·have:=H.lt; omega
 ·have:=H.row g hg; omega
theorem PartsI.lt {h:Heap} {c b:Nat} {d:Int} {ps:List (Int×Side)} (H:PartsI h c b d ps):b+3<c:=by
 obtain ⟨tv,H⟩:=H
 exact H.lt.1
theorem tJ (f g:Wb.Form) (hf:OkForm f) (hg:OkForm g) (x y:List (ByteArray×Side)) (hx:∀ p∈x,SideOk p.2) (hy:∀ p∈y,SideOk p.2) (gx gy vx vy:Nat) (h0:Heap) (c0:Nat) (hgx:gx<c0) (hgy:gy<c0)
  (mx:h0 gx=some (.map (kvs AV.str (fun s:Side=>AV.agg (Side.dcells s)) x) vx)) (my:h0 gy=some (.map (kvs AV.str (fun s:Side=>AV.agg (Side.dcells s)) y) vy)) :
  ACalls Pg Fn101.n [f.av,g.av,.map gx,.map gy] ⟨h0,c0⟩ fun av s'=>av=.bool (df x y f g)∧s'.h=h0:=by
 refine ACalls.small fun hsm=>?_
 refine Fn101.calls .frz ?_
 unfold Fn101.ac
 have hd1:=hf.const
 have hd2:=hg.const
 have hfl:=hf.len
 have hgl:=hg.len
 have hw:IntKind.i64.wrap (f.const-g.const)=f.const-g.const:=ah (by omega) (by omega)
 obtain ⟨d,hd⟩:∃ d,d=f.const-g.const:=⟨_,rfl⟩
 have hdb:-2000000≤d∧d≤2000000:=by omega
 have hwd:IntKind.i64.wrap d=d:=ah (by omega) (by omega)
 have n1:¬c0+1+1+1=c0+1+1:=by omega
 have n2:¬c0+1+1+1+1=c0+1+1:=by omega
 have n3:¬c0+1+1+1+1=c0+1+1+1:=by omega
 have n4:¬c0+1+1=c0+1+1+1+1:=by omega
 have n5:¬c0=c0+1+1:=by omega
 have n6:¬c0+1+1=c0:=by omega
 have n7:¬c0=c0+1+1+1:=by omega
 have n8:¬c0=c0+1+1+1+1:=by omega
 have n9:¬c0=c0+1+1+1+1+1:=by omega
 simp [Form.av,Form.cells,hwd,←hd,aI,n1,n2,n3,n4,n5,n6,n7,n8,n9]
 obtain ⟨hA,hhA⟩:∃ hA,hA=upd (upd (upd (upd (upd (upd (upd (upd (upd h0 c0 (some (.row 2 [[.int f.const,row (f.terms.map Term.cells)]] .live none))) (c0+1) (some (.row 2 [[.int g.const,row (g.terms.map Term.cells)]] .live none))) (c0+1+1) (some (.row 1 [[.int 0]] .live none))) (c0+1+1+1) (some (.row 1 [[.int 0]] .live none))) (c0+1+1+1+1) (some (.row 1 [[.bool false]] .live none)))
  (c0+1+1) (some (.row 1 [[.int d]] .live none))) (c0+1+1+1) (some (.row 1 [[.int d]] .live none))) (c0+1+1+1+1) (some (.row 1 [[.bool true]] .live none))) (c0+1+1+1+1+1) (some (.row 2 [[.int d,.nil]] .live none)):=⟨_,rfl⟩
 rw [←hhA]
 have a0:∀ k,k<c0→hA k=h0 k:=fun k hk=>by rw [hhA,ad (by omega),ad (by omega),ad (by omega),ad (by omega),ad (by omega),ad (by omega),ad (by omega),ad (by omega),ad (by omega)]
 have a2:hA (c0+1)=some (.row 2 [[.int g.const,row (g.terms.map Term.cells)]] .live none):=by rw [hhA,ad (by omega),ad (by omega),ad (by omega),ad (by omega),ad (by omega),ad (by omega),ad (by omega),af]
 have hI0:PartsI hA (c0+1+1+1+1+1+1) (c0+1+1) d []:=by
  refine ⟨.sl [] true,?_,.inl ⟨rfl,rfl⟩,?_,?_,?_,by omega,by omega,fun g hg=>absurd hg cQ⟩
  ·rw [hhA]; exact af
  ·rw [hhA,ad (by omega)]; exact af
  ·rw [hhA,ad (by omega),ad (by omega),ad (by omega)]; exact af
  ·rw [hhA,ad (by omega),ad (by omega)]; exact af
 clear hhA
 obtain ⟨V,hV⟩:∃ V,V=df x y f g:=⟨_,rfl⟩
 rw [←hV]
 obtain ⟨Inv1,hInv1⟩:∃ Inv:Nat→List Wb.Term→Slots→St→Prop,Inv=fun (i:Nat) r sl s'=>PartsI s'.h s'.c (c0+1+1) d ((f.terms.take i).map fun t=>(t.coef,aT x t.name))∧∀ k,k<c0+1+1→s'.h k=hA k:=⟨_,rfl⟩
 refine bz 32 Fn101.W0 f.terms Inv1 (by rfl) (by rfl) ?_ ?_ ?_
 ·rw [hInv1]; exact ⟨by simp,by simpa using hI0,fun _ _=>rfl⟩
 ·intro v s' hv hI
  rw [hInv1,List.take_length] at hI
  obtain ⟨i1,i2⟩:=hI
  obtain ⟨h,c⟩:=s'
  simp only at i1 i2
  have b1:=(i2 (c0+1) (by omega)).trans a2
  simp [hv,b1]
  obtain ⟨Inv2,hInv2⟩:∃ Inv:Nat→List Wb.Term→Slots→St→Prop,Inv=fun (i:Nat) r sl s'=>PartsI s'.h s'.c (c0+1+1) d (f.terms.map (fun t=>(t.coef,aT x t.name))++(g.terms.take i).map fun t=>(-t.coef,aT y t.name))∧∀ k,k<c0+1+1→s'.h k=hA k:=⟨_,rfl⟩
  refine bz 48 Fn101.W1 g.terms Inv2 (by rfl) (by rfl) ?_ ?_ ?_
  ·rw [hInv2]; exact ⟨by simp,by simpa using i1,i2⟩
  ·intro v2 s' hv2 hI
   rw [hInv2,List.take_length] at hI
   obtain ⟨⟨tv,N⟩,j2⟩:=hI
   obtain ⟨h2,c2⟩:=s'
   simp only at N j2
   obtain ⟨ps,hps⟩:∃ ps,ps=nI x y f g:=⟨_,rfl⟩
   have hps':f.terms.map (fun t=>(t.coef,aT x t.name))++g.terms.map (fun t=>(-t.coef,aT y t.name))=ps:=by rw [hps]; rfl
   rw [hps'] at N
   have hcf:∀ p∈ps,-1000000≤p.1∧p.1≤1000000:=by
    intro p hp
    rw [←hps',List.mem_append] at hp
    rcases hp with hp | hp
    ·obtain ⟨t,ht,rfl⟩:=List.mem_map.1 hp
     have:=hf.coef t ht; simp only; omega
    ·obtain ⟨t,ht,rfl⟩:=List.mem_map.1 hp
     have:=hg.coef t ht; simp only; omega
   have hVe:V=(!eJ d (ps.map (·.1))||(ps.all (fun p=>p.2.lo&&p.2.hi)&&!decide ((aZ (ps.map fun p=>(p.1,p.2.low,p.2.high)) d d).1≤0∧0≤(aZ (ps.map fun p=>(p.1,p.2.low,p.2.high)) d d).2))):=by
    rw [hV,hps,hd]; rfl
   obtain ⟨lo,hlo⟩:∃ lo,lo=(aZ (ps.map fun p=>(p.1,p.2.low,p.2.high)) d d).1:=⟨_,rfl⟩
   obtain ⟨hi,hhi⟩:∃ hi,hi=(aZ (ps.map fun p=>(p.1,p.2.low,p.2.high)) d d).2:=⟨_,rfl⟩
   obtain ⟨kn,hkn⟩:∃ kn,kn=ps.all (fun p=>p.2.lo&&p.2.hi):=⟨_,rfl⟩
   rw [←hlo,←hhi,←hkn] at hVe N
   have hso:=rA ⟨d,ps.map fun p=>⟨⟨#[]⟩,p.1⟩⟩ (fun t ht=>by
    obtain ⟨p,hp,rfl⟩:=List.mem_map.1 ht
    have:=hcf p hp; simp only; omega)
   simp only [Form.av,Form.cells,List.map_map] at hso
   have e1:((fun t:Wb.Term=>t.coef) ∘ fun p:Int×Side=>(⟨⟨#[]⟩,p.1⟩:Wb.Term))=fun p=>p.1:=rfl
   have e2:(Term.cells ∘ fun p:Int×Side=>(⟨⟨#[]⟩,p.1⟩:Wb.Term))=fun p=>[.str ⟨#[]⟩,.int p.1]:=rfl
   rw [e1,e2] at hso
   obtain ⟨S,hS⟩:∃ S,S=eJ d (ps.map fun p=>p.1):=⟨_,rfl⟩
   rw [←hS] at hso hVe
   have n1:=N.form
   have n2:h2 (c0+1+1)=_:=N.low
   have n3:h2 (c0+1+1+1)=_:=N.high
   have n4:h2 (c0+1+1+1+1)=_:=N.known
   have n5:h2 (c0+1+1+1+1+1)=_:=N.form
   have hrow:∀ g,aq tv g→g<c2∧c0+1+1+1+1+1<g:=fun g hg=>by have:=N.row g hg; omega
   have hT:=N.terms
   rw [List.map_map] at hT
   have e3:((fun z:Int=>[AV.str ⟨#[]⟩,AV.int z]) ∘ fun p:Int×Side=>p.1)=fun p=>[.str ⟨#[]⟩,.int p.1]:=rfl
   rw [e3] at hT
   have hne:aP (ps.map fun p=>[AV.str ⟨#[]⟩,AV.int p.1])=ps.map fun p=>[AV.str ⟨#[]⟩,AV.int p.1]:=bY (fun p=>by rfl) ps
   rcases hT with ⟨rfl,e⟩ | ⟨gt,rfl,hgt⟩
   ·have j3:retH c0 h0 h2=h0:=ay fun k hk=>(j2 k (by omega)).trans (a0 k hk)
    rw [e] at hso
    simp [hv2,n5]
    refine ACalls.pure hso fun c3 hc3=>?_
    cases S
    ·simp [hVe]
     exact j3
    simp [n4]
    cases kn
    ·simp [hVe]
     exact j3
    simp [n2,n3]
    refine ACalls.pure (d6 0 lo hi) fun c4 hc4=>?_
    simp [hVe]
    exact j3
   ·have hgr:=hrow gt (aJ.2 rfl)
    have m2:¬c0+1+1=gt:=by omega
    have m3:¬c0+1+1+1=gt:=by omega
    have m4:¬c0+1+1+1+1=gt:=by omega
    have j3:∀ b,retH c0 h0 (upd h2 gt b)=h0:=fun b=>ay fun k hk=>by rw [ad (by omega)]; exact (j2 k (by omega)).trans (a0 k hk)
    have htk:List.take ps.length (ps.map fun p=>[AV.str ⟨#[]⟩,AV.int p.1])=ps.map fun p=>[AV.str ⟨#[]⟩,AV.int p.1]:=List.take_of_length_le (by simp)
    simp [hv2,n5,hgt,hne,htk]
    refine ACalls.pure hso fun c3 hc3=>?_
    cases S
    ·simp [hVe]
     exact j3 _
    simp [n4,m4]
    cases kn
    ·simp [hVe]
     exact j3 _
    simp [n2,n3,m2,m3]
    refine ACalls.pure (d6 0 lo hi) fun c4 hc4=>?_
    simp [hVe]
    exact j3 _
  ·intro i t ts v2 s' hi ht hl2 hv2 hI
   rw [hInv2] at hI
   obtain ⟨k1,k2⟩:=hI
   obtain ⟨h,c⟩:=s'
   simp only at k1 k2
   have hw1:=ah (x:=(i:Int)+1) (by omega) (by omega)
   obtain ⟨h1,hh1⟩:∃ h1,h1=upd h c (some (.row 2 [[.str t.name,.int t.coef]] .live none)):=⟨_,rfl⟩
   have low1:∀ k,k<c→h1 k=h k:=fun k hk=>by rw [hh1,ad (by omega)]
   have q1:h1 c=_:=(congrFun hh1 c).trans af
   have hlt:=k1.lt
   have hm:h1 gy=some (.map (kvs AV.str (fun s:Side=>AV.agg (Side.dcells s)) y) vy):=by rw [low1 gy (by omega),k2 gy (by omega),a0 gy hgy]; exact my
   have hlk:=oH (s:=⟨h1,c+1⟩) hm t.name
   have hct:=hg.coef t (aR hl2)
   have hneg:IntKind.i64.wrap (-t.coef) = -t.coef:=ah (by omega) (by omega)
   have hpm:=pc (-t.coef,aT y t.name) ⟨by simp only; omega,dz hy t.name⟩ (f.terms.map (fun t=>(t.coef,aT x t.name))++(g.terms.take i).map fun t=>(-t.coef,aT y t.name)) (fun p hp=>by
    rcases List.mem_append.1 hp with hp | hp
    ·obtain ⟨z,hz,rfl⟩:=List.mem_map.1 hp
     have:=hf.coef z hz
     exact ⟨by simp only; omega,dz hx z.name⟩
    ·obtain ⟨z,hz,rfl⟩:=List.mem_map.1 hp
     have:=hg.coef z (List.mem_of_mem_take hz)
     exact ⟨by simp only; omega,dz hy z.name⟩) (by simp; omega) d hdb (c0+1+1) h1 (c+1) (k1.fr low1 (Nat.le_succ _))
   simp only [Side.dcells] at hpm hlk
   simp [hv2,hi,ht,Term.cells]
   rw [←hh1]
   simp [q1,hlk,hneg]
   refine hpm.mono ?_
   rintro av ⟨h3,c3⟩ hc3 ⟨r1,r2⟩
   simp only at r1 r2 hc3
   simp [hv2,hw1]
   rw [hInv2]
   refine ⟨?_,fun k hk=>(r2 k (by omega) (.inl hk)).trans ((low1 k (by omega)).trans (k2 k hk))⟩
   rw [List.take_add_one,List.getElem?_eq_getElem hi,ht,List.map_append,←List.append_assoc]
   exact r1
 ·intro i t ts v s' hi ht hl2 hv hI
  rw [hInv1] at hI
  obtain ⟨i1,i2⟩:=hI
  obtain ⟨h,c⟩:=s'
  simp only at i1 i2
  have hw1:=ah (x:=(i:Int)+1) (by omega) (by omega)
  obtain ⟨h1,hh1⟩:∃ h1,h1=upd h c (some (.row 2 [[.str t.name,.int t.coef]] .live none)):=⟨_,rfl⟩
  have low1:∀ k,k<c→h1 k=h k:=fun k hk=>by rw [hh1,ad (by omega)]
  have q1:h1 c=_:=(congrFun hh1 c).trans af
  have hlt:=i1.lt
  have hm:h1 gx=some (.map (kvs AV.str (fun s:Side=>AV.agg (Side.dcells s)) x) vx):=by rw [low1 gx (by omega),i2 gx (by omega),a0 gx hgx]; exact mx
  have hlk:=oH (s:=⟨h1,c+1⟩) hm t.name
  have hct:=hf.coef t (aR hl2)
  have hpm:=pc (t.coef,aT x t.name) ⟨by simp only; omega,dz hx t.name⟩ ((f.terms.take i).map fun t=>(t.coef,aT x t.name)) (fun p hp=>by
   obtain ⟨z,hz,rfl⟩:=List.mem_map.1 hp
   have:=hf.coef z (List.mem_of_mem_take hz)
   exact ⟨by simp only; omega,dz hx z.name⟩) (by simp; omega) d hdb (c0+1+1) h1 (c+1) (i1.fr low1 (Nat.le_succ _))
  simp only [Side.dcells] at hpm hlk
  simp [hv,hi,ht,Term.cells]
  rw [←hh1]
  simp [q1,hlk]
  refine hpm.mono ?_
  rintro av ⟨h3,c3⟩ hc3 ⟨r1,r2⟩
  simp only at r1 r2 hc3
  simp [hv,hw1]
  rw [hInv1]
  refine ⟨?_,fun k hk=>(r2 k (by omega) (.inl hk)).trans ((low1 k (by omega)).trans (i2 k hk))⟩
  rw [List.take_add_one,List.getElem?_eq_getElem hi,ht,List.map_append]
  exact r1
end Go.Proofs.YtjhogglgkjcacaaGreat
set_option maxRecDepth 20000
set_option maxHeartbeats 4000000
namespace Go.Proofs.YtjhogglgkjcacaaGreat
open Go.AM Go.Wb
def dd (f:Wb.Form) (low high:List Wb.Slot):Int×Int:=if bO f low high=0 then iL f low high else (0,0)
theorem kw {low high:List Wb.Slot} {i:Nat} (h1:i<low.length) (h2:i<high.length) (h:high[i].value<low[i].value):(low.zip high).any (fun p=>decide (p.2.value<p.1.value))=true:=by
 rw [List.any_eq_true]
 exact ⟨(low[i],high[i]),List.mem_iff_getElem.2 ⟨i,by simp; omega,by simp⟩,by simpa using h⟩
theorem vE (f:Wb.Form) (low high:List Wb.Slot) :
  aG Pg Fn24.n [f.av,row (low.map Slot.cells),row (high.map Slot.cells)] (.tup [.int (dd f low high).1,.int (dd f low high).2,.int (bO f low high)]):=by
 rintro ⟨h0,c0⟩
 refine ACalls.small fun hsm=>?_
 have hll:low.length≤68719476736:=by simp [Form.av,Form.cells] at hsm; omega
 have hcf:=oe f
 obtain ⟨A,hA⟩:∃ A,A=(dd f low high).1:=⟨_,rfl⟩
 obtain ⟨B,hB⟩:∃ B,B=(dd f low high).2:=⟨_,rfl⟩
 obtain ⟨E,hE⟩:∃ E,E=bO f low high:=⟨_,rfl⟩
 rw [←hA,←hB,←hE]
 have hbad:E≠0→A=0∧B=0:=fun h=>by rw [hA,hB]; unfold dd; rw [←hE,if_neg h]; exact ⟨rfl,rfl⟩
 have hgood:E=0→A=(iL f low high).1∧B=(iL f low high).2:=fun h=>by rw [hA,hB]; unfold dd; rw [←hE,if_pos h]; exact ⟨rfl,rfl⟩
 clear hA hB
 simp only [Form.av,Form.cells] at hcf
 refine Fn24.calls .frz ?_
 unfold Fn24.ac
 simp [Form.av,Form.cells]
 obtain ⟨h1,hh1⟩:∃ h1,h1=upd h0 c0 (some (.row 2 [[.int f.const,row (f.terms.map Term.cells)]] .live none)):=⟨_,rfl⟩
 have hF1:Fr c0 h0 h1 (c0+1):=by rw [hh1]; exact (Fr.refl _ _).upd (Nat.le_refl _) (Nat.le_succ _)
 have b1:h1 c0=_:=(congrFun hh1 c0).trans af
 rw [←hh1]
 refine ACalls.pure hcf fun c1 hc1=>?_
 by_cases hz:aL f=0
 case neg=>
  have e:E=aL f:=by rw [hE]; unfold bO; rw [if_neg hz]
  have:=hbad (by rw [e]; exact hz)
  simp [hz,e,this]
  exact hF1.retH
 have hok:=ej hz
 have hfl:=hok.len
 simp [hz,bsI,an]
 have hget:∀ (i:Nat) (x:List Wb.Slot) (hi:i<[low,high].length),[low,high][i]=x→([[row (low.map Slot.cells)],[row (high.map Slot.cells)]]:List (List AV))[i]?=some [row (x.map Slot.cells)]:=by
  intro i x hi hx
  show ([low,high].map fun n=>[row (n.map Slot.cells)])[i]?=_
  rw [List.getElem?_map,List.getElem?_eq_getElem hi,hx]; rfl
 obtain ⟨Inv,hInv⟩:∃ Inv:Nat→List (List Wb.Slot)→Slots→Prop,Inv=fun (i:Nat) r sl=>∀ z∈[low,high].take i,bo ⟨#[]⟩ z=0:=⟨_,rfl⟩
 refine bK 33 Fn24.W0 [low,high] Inv (by rfl) (by rfl) ?_ ?_ ?_
 ·rw [hInv]; simp
 rotate_left
 ·intro i x xs v c hi hx hl hv hc hI
  rw [hInv] at hI
  have hg:=hget i x hi hx
  have hi2:i<2:=hi
  have hi':(i:Int)<2:=by omega
  have hw:=ah (x:=(i:Int)+1) (by omega) (by omega)
  obtain ⟨_,hg2⟩:=List.getElem?_eq_some_iff.1 hg
  simp [hv,hi2,hi',hg2]
  refine ACalls.pure (vN x) fun c2 hc2=>?_
  by_cases hp:bo ⟨#[]⟩ x=0
  ·simp [hp,hv,hw]
   refine ⟨by omega,?_⟩
   rw [hInv]
   intro z hzm
   rw [List.take_add_one,List.getElem?_eq_getElem hi,hx,List.mem_append] at hzm
   rcases hzm with hzm | hzm
   ·exact hI z hzm
   ·rw [Option.toList_some,List.mem_singleton] at hzm; rw [hzm]; exact hp
  ·have e:E=bo ⟨#[]⟩ x:=by
    rw [hE]; unfold bO; rw [if_pos hz]
    have h01:i=0∨i=1:=by omega
    rcases h01 with rfl | rfl
    ·simp only [List.getElem_cons_zero] at hx; rw [hx,if_neg hp]
    ·have:=hI low (by simp)
     simp only [List.getElem_cons_succ,List.getElem_cons_zero] at hx
     rw [if_pos this,hx,if_neg hp]
   have:=hbad (by rw [e]; exact hp)
   simp [hp,e,this]
   exact hF1.retH
 intro v c hv hc hI
 rw [hInv] at hI
 have p1:=hI low (by simp)
 have p2:=hI high (by simp)
 have hv2:v 33=.int 2:=hv
 simp [hv2]
 refine ACalls.pure (eo Fn83.n vO low high) fun c2 hc2=>?_
 by_cases hnm:low.map (·.name)=high.map (·.name)
 case neg=>
  have e:E=3:=by rw [hE]; unfold bO; rw [if_pos hz,if_pos p1,if_pos p2,if_neg hnm]
  have:=hbad (by rw [e]; decide)
  simp [hnm,e,this]
  exact hF1.retH
 have hnd:=kj p1
 have hlen:low.length=high.length:=by have:=congrArg List.length hnm; simpa using this
 simp [hnm]
 obtain ⟨hm,hhm⟩:∃ hm,hm=upd h1 c2 (some (.map [] c2)):=⟨_,rfl⟩
 have lowm:∀ k,k<c2→hm k=h1 k:=fun k hk=>by rw [hhm,ad (by omega)]
 have mm0:hm c2=_:=(congrFun hhm c2).trans af
 rw [←hhm]
 have hcc:c0+1≤c2:=by omega
 have hbot:∀ h:Heap,(∀ k,k<c2→h k=h1 k)→retH c0 h0 h=h0:=fun h hh=>ay fun k hk=>by rw [hh k (by omega)]; exact hF1.h k hk
 obtain ⟨Inv1,hInv1⟩:∃ Inv:Nat→List Wb.Slot→Slots→St→Prop,Inv=fun (i:Nat) r sl s'=>∃ ver,s'.h c2=some (.map (kvs AV.str (fun s:Side=>AV.agg (Side.dcells s)) (gO [] ((low.zip high).take i))) ver)∧c2<s'.c∧(∀ k,k<c2→s'.h k=h1 k)∧∀ p∈(low.zip high).take i,¬p.2.value<p.1.value:=⟨_,rfl⟩
 refine bz 50 Fn24.W1 low Inv1 (by rfl) (by rfl) ?_ ?_ ?_
 ·rw [hInv1]; exact ⟨by simp,c2,by simpa [gO,kvs] using mm0,by show c2<c2+1; omega,lowm,by simp⟩
 rotate_left
 ·intro i x xs v s' hi hx hl2 hv hI
  rw [hInv1] at hI
  obtain ⟨ver,i1,i2,i3,i4⟩:=hI
  obtain ⟨h,c⟩:=s'
  simp only at i1 i2 i3
  have hw:=ah (x:=(i:Int)+1) (by omega) (by omega)
  have hih:i<high.length:=by omega
  obtain ⟨h2,hh2⟩:∃ h2,h2=upd h c (some (.row 2 [[.str x.name,.int x.value]] .live none)):=⟨_,rfl⟩
  have low2:∀ k,k<c→h2 k=h k:=fun k hk=>by rw [hh2,ad (by omega)]
  have q2:h2 c=_:=(congrFun hh2 c).trans af
  have r2:=(low2 c2 i2).trans i1
  have hzi:(low.zip high).take (i+1)=(low.zip high).take i++[(x,high[i])]:=by
   rw [List.take_add_one,List.getElem?_eq_getElem (by simp; omega)]
   simp [hx]
  have hmu:muI (.one .str) (.map c2) (.str x.name) (.agg [.int x.value,.int high[i].value,.bool true]) ⟨h2,c+1⟩=some ⟨upd h2 c2 (some (.map (kvs AV.str (fun s:Side=>AV.agg (Side.dcells s)) (cB (gO [] ((low.zip high).take i)) x.name (j7 x high[i]))) (c+1))),c+1+1⟩:=
   kL fp (f:=fun s:Side=>AV.agg (Side.dcells s)) (s:=⟨h2,c+1⟩) r2 x.name (j7 x high[i])
  simp [hv,hi,hx,Slot.cells]
  rw [←hh2]
  by_cases hlt:high[i].value<x.value
  ·have e:E=1:=by
    rw [hE]; unfold bO; rw [if_pos hz,if_pos p1,if_pos p2,if_pos hnm,if_pos (kw hi hih (by rw [hx]; exact hlt))]
   have:=hbad (by rw [e]; decide)
   simp [q2,hih,Slot.cells,hlt,e,this]
   exact hbot _ fun k hk=>(low2 k (by omega)).trans (i3 k hk)
  ·simp [q2,hih,Slot.cells,hlt,aI,hmu,hv,hw]
   rw [hInv1]
   refine ⟨c+1,?_,by show c2<c+1+1; omega,fun k hk=>?_,fun p hp=>?_⟩
   ·rw [hzi]
    show upd h2 c2 _ c2=_
    rw [af]; simp [gO]
   ·show upd h2 c2 _ k=_
    rw [ad (by omega)]; exact (low2 k (by omega)).trans (i3 k hk)
   ·rw [hzi,List.mem_append] at hp
    rcases hp with hp | hp
    ·exact i4 p hp
    ·rw [List.mem_singleton] at hp; rw [hp]; exact hlt
 intro v s' hv hI
 rw [hInv1] at hI
 obtain ⟨ver,i1,i2,i3,i4⟩:=hI
 obtain ⟨h,c⟩:=s'
 have htz:(low.zip high).take low.length=low.zip high:=List.take_of_length_le (by simp; omega)
 rw [htz] at i1 i4
 simp only at i1 i2 i3
 obtain ⟨M,hM⟩:∃ M,M=gO [] (low.zip high):=⟨_,rfl⟩
 rw [←hM] at i1
 have hMs:∀ p∈M,SideOk p.2:=by
  rw [hM]
  refine nJ _ _ (fun p hp=>?_) (by simp)
  have:=List.of_mem_zip hp
  exact ⟨((fF p1).1 _ this.1).2,((fF p2).1 _ this.2).2⟩
 have hany:(low.zip high).any (fun p=>decide (p.2.value<p.1.value))=false:=by
  rw [List.any_eq_false]; intro p hp; simpa using i4 p hp
 have bf:=(i3 c0 (by omega)).trans b1
 simp [hv,bf]
 refine bq 78 Fn24.W2 f.terms (fun (i:Nat) r sl s'=>∀ t∈f.terms.take i,(cu M t.name).isSome=true) (by rfl) (by rfl) ?_ ?_ ?_
 ·simp
 rotate_left
 ·intro i t ts v2 h2 c3 hi ht hl2 hv2 hF hI
  have hw:=ah (x:=(i:Int)+1) (by omega) (by omega)
  have hcc2:=hF.c
  obtain ⟨h3,hh3⟩:∃ h3,h3=upd h2 c3 (some (.row 2 [[.str t.name,.int t.coef]] .live none)):=⟨_,rfl⟩
  have hF3:Fr c h h3 (c3+1):=by rw [hh3]; exact hF.upd hcc2 (Nat.le_succ _)
  have q3:h3 c3=_:=(congrFun hh3 c3).trans af
  have r3:=(hF3.h c2 i2).trans i1
  have hlk:lkI (.one .str) (.agg [.int 0,.int 0,.bool false]) true (.map c2) (.str t.name) ⟨h3,c3+1⟩=some (.tup [.agg [.int (aT M t.name).low,.int (aT M t.name).high,.bool ((aT M t.name).lo&&(aT M t.name).hi)],.bool (cu M t.name).isSome]):=by
   rw [kJ fp (f:=fun s:Side=>AV.agg (Side.dcells s)) (z:=.agg [.int 0,.int 0,.bool false]) (ok:=true) (s:=⟨h3,c3+1⟩) r3 t.name]
   unfold aT
   cases cu M t.name <;> rfl
  simp [hv2,hi,ht,Term.cells]
  rw [←hh3]
  cases hs:(cu M t.name).isSome
  ·rw [hs] at hlk
   have e:E=8:=by
    rw [hE]; unfold bO
    rw [if_pos hz,if_pos p1,if_pos p2,if_pos hnm,hany]
    have:f.terms.any (fun t=>(bn low t.name).isNone)=true:=by
     rw [List.any_eq_true]
     refine ⟨t,aR hl2,?_⟩
     have:=(kQ t.name hnm hnd).2.2
     rw [←hM,hs] at this
     simpa using this.symm
    rw [this]; rfl
   have:=hbad (by rw [e]; decide)
   simp [q3,hlk,e,this,aI]
   exact hbot _ fun k hk=>by rw [ad (by omega),hF3.h k (by omega)]; exact i3 k hk
  ·rw [hs] at hlk
   simp [q3,hlk,hv2,hw,aI]
   refine ⟨hF3.upd (by omega) (Nat.le_succ _),fun z hz2=>?_⟩
   rw [List.take_add_one,List.getElem?_eq_getElem hi,ht,List.mem_append] at hz2
   rcases hz2 with hz2 | hz2
   ·exact hI z hz2
   ·rw [Option.toList_some,List.mem_singleton] at hz2; rw [hz2]; exact hs
 intro v2 h2 c3 hv2 hF hI
 rw [List.take_length] at hI
 have e:E=0:=by
  rw [hE]; unfold bO
  rw [if_pos hz,if_pos p1,if_pos p2,if_pos hnm,hany]
  have:f.terms.any (fun t=>(bn low t.name).isNone)=false:=by
   rw [List.any_eq_false]
   intro t ht
   have:=(kQ t.name hnm hnd).2.2
   rw [←hM,hI t ht] at this
   cases h:bn low t.name
   ·rw [h] at this; cases this
   ·simp
  rw [this]; rfl
 obtain ⟨eA,eB⟩:=hgood e
 rw [←u9 f hnm hnd,←hM] at eA eB
 have bf2:=(hF.h c0 (by omega)).trans bf
 have bM:=(hF.h c2 i2).trans i1
 simp [hv2,bf2]
 obtain ⟨ψ,hψ⟩:∃ ψ:Wb.Term→Int×Int×Int,ψ=fun t=>(t.coef,(aT M t.name).low,(aT M t.name).high):=⟨_,rfl⟩
 have hψb:∀ (l:List Wb.Term),(∀ t∈l,t∈f.terms)→∀ p∈l.map ψ,-1000000000000≤cM (p.1*p.2.1) (p.1*p.2.2)∧cM (p.1*p.2.1) (p.1*p.2.2)≤1000000000000 ∧ -1000000000000≤cL (p.1*p.2.1) (p.1*p.2.2)∧cL (p.1*p.2.1) (p.1*p.2.2)≤1000000000000:=by
  intro l hl p hp
  obtain ⟨t,ht,rfl⟩:=List.mem_map.1 hp
  rw [hψ]
  have hs:=dz hMs t.name
  have hc:=hok.coef t (hl t ht)
  have m1:=dk (a:=t.coef) (by omega) hs.low
  have m2:=dk (a:=t.coef) (by omega) hs.high
  simp only [cM,cL]
  refine ⟨?_,?_,?_,?_⟩ <;> split <;> omega
 refine bq 99 Fn24.W3 f.terms (fun (i:Nat) r sl s'=>sl 20=.int (aZ ((f.terms.take i).map ψ) f.const f.const).1∧sl 21=.int (aZ ((f.terms.take i).map ψ) f.const f.const).2) (by rfl) (by rfl) ?_ ?_ ?_
 ·simp [aZ]
 ·intro v3 h4 c4 hv3 hF4 hI3
  rw [List.take_length] at hI3
  obtain ⟨k1,k2⟩:=hI3
  simp at k1 k2
  have e1:(aZ (f.terms.map ψ) f.const f.const).1=A:=by rw [eA,hψ]; rfl
  have e2:(aZ (f.terms.map ψ) f.const f.const).2=B:=by rw [eB,hψ]; rfl
  simp [hv3,k1,k2,e1,e2,e]
  exact hbot _ fun k hk=>by rw [hF4.h k (by have:=hF.c; omega),hF.h k (by omega)]; exact i3 k hk
 ·intro i t ts v3 h4 c4 hi ht hl2 hv3 hF4 hI3
  obtain ⟨k1,k2⟩:=hI3
  have hw:=ah (x:=(i:Int)+1) (by omega) (by omega)
  have hcc4:=hF4.c
  obtain ⟨h5,hh5⟩:∃ h5,h5=upd h4 c4 (some (.row 2 [[.str t.name,.int t.coef]] .live none)):=⟨_,rfl⟩
  have hF5:Fr c3 h2 h5 (c4+1):=by rw [hh5]; exact hF4.upd hcc4 (Nat.le_succ _)
  have q5:h5 c4=_:=(congrFun hh5 c4).trans af
  have r5:=(hF5.h c2 (by have:=hF.c; omega)).trans bM
  have hlk:=oH (s:=⟨h5,c4+1⟩) r5 t.name
  have hsb:=gA ((f.terms.take i).map ψ) f.const f.const 1000000 (hψb _ fun t ht=>List.mem_of_mem_take ht) hok.const.1 hok.const.2 hok.const.1 hok.const.2
  have hln:((f.terms.take i).map ψ).length≤12:=by have:=hok.len; simp; omega
  have hct:=hok.coef t (aR hl2)
  have hre:=rB (aT M t.name) (dz hMs t.name) t.coef (aZ ((f.terms.take i).map ψ) f.const f.const).1 (aZ ((f.terms.take i).map ψ) f.const f.const).2 (by omega) (by omega) (by omega)
  have htk:aZ ((f.terms.take (i+1)).map ψ) f.const f.const=((aZ ((f.terms.take i).map ψ) f.const f.const).1+cM (t.coef*(aT M t.name).low) (t.coef*(aT M t.name).high),(aZ ((f.terms.take i).map ψ) f.const f.const).2+cL (t.coef*(aT M t.name).low) (t.coef*(aT M t.name).high)):=by
   rw [List.take_add_one,List.getElem?_eq_getElem hi,ht,List.map_append,Option.toList_some,List.map_cons,List.map_nil,ic,hψ]
  obtain ⟨a,ha⟩:∃ a,a=(aZ ((f.terms.take i).map ψ) f.const f.const).1:=⟨_,rfl⟩
  obtain ⟨b,hb⟩:∃ b,b=(aZ ((f.terms.take i).map ψ) f.const f.const).2:=⟨_,rfl⟩
  rw [←ha] at k1 hre htk
  rw [←hb] at k2 hre htk
  simp at k1 k2
  simp only [Side.dcells] at hre hlk
  simp [hv3,hi,ht,Term.cells]
  rw [←hh5]
  simp [q5,hlk,k1,k2]
  refine ACalls.pure hre fun c6 hc6=>?_
  simp [hv3,hw]
  refine ⟨hF5.trans (Fr.le hc6),?_,?_⟩ <;> rw [←List.map_take,htk]
end Go.Proofs.YtjhogglgkjcacaaGreat
set_option maxRecDepth 20000
set_option maxHeartbeats 4000000
namespace Go.Proofs.YtjhogglgkjcacaaGreat
open Go.AM Go.Wb
theorem jh {p:Wb.Prog} {a b:ByteArray} (h:ct p a b≠0):ew p a b=false:=by unfold ew; rw [if_neg h]
theorem vH (p:Wb.Prog) (hcnt:aB p.steps≤300) (a b:ByteArray):aG Pg Fn29.n [p.av,.str a,.str b] (.tup [.bool (ew p a b),.int (ct p a b)]):=by
 rintro ⟨h0,c0⟩
 have hck:=vW p (by omega)
 have hst:=fun hz key=>vX p hz hcnt key
 simp only [Prog.av] at hck hst
 obtain ⟨V,hV⟩:∃ V,V=ew p a b:=⟨_,rfl⟩
 obtain ⟨E,hE⟩:∃ E,E=ct p a b:=⟨_,rfl⟩
 have hbad:E≠0→V=false:=fun h=>by rw [hV]; exact jh (by rw [←hE]; exact h)
 rw [←hV,←hE]
 refine Fn29.calls .frz ?_
 unfold Fn29.ac
 obtain ⟨hA,hhA⟩:∃ hA,hA=upd h0 c0 (some (.row 2 [[row (p.arrays.map Array.cells),row (p.steps.map Step.cells)]] .live none)):=⟨_,rfl⟩
 have hFA:Fr c0 h0 hA (c0+1):=by rw [hhA]; exact (Fr.refl _ _).upd (Nat.le_refl _) (Nat.le_succ _)
 have bA:hA c0=_:=(congrFun hhA c0).trans af
 simp [Prog.av]
 rw [←hhA]
 refine ACalls.pure hck fun c1 hc1=>?_
 by_cases hz:aW p=0
 case neg=>
  have e:E=aW p:=by rw [hE]; unfold ct; rw [if_neg hz]
  have:=hbad (by rw [e]; exact hz)
  simp [hz,e,this]
  exact hFA.retH
 simp [hz]
 refine ACalls.pure (ie a) fun c2 hc2=>?_
 cases hna:bh a
 ·have e:E=5:=by rw [hE]; unfold ct; rw [if_pos hz,if_neg (by simp [hna])]
  have:=hbad (by rw [e]; decide)
  simp [e,this]
  exact hFA.retH
 simp
 refine ACalls.pure (ie b) fun c3 hc3=>?_
 cases hnb:bh b
 ·have e:E=5:=by rw [hE]; unfold ct; rw [if_pos hz,if_neg (by simp [hnb])]
  have:=hbad (by rw [e]; decide)
  simp [e,this]
  exact hFA.retH
 simp [bA]
 refine ACalls.pure (hst hz a) fun c4 hc4=>?_
 obtain ⟨y,hy⟩:∃ y,y=jb p a:=⟨_,rfl⟩
 obtain ⟨z,hzz⟩:∃ z,z=jb p b:=⟨_,rfl⟩
 have hst2:=hst hz b
 rw [←hzz] at hst2
 rw [←hy]
 have ha1:=fun hr=>pG y.1 hr
 have ha2:=fun hr=>pG z.1 hr
 have hy':=hy
 have hzz':=hzz
 obtain ⟨⟨k1,n1,lo1,hi1,cs1,bd1,ar1,sb1,⟨o1,m1,f1,ea1,es1,as1⟩⟩,L1⟩:=y
 obtain ⟨⟨k2,n2,lo2,hi2,cs2,bd2,ar2,sb2,⟨o2,m2,f2,ea2,es2,as2⟩⟩,L2⟩:=z
 rw [Step.av_mk] at ha1 ha2
 simp only [Step.cells_mk] at hst2
 obtain ⟨hB,hhB⟩:∃ hB,hB=upd hA c4 (some (.row 15 [(Wb.Step.mk k1 n1 lo1 hi1 cs1 bd1 ar1 sb1 (.mk o1 m1 f1 ea1 es1 as1)).cells] .live none)):=⟨_,rfl⟩
 have lB:∀ k,k<c4→hB k=hA k:=fun k hk=>by rw [hhB,ad (by omega)]
 have bB:hB c4=_:=(congrFun hhB c4).trans af
 rw [Step.cells_mk] at hhB bB
 simp [Step.cells_mk]
 rw [←hhB]
 simp [lB c0 (by omega),bA]
 refine ACalls.pure hst2 fun c5 hc5=>?_
 obtain ⟨hC,hhC⟩:∃ hC,hC=upd hB c5 (some (.row 15 [(Wb.Step.mk k2 n2 lo2 hi2 cs2 bd2 ar2 sb2 (.mk o2 m2 f2 ea2 es2 as2)).cells] .live none)):=⟨_,rfl⟩
 have lC:∀ k,k<c5→hC k=hB k:=fun k hk=>by rw [hhC,ad (by omega)]
 have bC:hC c5=_:=(congrFun hhC c5).trans af
 rw [Step.cells_mk] at hhC bC
 have hlow:∀ h:Heap,(∀ k,k<c4→h k=hC k)→retH c0 h0 h=h0:=fun h hh=>ay fun k hk=>by rw [hh k (by omega),lC k (by omega),lB k (by omega)]; exact hFA.h k hk
 simp
 rw [←hhC]
 cases hsa:ck p a with
 | none=>
  have e:E=8:=by rw [hE]; unfold ct; rw [if_pos hz,if_pos ⟨hna,hnb⟩,if_neg (by simp [hsa])]
  have:=hbad (by rw [e]; decide)
  simp [e,this]
  exact hlow _ fun _ _=>rfl
 | some u=>
 cases hsb:ck p b with
 | none=>
  have e:E=8:=by rw [hE]; unfold ct; rw [if_pos hz,if_pos ⟨hna,hnb⟩,if_neg (by simp [hsb])]
  have:=hbad (by rw [e]; decide)
  simp [e,this]
  exact hlow _ fun _ _=>rfl
 | some w=>
 have e:E=0:=by rw [hE]; unfold ct; rw [if_pos hz,if_pos ⟨hna,hnb⟩,if_pos (by simp [hsa,hsb])]
 have hVe:V=jr u w:=by rw [hV]; unfold ew; rw [←hE,if_pos e,hsa,hsb]
 have hu:u=(.mk k1 n1 lo1 hi1 cs1 bd1 ar1 sb1 (.mk o1 m1 f1 ea1 es1 as1),L1):=by rw [hy']; unfold jb; rw [hsa]; rfl
 have hw:w=(.mk k2 n2 lo2 hi2 cs2 bd2 ar2 sb2 (.mk o2 m2 f2 ea2 es2 as2),L2):=by rw [hzz']; unfold jb; rw [hsb]; rfl
 have ou:=gM hz hsa
 have ow:=gM hz hsb
 have au:=jH ou
 have aw:=jH ow
 have lu:=iM ou
 have lw:=iM ow
 rw [hu] at ou au lu hVe
 rw [hw] at ow aw lw hVe
 obtain ⟨A,hAA⟩:∃ A,A=dH (Wb.Step.mk k1 n1 lo1 hi1 cs1 bd1 ar1 sb1 (.mk o1 m1 f1 ea1 es1 as1)):=⟨_,rfl⟩
 obtain ⟨B,hBB⟩:∃ B,B=dH (Wb.Step.mk k2 n2 lo2 hi2 cs2 bd2 ar2 sb2 (.mk o2 m2 f2 ea2 es2 as2)):=⟨_,rfl⟩
 obtain ⟨x,hx⟩:∃ x,x=cz L1:=⟨_,rfl⟩
 obtain ⟨y,hy⟩:∃ y,y=cz L2:=⟨_,rfl⟩
 obtain ⟨nn1,hn1⟩:∃ n,n=cS L1:=⟨_,rfl⟩
 obtain ⟨nn2,hn2⟩:∃ n,n=cS L2:=⟨_,rfl⟩
 have hVf:V=A.all fun a=>B.all fun b=>ci x y (nn1||nn2) a b:=by rw [hVe,hAA,hBB,hx,hy,hn1,hn2]; rfl
 simp only [←hAA] at au lu ha1
 simp only [←hBB] at aw lw ha2
 have ha1:=ha1 ou.nr
 have ha2:=ha2 ow.nr
 have hxs:∀ p∈x,SideOk p.2:=by rw [hx]; exact ja ou.loops
 have hys:∀ p∈y,SideOk p.2:=by rw [hy]; exact ja ow.loops
 have hl1:=ou.len
 have hl2:=ow.len
 simp only at hl1 hl2
 simp [e]
 refine (rG L1 ou.loops (by omega) hC (c5+1)).mono ?_
 rintro av ⟨hD,c6⟩ hc6 ⟨gx,vx,rfl,gx1,gx2,mx,hFD⟩
 simp only at hc6 gx2 mx hFD
 rw [←hx] at mx
 simp [←hn1]
 refine (rG L2 ow.loops (by omega) hD c6).mono ?_
 rintro av ⟨hG,c7⟩ hc7 ⟨gy,vy,rfl,gy1,gy2,my,hFG⟩
 simp only at hc7 gy2 my hFG
 rw [←hy] at my
 have mx2:=(hFG.h gx gx2).trans mx
 have bB2:hG c4=_:=(hFG.h c4 (by omega)).trans ((hFD.h c4 (by omega)).trans ((lC c4 (by omega)).trans bB))
 have bC2:hG c5=_:=(hFG.h c5 (by omega)).trans ((hFD.h c5 (by omega)).trans bC)
 have hlow2:∀ h:Heap,(∀ k,k<c7→h k=hG k)→retH c0 h0 h=h0:=fun h hh=>hlow h fun k hk=>by rw [hh k (by omega),hFG.h k (by omega),hFD.h k (by omega)]
 simp [←hn2,bB2]
 refine ACalls.pure ha1 fun c8 hc8=>?_
 simp
 refine bq 71 Fn29.W0 A (fun (i:Nat) r sl s'=>V=r.all fun a=>B.all fun b=>ci x y (nn1||nn2) a b) (by rfl) (by rfl) ?_ ?_ ?_
 ·exact ⟨by simp,hVf⟩
 ·intro v h c hv hF hI
  simp at hI
  simp [hv,hI]
  exact hlow2 _ fun k hk=>hF.h k (by omega)
 ·intro i a rs v h c hi hax hl hv hF hI
  have hw1:=ah (x:=(i:Int)+1) (by omega) (by omega)
  have hcF:=hF.c
  have oa:=au a (aR hl)
  obtain ⟨arr,subs,sets⟩:=a
  obtain ⟨h1,hh1⟩:∃ h1,h1=upd h c (some (.row 3 [[.str arr,row (subs.map Form.cells),.bool sets]] .live none)):=⟨_,rfl⟩
  have hF1:Fr c8 hG h1 (c+1):=by rw [hh1]; exact hF.upd hcF (Nat.le_succ _)
  have q1:h1 c=_:=(congrFun hh1 c).trans af
  have bC3:=(hF1.h c5 (by omega)).trans bC2
  simp [hv,hi,hax,AccW.cells]
  rw [←hh1]
  simp [bC3]
  refine ACalls.pure ha2 fun c9 hc9=>?_
  simp
  obtain ⟨rest,hrest⟩:∃ rest,rest=rs.all fun a=>B.all fun b=>ci x y (nn1||nn2) a b:=⟨_,rfl⟩
  simp only [List.all_cons] at hI
  rw [←hrest] at hI
  refine bq 78 Fn29.W1 B (fun (j:Nat) r sl s'=>V=((r.all fun b=>ci x y (nn1||nn2) ⟨arr,subs,sets⟩ b)&&rest)) (by rfl) (by rfl) ?_ ?_ ?_
  ·exact ⟨by simp,hI⟩
  ·intro v2 h2 c10 hv2 hF2 hI2
   simp at hI2
   simp [hv2,hv,hw1]
   exact ⟨hF1.trans ((Fr.le hc9).trans hF2),by rw [hI2,hrest]⟩
  ·intro j b bs v2 h2 c10 hj hbx hl2 hv2 hF2 hI2
   have hw2:=ah (x:=(j:Int)+1) (by omega) (by omega)
   have hcF2:=hF2.c
   have ob:=aw b (aR hl2)
   obtain ⟨arr2,subs2,sets2⟩:=b
   obtain ⟨h3,hh3⟩:∃ h3,h3=upd h2 c10 (some (.row 3 [[.str arr2,row (subs2.map Form.cells),.bool sets2]] .live none)):=⟨_,rfl⟩
   have hF3:Fr c9 h1 h3 (c10+1):=by rw [hh3]; exact hF2.upd hcF2 (Nat.le_succ _)
   have q3:h3 c10=_:=(congrFun hh3 c10).trans af
   have q1':=(hF3.h c (by omega)).trans q1
   have ne1:¬c10=c:=by omega
   have ne2:¬c=c10:=by omega
   simp only [List.all_cons] at hI2
   simp [hv2,hj,hbx,AccW.cells]
   rw [←hh3]
   have hcont:ci x y (nn1||nn2) ⟨arr,subs,sets⟩ ⟨arr2,subs2,sets2⟩=true→V=((bs.all fun b=>ci x y (nn1||nn2) ⟨arr,subs,sets⟩ b)&&rest):=fun hp=>by rw [hI2,hp,Bool.true_and]
   by_cases har:arr=arr2
   case neg=>
    have hp:ci x y (nn1||nn2) ⟨arr,subs,sets⟩ ⟨arr2,subs2,sets2⟩=true:=by simp [ci,har]
    simp [q3,q1',har,hv2,hw2]
    exact ⟨hF3,hcont hp⟩
   subst har
   by_cases hss:sets=false∧sets2=false
   ·obtain ⟨rfl,rfl⟩:=hss
    have hp:ci x y (nn1||nn2) ⟨arr,subs,false⟩ ⟨arr,subs2,false⟩=true:=by simp [ci]
    simp [q3,q1',hv2,hw2]
    exact ⟨hF3,hcont hp⟩
   by_cases hn:(nn1||nn2)=true
   ·have hp:ci x y (nn1||nn2) ⟨arr,subs,sets⟩ ⟨arr,subs2,sets2⟩=true:=by simp [ci,hn]
    have hres:=hcont hp
    cases sets <;> cases sets2 <;> cases nn1 <;> cases nn2 <;> first | (exfalso; simp at hss hn; done) | (simp [q3,q1',hv2,hw2]; exact ⟨hF3,hres⟩)
   obtain ⟨rfl,rfl⟩:nn1=false∧nn2=false:=by cases nn1 <;> cases nn2 <;> simp at hn ⊢
   have hsl:=nH oa ob
   simp only at hsl
   have hpe:ci x y (false||false) ⟨arr,subs,sets⟩ ⟨arr,subs2,sets2⟩=(subs.zip subs2).any fun p=>df x y p.1 p.2:=by
    cases sets <;> cases sets2 <;> first | (exfalso; simp at hss; done) | simp [ci]
   have hfull:(subs.zip subs2).take subs.length=subs.zip subs2:=List.take_of_length_le (by simp; omega)
   have hk3:∀ k,k<c7→h3 k=hG k:=fun k hk=>(hF3.h k (by omega)).trans (hF1.h k (by omega))
   have mx3:=(hk3 gx (by omega)).trans mx2
   have my3:=(hk3 gy (by omega)).trans my
   have hsub4:subs.length≤4:=by
    have oa':ek p.arrays arr subs:=oa
    obtain ⟨_,aa,h1,_,_,h4,_⟩:=oa'
    have:=((mH hz).arrays aa (List.mem_of_getElem? h1)).len
    omega
   have of1:∀ f∈subs,OkForm f:=by obtain ⟨_,_,_,_,_,_,h5⟩:=oa; exact h5
   have of2:∀ f∈subs2,OkForm f:=by obtain ⟨_,_,_,_,_,_,h5⟩:=ob; exact h5
   cases sets <;> cases sets2 <;> first | (exfalso; simp at hss; done) | skip
   all_goals
    simp [q3,q1']
    refine bq 106 Fn29.W2 subs (fun (k:Nat) r sl s'=>sl 23=.bool (((subs.zip subs2).take k).any fun p=>df x y p.1 p.2)) (by rfl) (by rfl) ?_ ?_ ?_
    ·simp
    ·intro v4 h4 c11 hv4 hF4 hI4
     rw [hfull] at hI4
     cases hany:(subs.zip subs2).any fun p=>df x y p.1 p.2 with
     | false=>
      rw [hany] at hpe hI4
      rw [hpe,Bool.false_and,Bool.false_and] at hI2
      simp at hI4
      simp [hv4,hI4,hI2]
      exact hlow2 _ fun k hk=>(hF4.h k (by omega)).trans (hk3 k hk)
     | true=>
      rw [hany] at hpe hI4
      simp at hI4
      simp [hv4,hI4,hv2,hw2]
      exact ⟨hF3.trans hF4,hcont hpe⟩
    ·intro k f fs v4 h4 c11 hk hfx hl4 hv4 hF4 hI4
     have hcF4:=hF4.c
     have hk2:k<subs2.length:=by omega
     have hw4:=ah (x:=(k:Int)+1) (by omega) (by omega)
     have q3':=(hF4.h c10 (by omega)).trans q3
     have q1'':=(hF4.h c (by omega)).trans q1'
     have htk:(subs.zip subs2).take (k+1)=(subs.zip subs2).take k++[(f,subs2[k])]:=by
      rw [List.take_add_one,List.getElem?_eq_getElem (by simp; omega)]
      simp [hfx]
     have hnv:=tJ f subs2[k] (of1 f (aR hl4)) (of2 _ (List.getElem_mem hk2)) x y hxs hys gx gy vx vy h4 c11 (by omega) (by omega) ((hF4.h gx (by omega)).trans mx3) ((hF4.h gy (by omega)).trans my3)
     simp only [Form.av,Form.cells] at hnv
     cases hany:((subs.zip subs2).take k).any fun p=>df x y p.1 p.2 with
     | false=>
      rw [hany] at hI4
      simp at hI4
      simp [hv4,hI4,q3',q1'',hk,hfx,hk2,Form.cells]
      refine ACalls.at hnv fun c12 hc12=>?_
      simp [hv4,hw4]
      refine ⟨hF4.trans (Fr.le hc12),?_⟩
      rw [htk,List.any_append,hany]; simp
     | true=>
      rw [hany] at hI4
      simp at hI4
      simp [hv4,hI4,hw4,hk]
      obtain ⟨q,hq,hq2⟩:=List.any_eq_true.1 hany
      exact ⟨hF4,q.1,q.2,by rw [htk]; exact List.mem_append_left _ hq,hq2⟩
end Go.Proofs.YtjhogglgkjcacaaGreat
set_option maxRecDepth 20000
set_option maxHeartbeats 4000000
namespace Go.Proofs.YtjhogglgkjcacaaGreat
open Go.AM Go.Wb
theorem rF (f:Wb.Form) (hl:f.terms.length≤24) (hc:-2000000≤f.const∧f.const≤2000000) (ht:∀ t∈f.terms,-1000000≤t.coef∧t.coef≤1000000) (F:Nat) (a b:List AV) (φ:ByteArray→Int×Int)
  (hφ:∀ n,(-1000000≤(φ n).1∧(φ n).1≤1000000)∧(-1000000≤(φ n).2∧(φ n).2≤1000000)) (J:Nat→Heap→Prop) (h0:Heap) (c0:Nat)
  (hfr:∀ i h h',J i h→(∀ k,k<c0→h' k=h k)→J i h')
  (hstep:∀ (i:Nat) (t:Wb.Term) (h:Heap) (c:Nat),f.terms[i]?=some t→c0≤c→J i h→ACalls Pg F (a++.str t.name::b) ⟨h,c⟩ fun r s'=>r=.tup [.int (φ t.name).1,.int (φ t.name).2]∧J (i+1) s'.h∧∀ k,c0≤k→k<c→s'.h k=h k)
  (hJ:J 0 h0) :
  ACalls Pg Fn94.n [f.av,.fn (.func F) a b] ⟨h0,c0⟩ fun av s'=>av=.tup [.int (aZ (f.terms.map fun t=>(t.coef,(φ t.name).1,(φ t.name).2)) f.const f.const).1,.int (aZ (f.terms.map fun t=>(t.coef,(φ t.name).1,(φ t.name).2)) f.const f.const).2]∧J f.terms.length s'.h:=by
 refine Fn94.calls .frz ?_
 unfold Fn94.ac
 obtain ⟨ψ,hψ⟩:∃ ψ:Wb.Term→Int×Int×Int,ψ=fun t=>(t.coef,(φ t.name).1,(φ t.name).2):=⟨_,rfl⟩
 rw [←hψ]
 have hψb:∀ (l:List Wb.Term),(∀ t∈l,t∈f.terms)→∀ p∈l.map ψ,-1000000000000≤cM (p.1*p.2.1) (p.1*p.2.2)∧cM (p.1*p.2.1) (p.1*p.2.2)≤1000000000000 ∧ -1000000000000≤cL (p.1*p.2.1) (p.1*p.2.2)∧cL (p.1*p.2.1) (p.1*p.2.2)≤1000000000000:=by
  intro l hl p hp
  obtain ⟨t,ht2,rfl⟩:=List.mem_map.1 hp
  rw [hψ]
  have hs:=hφ t.name
  have hc:=ht t (hl t ht2)
  have m1:=dk (a:=t.coef) (by omega) hs.1
  have m2:=dk (a:=t.coef) (by omega) hs.2
  simp only [cM,cL]
  refine ⟨?_,?_,?_,?_⟩ <;> split <;> omega
 obtain ⟨A,hA⟩:∃ A,A=(aZ (f.terms.map ψ) f.const f.const).1:=⟨_,rfl⟩
 obtain ⟨B,hB⟩:∃ B,B=(aZ (f.terms.map ψ) f.const f.const).2:=⟨_,rfl⟩
 rw [←hA,←hB]
 obtain ⟨h1,hh1⟩:∃ h1,h1=upd h0 c0 (some (.row 2 [[.int f.const,row (f.terms.map Term.cells)]] .live none)):=⟨_,rfl⟩
 have hF1:Fr c0 h0 h1 (c0+1):=by rw [hh1]; exact (Fr.refl _ _).upd (Nat.le_refl _) (Nat.le_succ _)
 have b1:h1 c0=_:=(congrFun hh1 c0).trans af
 simp [Form.av,Form.cells]
 rw [←hh1]
 obtain ⟨Inv,hInv⟩:∃ Inv:Nat→List Wb.Term→Slots→St→Prop,Inv=fun (i:Nat) r sl s'=>sl 6=.int (aZ ((f.terms.take i).map ψ) f.const f.const).1∧sl 7=.int (aZ ((f.terms.take i).map ψ) f.const f.const).2∧J i s'.h∧c0<s'.c:=⟨_,rfl⟩
 refine bz 19 Fn94.W0 f.terms Inv (by rfl) (by rfl) ?_ ?_ ?_
 ·rw [hInv]; exact ⟨by simp,by simp [aZ],by simp [aZ],hfr 0 h0 h1 hJ fun k hk=>hF1.h k hk,Nat.lt_succ_self _⟩
 ·intro v s' hv hI
  rw [hInv,List.take_length,←hA,←hB] at hI
  obtain ⟨k1,k2,k3,k4⟩:=hI
  obtain ⟨h,c⟩:=s'
  simp at k1 k2
  simp only at k3 k4
  simp [hv,k1,k2]
  exact hfr _ _ _ k3 fun k hk=>by unfold retH; rw [if_pos hk]
 ·intro i t ts v s' hi htx hl2 hv hI
  rw [hInv] at hI
  obtain ⟨k1,k2,k3,k4⟩:=hI
  obtain ⟨h,c⟩:=s'
  simp only at k3 k4
  have hw:=ah (x:=(i:Int)+1) (by omega) (by omega)
  obtain ⟨h2,hh2⟩:∃ h2,h2=upd h c (some (.row 2 [[.str t.name,.int t.coef]] .live none)):=⟨_,rfl⟩
  have low2:∀ k,k<c→h2 k=h k:=fun k hk=>by rw [hh2,ad (by omega)]
  have q2:h2 c=_:=(congrFun hh2 c).trans af
  have hsb:=gA ((f.terms.take i).map ψ) f.const f.const 2000000 (hψb _ fun t ht=>List.mem_of_mem_take ht) hc.1 hc.2 hc.1 hc.2
  have hln:((f.terms.take i).map ψ).length≤24:=by simp; omega
  have hct:=ht t (aR hl2)
  have htk:aZ ((f.terms.take (i+1)).map ψ) f.const f.const=((aZ ((f.terms.take i).map ψ) f.const f.const).1+cM (t.coef*(φ t.name).1) (t.coef*(φ t.name).2),(aZ ((f.terms.take i).map ψ) f.const f.const).2+cL (t.coef*(φ t.name).1) (t.coef*(φ t.name).2)):=by
   rw [List.take_add_one,List.getElem?_eq_getElem hi,htx,List.map_append,Option.toList_some,List.map_cons,List.map_nil,ic,hψ]
  obtain ⟨x,hx⟩:∃ x,x=(aZ ((f.terms.take i).map ψ) f.const f.const).1:=⟨_,rfl⟩
  obtain ⟨y,hy⟩:∃ y,y=(aZ ((f.terms.take i).map ψ) f.const f.const).2:=⟨_,rfl⟩
  rw [←hx] at k1 htk hsb
  rw [←hy] at k2 htk hsb
  simp at k1 k2
  have m1:=dk hct (hφ t.name).1
  have m2:=dk hct (hφ t.name).2
  have hst:=hstep i t h2 (c+1) (by rw [List.getElem?_eq_getElem hi,htx]) (by omega) (hfr i h h2 k3 fun k hk=>low2 k (by omega))
  obtain ⟨u,hu⟩:∃ u,u=(φ t.name).1:=⟨_,rfl⟩
  obtain ⟨w,hwd⟩:∃ w,w=(φ t.name).2:=⟨_,rfl⟩
  rw [←hu,←hwd] at htk hst
  rw [←hu] at m1
  rw [←hwd] at m2
  have w1:IntKind.i64.wrap (t.coef*u)=t.coef*u:=ah (by omega) (by omega)
  have w2:IntKind.i64.wrap (t.coef*w)=t.coef*w:=ah (by omega) (by omega)
  have mm:-1000000000000≤cM (t.coef*u) (t.coef*w)∧cM (t.coef*u) (t.coef*w)≤1000000000000 ∧ -1000000000000≤cL (t.coef*u) (t.coef*w)∧cL (t.coef*u) (t.coef*w)≤1000000000000:=by
   simp only [cM,cL]
   refine ⟨?_,?_,?_,?_⟩ <;> split <;> omega
  have w3:IntKind.i64.wrap (x+cM (t.coef*u) (t.coef*w))=x+cM (t.coef*u) (t.coef*w):=ah (by omega) (by omega)
  have w4:IntKind.i64.wrap (y+cL (t.coef*u) (t.coef*w))=y+cL (t.coef*u) (t.coef*w):=ah (by omega) (by omega)
  simp only [cM,cL] at w3 w4 htk
  simp [hv,hi,htx,Term.cells]
  rw [←hh2]
  refine hst.mono ?_
  rintro av ⟨h3,c3⟩ hc3 ⟨rfl,j1,j2⟩
  simp only at hc3 j1 j2
  have q3:=(j2 c (by omega) (by omega)).trans q2
  simp [q3,k1,k2,w1,w2,w3,w4,hv,hw]
  rw [hInv]
  refine ⟨?_,?_,j1,by show c0<c3; omega⟩
  ·simp; rw [←List.map_take,htk]
  ·simp; rw [←List.map_take,htk]
theorem vS (x:Wb.Slot) (name:ByteArray) (h:Heap) (c g:Nat) (hg:h g=some (.row 1 [[.str name]] .live none)) (hgc:g<c) :
  ACalls Pg Fn91.n [.agg x.cells,.ptr g 0 0] ⟨h,c⟩ fun av s'=>av=.bool (decide (x.name=name))∧s'.h=h:=by
 refine Fn91.calls .frz ?_
 unfold Fn91.ac
 have hne:g≠c:=by omega
 simp [Slot.cells,hg,hne]
def d9 (l:List Wb.Slot) (n:ByteArray):Int:=aK (fun s=>decide (s.name=n)) l 0
theorem rE (l:List Wb.Slot) (name:ByteArray) (h:Heap) (c g:Nat) (hg:h g=some (.row 1 [[row (l.map Slot.cells)]] .live none)) (hgc:g<c) :
  ACalls Pg Fn89.n [.str name,.ptr g 0 0] ⟨h,c⟩ fun av s'=>av=.int (d9 l name)∧s'.h=h:=by
 refine Fn89.calls .frz ?_
 unfold Fn89.ac
 have hne:g≠c:=by omega
 simp [hg,hne]
 refine ACalls.at (vR l _ _ _ (fun s=>decide (s.name=name)) _ _ ?_) fun c2 hc2=>?_
 ·intro x hx c' hc'
  exact vS x name _ c' _ (by simp) (by omega)
 ·simp [d9]
structure SpH (h:Heap) (l l':List Wb.Slot) (g1 g2 g3:Nat):Prop where
 low:h g1=some (.row 1 [[row (l.map Slot.cells)]] .live none)
 high:h g2=some (.row 1 [[row (l'.map Slot.cells)]] .live none)
 at_:h g3=some (.row 1 [[.fn (.func Fn89.n) [] [.ptr g1 0 0]]] .live none)
theorem vU (t:Wb.Term) (l l':List Wb.Slot) (g1 g2 g3:Nat) (h:Heap) (c:Nat) (H:SpH h l l' g1 g2 g3) (h1:g1<c) (h3:g3<c) :
  ACalls Pg Fn93.n [.agg t.cells,.ptr g3 0 0] ⟨h,c⟩ fun av s'=>av=.bool (decide (d9 l t.name<0))∧s'.h=h:=by
 refine Fn93.calls .frz ?_
 unfold Fn93.ac
 have hne:g3≠c:=by omega
 have hne1:g1≠c:=by omega
 simp [Term.cells,H.at_,hne]
 refine ACalls.at (rE l t.name _ _ g1 (by rw [ad hne1]; exact H.low) (by omega)) fun c2 hc2=>?_
 simp
theorem gW {α:Type} (p:α→Bool):∀ (l:List α) (k:Int),0≤k→(aK p l k = -1∧l.find? p=none)∨∃ (i:Nat) (x:α),aK p l k=k+i∧l[i]?=some x∧l.find? p=some x
 | [],k,_=>.inl ⟨rfl,rfl⟩
 | x::l,k,hk=>by
  simp only [aK,List.find?_cons]
  by_cases hx:p x=true
  ·rw [if_pos hx,hx]; exact .inr ⟨0,x,by simp,rfl,rfl⟩
  ·rw [if_neg hx]
   have hx':p x=false:=by simpa using hx
   rw [hx']
   rcases gW p l (k+1) (by omega) with ⟨h1,h2⟩ | ⟨i,y,h1,h2,h3⟩
   ·exact .inl ⟨h1,h2⟩
   ·exact .inr ⟨i+1,y,by rw [h1]; push_cast; omega,by simpa using h2,h3⟩
theorem iK:∀ {l l':List Wb.Slot} (n:ByteArray) (k:Int),l.map (·.name)=l'.map (·.name)→aK (fun s:Wb.Slot=>decide (s.name=n)) l k=aK (fun s=>decide (s.name=n)) l' k
 | [],[],n,k,_=>rfl
 | [],y::l',n,k,h=>by cases h
 | x::l,[],n,k,h=>by cases h
 | x::l,y::l',n,k,h=>by
  simp only [List.map_cons,List.cons.injEq] at h
  simp only [aK,h.1]
  rw [iK n (k+1) h.2]
theorem qM {l l':List Wb.Slot} {n:ByteArray} (h:l.map (·.name)=l'.map (·.name)) (hs:(bn l n).isSome=true):∃ (i:Nat) (x y:Wb.Slot),d9 l n=i∧l[i]?=some x∧l'[i]?=some y∧bn l n=some x.value∧bn l' n=some y.value:=by
 rcases gW (fun s:Wb.Slot=>decide (s.name=n)) l 0 (by omega) with ⟨h1,h2⟩ | ⟨i,x,h1,h2,h3⟩
 ·unfold bn at hs; rw [h2] at hs; cases hs
 ·rcases gW (fun s:Wb.Slot=>decide (s.name=n)) l' 0 (by omega) with ⟨g1,g2⟩ | ⟨j,y,g1,g2,g3⟩
  ·rw [←iK n 0 h,h1] at g1; omega
  ·rw [←iK n 0 h,h1] at g1
   have:j=i:=by omega
   subst this
   exact ⟨j,x,y,by unfold d9; rw [h1]; omega,h2,g2,by unfold bn; rw [h3]; rfl,by unfold bn; rw [g3]; rfl⟩
theorem qL {l:List Wb.Slot} {n:ByteArray}:decide (d9 l n<0)=(bn l n).isNone:=by
 rcases gW (fun s:Wb.Slot=>decide (s.name=n)) l 0 (by omega) with ⟨h1,h2⟩ | ⟨i,x,h1,h2,h3⟩
 ·unfold d9 bn; rw [h1,h2]; rfl
 ·unfold d9 bn; rw [h1,h3]; simp
theorem vV (name:ByteArray) (l l':List Wb.Slot) (g1 g2 g3:Nat) (h:Heap) (c:Nat) (H:SpH h l l' g1 g2 g3) (h1:g1<c) (h2:g2<c) (h3:g3<c) (i:Nat) (x y:Wb.Slot) (hi:d9 l name=i) (hx:l[i]?=some x) (hy:l'[i]?=some y) :
  ACalls Pg Fn95.n [.str name,.ptr g1 0 0,.ptr g3 0 0,.ptr g2 0 0] ⟨h,c⟩ fun av s'=>av=.tup [.int x.value,.int y.value]∧s'.h=h:=by
 have hat:=fun c hc=>rE l name h c g1 H.low hc
 rw [hi] at hat
 refine Fn95.calls .frz ?_
 unfold Fn95.ac
 obtain ⟨hi1,hx1⟩:=List.getElem?_eq_some_iff.1 hx
 obtain ⟨hi2,hy1⟩:=List.getElem?_eq_some_iff.1 hy
 simp [H.low,H.high,H.at_]
 refine ACalls.at (hat c h1) fun c2 hc2=>?_
 simp [H.low,H.high,H.at_,hi1,hx1,Slot.cells]
 refine ACalls.at (hat c2 (by omega)) fun c3 hc3=>?_
 simp [H.low,H.high,H.at_,hi2,hy1,Slot.cells]
theorem kX {l:List Wb.Slot} (h:bo ⟨#[]⟩ l=0) (n:ByteArray):-1000000≤(bn l n).getD 0∧(bn l n).getD 0≤1000000:=by
 cases e:bn l n with
 | none=>simp
 | some v=>
  obtain ⟨x,hx,_,rfl⟩:=sA e
  have:=((fF h).1 x hx).2
  simpa using this
theorem vG (f:Wb.Form) (low high:List Wb.Slot) :
  aG Pg Fn27.n [f.av,row (low.map Slot.cells),row (high.map Slot.cells)] (.tup [.int (dd f low high).1,.int (dd f low high).2,.int (bO f low high)]):=by
 rintro ⟨h0,c0⟩
 refine ACalls.small fun hsm=>?_
 have hll:low.length≤68719476736:=by simp [Form.av,Form.cells] at hsm; omega
 have hff:=nY f
 have hfl:=lH [aL f,bo ⟨#[]⟩ low,bo ⟨#[]⟩ high]
 simp only [be,List.map_cons,List.map_nil] at hfl
 obtain ⟨A,hA⟩:∃ A,A=(dd f low high).1:=⟨_,rfl⟩
 obtain ⟨B,hB⟩:∃ B,B=(dd f low high).2:=⟨_,rfl⟩
 obtain ⟨E,hE⟩:∃ E,E=bO f low high:=⟨_,rfl⟩
 rw [←hA,←hB,←hE]
 have hbad:E≠0→A=0∧B=0:=fun h=>by rw [hA,hB]; unfold dd; rw [←hE,if_neg h]; exact ⟨rfl,rfl⟩
 have hgood:E=0→A=(iL f low high).1∧B=(iL f low high).2:=fun h=>by rw [hA,hB]; unfold dd; rw [←hE,if_pos h]; exact ⟨rfl,rfl⟩
 clear hA hB
 simp only [Form.av,Form.cells] at hff
 refine Fn27.calls .frz ?_
 unfold Fn27.ac
 obtain ⟨h1,hh1⟩:∃ h1,h1=upd (upd (upd h0 c0 (some (.row 2 [[.int f.const,row (f.terms.map Term.cells)]] .live none))) (c0+1) (some (.row 1 [[row (low.map Slot.cells)]] .live none))) (c0+1+1) (some (.row 1 [[row (high.map Slot.cells)]] .live none)):=⟨_,rfl⟩
 have hF1:Fr c0 h0 h1 (c0+1+1+1):=by rw [hh1]; exact (((Fr.refl _ _).upd (Nat.le_refl _) (Nat.le_succ _)).upd (by omega) (Nat.le_succ _)).upd (by omega) (Nat.le_succ _)
 have b0:h1 c0=_:=(congrFun hh1 c0).trans (by rw [ad (by omega),ad (by omega),af])
 have b1:h1 (c0+1)=_:=(congrFun hh1 (c0+1)).trans (by rw [ad (by omega),af])
 have b2:h1 (c0+1+1)=_:=(congrFun hh1 (c0+1+1)).trans af
 simp [Form.av,Form.cells]
 rw [←hh1]
 simp [b0,b1,b2]
 refine ACalls.pure hff fun c1 hc1=>?_
 simp [b0,b1,b2]
 refine ACalls.pure (rD low) fun c2 hc2=>?_
 simp [b0,b1,b2]
 refine ACalls.pure (rD high) fun c3 hc3=>?_
 simp [b0,b1,b2,bsI,an]
 refine ACalls.pure hfl fun c4 hc4=>?_
 by_cases hz:aL f=0
 case neg=>
  have e:E=aL f:=by rw [hE]; unfold bO; rw [if_neg hz]
  have:=hbad (by rw [e]; exact hz)
  simp [cP,hz,e,this]
  exact hF1.retH
 by_cases p1:bo ⟨#[]⟩ low=0
 case neg=>
  have e:E=bo ⟨#[]⟩ low:=by rw [hE]; unfold bO; rw [if_pos hz,if_neg p1]
  have:=hbad (by rw [e]; exact p1)
  simp [cP,hz,p1,e,this]
  exact hF1.retH
 by_cases p2:bo ⟨#[]⟩ high=0
 case neg=>
  have e:E=bo ⟨#[]⟩ high:=by rw [hE]; unfold bO; rw [if_pos hz,if_pos p1,if_neg p2]
  have:=hbad (by rw [e]; exact p2)
  simp [cP,hz,p1,p2,e,this]
  exact hF1.retH
 have hok:=ej hz
 have hfl:=hok.len
 simp [cP,hz,p1,p2,b1,b2]
 refine ACalls.pure (eo Fn88.n vQ low high) fun c5 hc5=>?_
 by_cases hnm:low.map (·.name)=high.map (·.name)
 case neg=>
  have e:E=3:=by rw [hE]; unfold bO; rw [if_pos hz,if_pos p1,if_pos p2,if_neg hnm]
  have:=hbad (by rw [e]; decide)
  simp [hnm,e,this]
  exact hF1.retH
 have hnd:=kj p1
 have hlen:low.length=high.length:=by have:=congrArg List.length hnm; simpa using this
 simp [hnm,b1]
 refine bK 31 Fn27.W0 low (fun (i:Nat) r sl=>∀ p∈(low.zip high).take i,¬p.2.value<p.1.value) (by rfl) (by rfl) ?_ ?_ ?_
 ·simp
 rotate_left
 ·intro i x xs v c6 hi hx hl2 hv hc6 hI
  have hw:=ah (x:=(i:Int)+1) (by omega) (by omega)
  have hih:i<high.length:=by omega
  have hxi:low[i]?=some x:=by rw [List.getElem?_eq_getElem hi,hx]
  have hzi:(low.zip high).take (i+1)=(low.zip high).take i++[(x,high[i])]:=by
   rw [List.take_add_one,List.getElem?_eq_getElem (by simp; omega)]
   simp [hx]
  by_cases hlt:high[i].value<x.value
  ·have e:E=1:=by
    rw [hE]; unfold bO; rw [if_pos hz,if_pos p1,if_pos p2,if_pos hnm,if_pos (kw hi hih (by rw [hx]; exact hlt))]
   have:=hbad (by rw [e]; decide)
   simp [hv,hi,hx,b1,b2,hih,Slot.cells,hlt,e,this]
   exact hF1.retH
  ·simp [hv,hi,hx,b1,b2,hih,Slot.cells,hlt,hw]
   refine ⟨by omega,fun a b hp=>?_⟩
   rw [hzi,List.mem_append] at hp
   rcases hp with hp | hp
   ·have:=hI (a,b) hp; simp only at this; omega
   ·rw [List.mem_singleton] at hp; cases hp; omega
 intro v c6 hv hc6 hI
 have htz:(low.zip high).take low.length=low.zip high:=List.take_of_length_le (by simp; omega)
 rw [htz] at hI
 have hany:(low.zip high).any (fun p=>decide (p.2.value<p.1.value))=false:=by
  rw [List.any_eq_false]; intro p hp; simpa using hI p hp
 obtain ⟨h2,hh2⟩:∃ h2,h2=upd h1 c6 (some (.row 1 [[.fn (.func Fn89.n) [] [.ptr (c0+1) 0 0]]] .live none)):=⟨_,rfl⟩
 have hF2:Fr (c0+1+1+1) h1 h2 (c6+1):=by rw [hh2]; exact (Fr.le (by omega)).upd (by omega) (Nat.le_succ _)
 have b2f:=(hF2.h c0 (by omega)).trans b0
 have H:SpH h2 low high (c0+1) (c0+1+1) c6:=⟨(hF2.h _ (by omega)).trans b1,(hF2.h _ (by omega)).trans b2,(congrFun hh2 c6).trans af⟩
 have hh2':=hh2
 unfold Fn89.n at hh2'
 simp [hv]
 rw [←hh2']
 simp [b2f]
 refine ACalls.at (vT f.terms Fn93.n [] [.ptr c6 0 0] (fun t=>decide (d9 low t.name<0)) h2 (c6+1) fun t ht c' hc'=>vU t low high (c0+1) (c0+1+1) c6 h2 c' H (by omega) (by omega)) fun c7 hc7=>?_
 simp only [qL]
 have hlow:∀ h:Heap,(∀ k,k<c6+1→h k=h2 k)→retH c0 h0 h=h0:=fun h hh=>ay fun k hk=>by rw [hh k (by omega),hF2.h k (by omega)]; exact hF1.h k hk
 cases hno:f.terms.any (fun t=>(bn low t.name).isNone)
 case true=>
  have e:E=8:=by
   rw [hE]; unfold bO; rw [if_pos hz,if_pos p1,if_pos p2,if_pos hnm,hany,hno]; rfl
  have:=hbad (by rw [e]; decide)
  simp [e,this]
  exact hlow _ fun _ _=>rfl
 have e:E=0:=by
  rw [hE]; unfold bO; rw [if_pos hz,if_pos p1,if_pos p2,if_pos hnm,hany,hno]; rfl
 obtain ⟨eA,eB⟩:=hgood e
 have hsp:=rF f (by omega) (by have:=hok.const; omega) (fun t ht=>by have:=hok.coef t ht; omega) Fn95.n [] [.ptr (c0+1) 0 0,.ptr c6 0 0,.ptr (c0+1+1) 0 0] (fun n=>((bn low n).getD 0,(bn high n).getD 0)) (fun n=>⟨kX p1 n,kX p2 n⟩)
  (fun i h=>∀ k,k<c6+1→h k=h2 k) h2 c7 (fun i h h' hJ hh k hk=>(hh k (by omega)).trans (hJ k hk)) (fun i t h c hti hc hJ=>by
   have hs:(bn low t.name).isSome=true:=by
    have:=List.any_eq_false.1 hno t (List.mem_of_getElem? hti)
    cases h:bn low t.name
    ·rw [h] at this; exact absurd rfl this
    ·rfl
   obtain ⟨j,x,y,s1,s2,s3,s4,s5⟩:=qM hnm hs
   have H2:SpH h low high (c0+1) (c0+1+1) c6:=⟨(hJ _ (by omega)).trans H.low,(hJ _ (by omega)).trans H.high,(hJ _ (by omega)).trans H.at_⟩
   refine (vV t.name low high (c0+1) (c0+1+1) c6 h c H2 (by omega) (by omega) (by omega) j x y s1 s2 s3).mono ?_
   rintro av ⟨h',c'⟩ hc' ⟨rfl,rfl⟩
   exact ⟨by rw [s4,s5]; rfl,hJ,fun _ _ _=>rfl⟩) (fun k _=>rfl)
 simp only [Form.av,Form.cells] at hsp
 simp [b2f]
 refine hsp.mono ?_
 rintro av ⟨h8,c8⟩ hc8 ⟨rfl,hJ⟩
 simp only at hJ
 have e1:(aZ (f.terms.map fun t=>(t.coef,(bn low t.name).getD 0,(bn high t.name).getD 0)) f.const f.const).1=A:=by rw [eA]; rfl
 have e2:(aZ (f.terms.map fun t=>(t.coef,(bn low t.name).getD 0,(bn high t.name).getD 0)) f.const f.const).2=B:=by rw [eB]; rfl
 simp [e1,e2,e]
 exact hlow _ hJ
end Go.Proofs.YtjhogglgkjcacaaGreat
set_option maxRecDepth 20000
set_option maxHeartbeats 4000000
namespace Go.Proofs.YtjhogglgkjcacaaGreat
open Go.AM Go.Wb
structure OutAt (h:Heap) (c g1 g2:Nat) (v:AV) (L:List AccW):Prop where
 out:h g1=some (.row 1 [[v]] .live none)
 row:RowAt h 3 v (L.map AccW.cells)
 look:h g2=some (.row 1 [[.fn (.func Fn178.n) [] [.ptr g1 0 0,.ptr g2 0 0]]] .live none)
 lt:g1<c∧g2<c
 own:∀ k,aq v k→k<c∧k≠g1∧k≠g2
theorem OutAt.fr {h h':Heap} {c c' g1 g2:Nat} {v:AV} {L:List AccW} (H:OutAt h c g1 g2 v L) (hh:∀ k,k<c→h' k=h k) (hc:c≤c'):OutAt h' c' g1 g2 v L:=
 ⟨(hh _ H.lt.1).trans H.out,H.row.frame fun k hk=>hh k (H.own k hk).1,(hh _ H.lt.2).trans H.look,by have:=H.lt; omega,fun k hk=>by have:=H.own k hk; omega⟩
theorem lT {A:List Wb.Array}:∀ {l:List Wb.Expr},fW A l→∀ x∈l,dM A x
 | [],_,x,hx=>by simp at hx
 | y::l,h,x,hx=>by
  simp only [fW] at h
  rcases List.mem_cons.1 hx with rfl | hx
  ·exact h.1
  ·exact lT h.2 x hx
theorem uf {A:List Wb.Array} (g1 g2:Nat) (h12:g1≠g2):∀ (N:Nat) (x:Wb.Expr),SizeOf.sizeOf x≤N→dM A x→∀ (v:AV) (L:List AccW) (h0:Heap) (c0:Nat),OutAt h0 c0 g1 g2 v L→L.length+cy x≤4096 →
  ACalls Pg Fn178.n [x.av,.ptr g1 0 0,.ptr g2 0 0] ⟨h0,c0⟩ fun av s'=>∃ v',OutAt s'.h s'.c g1 g2 v' (L++(bU x).map fc)∧(∀ k,aq v' k→aq v k∨c0≤k)∧∀ k,k<c0→k≠g1→¬aq v k→s'.h k=h0 k:=by
 intro N
 induction N with
 | zero=>intro x hx; obtain ⟨_,_,_,_,_,_⟩:=x; simp at hx
 | succ N ih=>
  intro x hx hok v L h0 c0 H hL
  obtain ⟨op,n,form,array,subs,args⟩:=x
  have hargs:∀ y∈args,dM A y:=by
   simp only [dM] at hok
   rcases hok with ⟨_,rfl,_⟩ | ⟨_,rfl,_⟩ | ⟨_,rfl,_⟩ | ⟨_,_,_,h⟩
   ·simp
   ·simp
   ·simp
   ·exact lT h
  have hlt:=H.lt
  have hor:=H.out
  rw [Expr.av_mk]
  refine Fn178.calls .keep ?_
  unfold Fn178.ac
  obtain ⟨hb,hhb⟩:∃ hb,hb=upd h0 c0 (some (.row 7 [(Wb.Expr.mk op n form array subs args).cells] .live none)):=⟨_,rfl⟩
  have lowb:∀ k,k<c0→hb k=h0 k:=fun k hk=>by rw [hhb,ad (by omega)]
  have bx:hb c0=_:=(congrFun hhb c0).trans af
  have Hb:=H.fr lowb (Nat.le_succ _)
  rw [Expr.cells_mk] at hhb bx
  simp
  rw [←hhb]
  by_cases h3:op=3
  ·subst h3
   have hnil:args=[]:=by
    simp only [dM] at hok
    rcases hok with ⟨h,_⟩ | ⟨h,_⟩ | ⟨_,h,_⟩ | ⟨h,h',_⟩
    ·omega
    ·omega
    ·exact h
    ·omega
   subst hnil
   have hn1:cy (.mk 3 n form array subs [])=1:=by simp [cy]
   obtain ⟨h2,p1,p2,p3,p4⟩:=Hb.row.push (c:=c0+1) (bytes:=48) (md:=.plain) (b:=true) (e:=[.str array,Wb.row (subs.map Form.cells),.bool false]) (by decide) (by decide) (by decide) (by decide) rfl (fun e he=>by obtain ⟨z,_,rfl⟩:=List.mem_map.1 he; exact rH z) (by simp; omega) (fun g hg=>(Hb.own g hg).1)
   simp only [List.length_map,Wb.row] at p1 p3
   have k1:=(p4 g1 (by omega) fun hr=>(H.own g1 hr).2.1 rfl).trans Hb.out
   have k2:=(p4 g2 (by omega) fun hr=>(H.own g2 hr).2.2 rfl).trans Hb.look
   have k0:=(p4 c0 (by omega) fun hr=>by have:=H.own c0 hr; omega).trans bx
   simp [bx,Hb.out,bsI,an,aI,p1,k1]
   obtain ⟨h4,hh4⟩:∃ h4,h4=upd h2 g1 (some (.row 1 [[.row (c0+1) 3 0 (L.length+1)]] .live none)):=⟨_,rfl⟩
   have l4:∀ k,k≠g1→h4 k=h2 k:=fun k hk=>by rw [hh4,ad hk]
   have m0:=(l4 c0 (by omega)).trans k0
   rw [←hh4]
   simp [m0]
   refine bz 20 Fn178.W0 ([]:List Wb.Expr) (fun i r sl s'=>s'=⟨h4,c0+1+1⟩) (by rfl) (by rfl) ?_ ?_ ?_
   ·simp
   ·rintro v2 s' hv2 rfl
    simp at hv2
    simp [hv2]
    refine ⟨.row (c0+1) 3 0 (L.length+1),⟨by rw [hh4,af],?_,(l4 g2 (Ne.symm h12)).trans k2,by omega,fun k hk=>by have:=aJ.1 hk; omega⟩,fun k hk=>by have:=aJ.1 hk; omega,fun k hk hk1 hkr=>?_⟩
    ·refine .inr ⟨c0+1,by simp [bU],?_⟩
     rw [l4 _ (by omega),p2]
     simp [bU,AccW.cells,fc,mQ,gC]
    ·rw [l4 k hk1,p4 k (by omega) hkr]; exact lowb k hk
   ·intro i y ys v2 s' hi; simp at hi
  ·have hspec:bU (.mk op n form array subs args)=aX args:=by simp [bU,h3]
   have hnr:cy (.mk op n form array subs args)=bQ args:=by simp [cy,h3]
   rw [hspec]
   rw [hnr] at hL
   simp [bx,h3]
   obtain ⟨Inv,hInv⟩:∃ Inv:Nat→List Wb.Expr→Slots→St→Prop,Inv=fun (i:Nat) r sl s'=>∃ v',OutAt s'.h s'.c g1 g2 v' (L++(aX (args.take i)).map fc)∧(∀ k,aq v' k→aq v k∨c0≤k)∧(∀ k,k<c0→k≠g1→¬aq v k→s'.h k=h0 k)∧c0+1≤s'.c:=⟨_,rfl⟩
   refine bz 20 Fn178.W0 args Inv (by rfl) (by rfl) ?_ ?_ ?_
   ·rw [hInv]; exact ⟨by simp,v,by simpa [aX] using Hb,fun k hk=>.inl hk,fun k hk _ _=>lowb k hk,Nat.le_refl _⟩
   ·intro v2 s' hv2 hI
    rw [hInv,List.take_length] at hI
    obtain ⟨v',i1,i2,i3,i4⟩:=hI
    simp [hv2]
    exact ⟨v',i1,i2,i3⟩
   ·intro i y ys v2 s' hi hy hl2 hv2 hI
    rw [hInv] at hI
    obtain ⟨v',i1,i2,i3,i4⟩:=hI
    obtain ⟨h,c⟩:=s'
    simp only at i1 i3 i4
    have hlen2:args.length≤2:=by
     simp only [dM] at hok
     rcases hok with ⟨_,rfl,_⟩ | ⟨_,rfl,_⟩ | ⟨h,_⟩ | ⟨_,_,h,_⟩
     ·simp
     ·simp
     ·exact absurd h h3
     ·omega
    have hw:=ah (x:=(i:Int)+1) (by omega) (by omega)
    have hmy:y∈args:=aR hl2
    have hsz:SizeOf.sizeOf y≤N:=by
     have:=List.sizeOf_lt_of_mem hmy
     simp at hx; omega
    have htake:args.take (i+1)=args.take i++[y]:=by rw [List.take_add_one,List.getElem?_eq_getElem hi,hy]; rfl
    have hnr2:bQ args=bQ (args.take i)+(cy y+bQ ys):=by
     conv=>lhs; rw [hl2]
     rw [jj]; rfl
    have hsl:(aX (args.take i)).length=bQ (args.take i):=gw _
    obtain ⟨h1,hh1⟩:∃ h1,h1=upd h c (some (.row 7 [y.cells] .live none)):=⟨_,rfl⟩
    have low1:∀ k,k<c→h1 k=h k:=fun k hk=>by rw [hh1,ad (by omega)]
    have q1:h1 c=_:=(congrFun hh1 c).trans af
    have H1:=i1.fr low1 (Nat.le_succ _)
    have hih:=ih y hsz (hargs y hmy) v' (L++(aX (args.take i)).map fc) h1 (c+1) H1 (by simp only [List.length_append,List.length_map]; omega)
    have hlk:=H1.look
    obtain ⟨op2,n2,form2,array2,subs2,args2⟩:=y
    rw [Expr.av_mk] at hih
    rw [Expr.cells_mk] at hh1 q1
    simp [hv2,hi,hy,Expr.cells_mk]
    rw [←hh1]
    simp [hlk,q1]
    refine hih.mono ?_
    rintro av ⟨h3',c3⟩ hc3 ⟨v3,j1,j2,j3⟩
    simp only at j1 j3 hc3
    simp [hv2,hw]
    rw [hInv]
    refine ⟨v3,?_,fun k hk=>?_,fun k hk hk1 hkr=>?_,by show c0+1≤c3; omega⟩
    ·rw [htake,gu]
     have:aX [Wb.Expr.mk op2 n2 form2 array2 subs2 args2]=bU (.mk op2 n2 form2 array2 subs2 args2):=by simp [aX]
     rw [this,List.map_append,←List.append_assoc]; exact j1
    ·rcases j2 k hk with h | h
     ·exact i2 k h
     ·exact .inr (by omega)
    ·have hn:¬aq v' k:=fun hr=>by
      rcases i2 k hr with h | h
      ·exact hkr h
      ·omega
     exact (j3 k (by omega) hk1 hn).trans ((low1 k (by omega)).trans (i3 k hk hk1 hkr))
theorem pI {A:List Wb.Array} (X:Wb.Step) (hok:dM A (Step.expr X)) (hr:cy (Step.expr X)≤4096):aG Pg Fn106.n [X.av] (row ((dH X).map AccW.cells)):=by
 rintro ⟨h0,c0⟩
 obtain ⟨kind,name,low,high,conds,body,array,subs,⟨op,n2,form,ea,es,args⟩⟩:=X
 obtain ⟨R,hR⟩:∃ R,R=bU (.mk op n2 form ea es args):=⟨_,rfl⟩
 have hacc:dH (.mk kind name low high conds body array subs (.mk op n2 form ea es args))=R.map fc++[⟨array,subs,true⟩]:=by rw [hR]; rfl
 rw [hacc]
 have hRl:R.length≤4096:=by rw [hR,fH]; exact hr
 have hwi:=fun h c H=>uf (A:=A) (c0+1) (c0+1+1) (by omega) _ (.mk op n2 form ea es args) (Nat.le_refl _) hok (.sl [] true) [] h c H (by rw [List.length_nil,Nat.zero_add]; exact hr)
 rw [←hR,Expr.av_mk] at hwi
 rw [Step.av_mk]
 refine Fn106.calls .frz ?_
 unfold Fn106.ac
 obtain ⟨hb,hhb⟩:∃ hb,hb=upd (upd (upd h0 c0 (some (.row 15 [(Wb.Step.mk kind name low high conds body array subs (.mk op n2 form ea es args)).cells] .live none))) (c0+1) (some (.row 1 [[.sl [] true]] .live none))) (c0+1+1) (some (.row 1 [[.fn (.func Fn178.n) [] [.ptr (c0+1) 0 0,.ptr (c0+1+1) 0 0]]] .live none)):=⟨_,rfl⟩
 have bx:hb c0=_:=(congrFun hhb c0).trans (by rw [ad (by omega),ad (by omega),af])
 have b1:hb (c0+1)=_:=(congrFun hhb (c0+1)).trans (by rw [ad (by omega),af])
 have b2:hb (c0+1+1)=_:=(congrFun hhb (c0+1+1)).trans af
 have bl:∀ k,k<c0→hb k=h0 k:=fun k hk=>by rw [hhb,ad (by omega),ad (by omega),ad (by omega)]
 have H0:OutAt hb (c0+1+1+1) (c0+1) (c0+1+1) (.sl [] true) []:=⟨b1,.inl ⟨rfl,rfl⟩,b2,by omega,fun k hk=>absurd hk cQ⟩
 rw [Step.cells_mk] at hhb bx
 have hhb':=hhb
 unfold Fn178.n at hhb'
 simp
 rw [←hhb']
 simp [bx,b2]
 refine (hwi hb _ H0).mono ?_
 rintro av ⟨h1,c1⟩ hc1 ⟨v',j1,j2,j3⟩
 simp only [List.nil_append] at j1 j3 hc1
 have q0:=(j3 c0 (by omega) (by omega) cQ).trans bx
 have j3':∀ k,k<c0→h1 k=h0 k:=fun k hk=>(j3 k (by omega) (by omega) cQ).trans (bl k hk)
 have hnv:∀ k,aq v' k→c0+1+1+1≤k:=fun k hk=>by
  rcases j2 k hk with h | h
  ·exact absurd h cQ
  ·exact h
 obtain ⟨h2,p1,p2,p3,p4⟩:=j1.row.push (c:=c1) (bytes:=48) (md:=.plain) (b:=true) (e:=[.str array,Wb.row (subs.map Form.cells),.bool true]) (by decide) (by decide) (by decide) (by decide) rfl (fun e he=>by obtain ⟨z,_,rfl⟩:=List.mem_map.1 he; exact rH z) (by simp; omega) (fun g hg=>(j1.own g hg).1)
 have j1o:=j1.out
 simp only [List.length_map,Wb.row] at p1 p2
 have hn:aP (List.map AccW.cells (R.map fc)++[[AV.str array,AV.sl (List.map Form.cells subs) false,AV.bool true]])=(R.map fc++[(⟨array,subs,true⟩:AccW)]).map AccW.cells:=by
  have e:List.map AccW.cells (R.map fc)++[[AV.str array,AV.sl (List.map Form.cells subs) false,AV.bool true]]=(R.map fc++[(⟨array,subs,true⟩:AccW)]).map AccW.cells:=by simp [AccW.cells]
  rw [e,lS]
 simp only [List.map_map] at p2 hn
 simp [q0,j1o,bsI,an,aI,p1,p2]
 refine ⟨?_,ay fun k hk=>?_⟩
 ·rw [List.take_of_length_le (by simp),hn]; simp
 ·rw [ad (by omega),p4 k (by omega) fun hr=>by have:=hnv k hr; omega]; exact j3' k hk
end Go.Proofs.YtjhogglgkjcacaaGreat
set_option maxRecDepth 20000
set_option maxHeartbeats 4000000
namespace Go.Proofs.YtjhogglgkjcacaaGreat
open Go.AM Go.Wb
def OkN (l:List Wb.Form):Prop:=∀ f∈l,∀ t∈f.terms,t.name.size≤1000
theorem rh {s:ByteArray} (h:bh s=true):s.size≤1000:=by
 simp only [bh,cY,Bool.and_eq_true,decide_eq_true_eq] at h
 omega
theorem km:∀ {l:List Wb.Term} {last:ByteArray},bp last l=0→∀ t∈l,t.name.size≤1000
 | [],last,_=>by simp
 | t::ts,last,h=>by
  simp only [bp] at h
  split at h
  ·cases h
  ·rename_i h1
   split at h
   ·cases h
   ·split at h
    ·cases h
    ·intro x hx
     rcases List.mem_cons.1 hx with rfl | hx
     ·exact rh (by simpa using h1)
     ·exact km h x hx
theorem ql {f:Wb.Form} (h:aL f=0):∀ t∈f.terms,t.name.size≤1000:=by
 simp only [aL] at h
 split at h
 ·cases h
 ·split at h
  ·cases h
  ·exact km h
theorem ni {L:List ByteArray}:∀ {l:List Wb.Form},bH L l=0→OkN l
 | [],_=>by intro f hf; simp at hf
 | f::fs,h=>by
  simp only [bH] at h
  split at h
  ·rename_i h1
   intro x hx
   rcases List.mem_cons.1 hx with rfl | hx
   ·simp only [bP] at h1
    split at h1
    ·exact ql ‹_›
    ·exact absurd h1 ‹_›
   ·exact ni h x hx
  ·exact absurd h ‹_›
theorem kz {A:List Wb.Array} {key:ByteArray} {subs:List Wb.Form} {L:List ByteArray} (h:bF A key subs L=0):OkN subs:=by
 simp only [bF] at h
 split at h
 ·cases h
 ·split at h
  ·cases h
  ·exact ni h
mutual
theorem kG {A:List Wb.Array} {L:List ByteArray}:∀ {e:Wb.Expr} {d:Int},aE A L d e=0→∀ x∈bU e,OkN (gC x)
 | .mk op n form array subs args,d,h=>by
  simp only [aE] at h
  split at h
  ·cases h
  ·split at h
   ·cases h
   ·split at h
    ·cases h
    ·rename_i h2
     have he:aN op n form array subs args=true:=by simpa using h2
     split at h
     ·cases h
     ·split at h
      ·rename_i h4
       have h3:¬op=3:=by omega
       have:=cE he (.inr (.inl h4))
       subst this
       intro x hx
       simp [bU,h3,aX] at hx
      ·split at h
       ·rename_i h5
        intro x hx
        simp only [bU,if_pos h5,List.mem_singleton] at hx
        subst hx
        exact kz h
       ·rename_i h5
        intro x hx
        simp only [bU,if_neg h5] at hx
        exact kg h x hx
theorem kg {A:List Wb.Array} {L:List ByteArray}:∀ {l:List Wb.Expr} {d:Int},aY A L d l=0→∀ x∈aX l,OkN (gC x)
 | [],_,_=>by intro x hx; simp [aX] at hx
 | e::es,d,h=>by
  simp only [aY] at h
  split at h
  ·intro x hx
   simp only [aX,List.mem_append] at hx
   rcases hx with hx | hx
   ·exact kG ‹_› x hx
   ·exact kg h x hx
  ·exact absurd h ‹_›
end
def StN (y:Wb.Step×List Wb.Step):Prop:=OkN (Step.subs y.1)∧∀ x∈bU (Step.expr y.1),OkN (gC x)
mutual
theorem qO {A:List Wb.Array}:∀ {s:Wb.Step} {L N:List ByteArray} {d:Int},(aD A L d N s).1=0→∀ around,∀ y∈cr around s,StN y
 | .mk kind name low high conds body array subs expr,L,N,d,h,around=>by
  simp only [aD] at h
  split at h
  ·cases h
  ·split at h
   ·cases h
   ·rename_i hk
    split at h
    ·cases h
    ·rename_i hf
     split at h
     ·cases h
     ·split at h
      ·rename_i h1
       have h13:¬kind=3:=by omega
       split at h
       ·simp only [cr,if_neg h13,List.nil_append]
        exact eZ h _
       ·exact absurd h ‹_›
      ·rename_i h1
       split at h
       ·rename_i h2
        have h13:¬kind=3:=by omega
        split at h
        ·simp only [cr,if_neg h13,List.nil_append]
         exact eZ h _
        ·exact absurd h ‹_›
       ·rename_i h2
        have h3:kind=3:=by omega
        have hbody:body=[]:=by
         have:bD kind name low high conds body array subs expr=true:=by simpa using hf
         simp only [bD,if_neg h1,if_neg h2,Bool.and_eq_true,decide_eq_true_eq] at this
         exact this.2
        subst hbody
        simp only [cj] at h
        split at h
        ·cases h
        ·split at h
         ·simp only [cr,if_pos h3,bG,List.append_nil,List.mem_singleton]
          rintro y rfl
          exact ⟨kz ‹_›,kG h⟩
         ·exact absurd h ‹_›
theorem eZ {A:List Wb.Array}:∀ {l:List Wb.Step} {L N:List ByteArray} {d:Int},(aC A L d N l).1=0→∀ around,∀ y∈bG around l,StN y
 | [],_,_,_,_,_=>by intro y hy; simp [bG] at hy
 | s::ss,L,N,d,h,around=>by
  simp only [aC] at h
  split at h
  ·intro y hy
   simp only [bG,List.mem_append] at hy
   rcases hy with hy | hy
   ·exact qO ‹_› around y hy
   ·exact eZ h around y hy
  ·exact absurd h ‹_›
end
theorem pq {p:Wb.Prog} (h:aW p=0) {k:ByteArray} {y:Wb.Step×List Wb.Step} (hy:ck p k=some y):∀ a∈dH y.1,OkN a.subs:=by
 have hm:=List.mem_of_find?_eq_some hy
 have hs:StN y:=by
  simp only [aW] at h
  split at h
  ·cases h
  ·split at h
   ·split at h
    ·exact eZ ‹_› [] y hm
    ·exact absurd h ‹_›
   ·exact absurd h ‹_›
 intro a ha
 simp only [dH,List.mem_append,List.mem_map,List.mem_singleton] at ha
 rcases ha with ⟨x,hx,rfl⟩ | rfl
 ·exact hs.2 x hx
 ·exact hs.1
end Go.Proofs.YtjhogglgkjcacaaGreat
set_option maxRecDepth 20000
set_option maxHeartbeats 4000000
namespace Go.Proofs.YtjhogglgkjcacaaGreat
open Go.AM Go.Wb
def fC (s p:ByteArray):Bool:=decide (p.size≤s.size)&&decide (s.extract 0 p.size=p)
def gB (s p:ByteArray):ByteArray:=if fC s p=true then s.extract p.size s.size else s
theorem lp (a n:ByteArray):(a++n).extract 0 a.size=a:=by
 apply ByteArray.ext
 simp [ByteArray.data_extract,ByteArray.data_append]
theorem uB (a n:ByteArray):(a++n).extract a.size (a++n).size=n:=by
 apply ByteArray.ext
 simp [ByteArray.data_extract,ByteArray.data_append]
 have e1:a.data.extract a.size (a.size+n.size)=#[]:=Array.extract_empty_of_size_le_start (Nat.le_refl _)
 have e2:n.data.extract 0 n.size=n.data:=Array.extract_size
 rw [e1,e2]; simp
theorem je (a n:ByteArray):gB (a++n) a=n:=by
 unfold gB
 have:fC (a++n) a=true:=by
  unfold fC
  rw [lp]
  simp
 rw [if_pos this,uB]
def pA:ByteArray:=⟨#[97,32]⟩
def pB:ByteArray:=⟨#[98,32]⟩
theorem ry (n:ByteArray):gB (pB++n) pA=pB++n:=by
 unfold gB
 have:fC (pB++n) pA=false:=by
  unfold fC
  have e:(pB++n).extract 0 pA.size=pB:=lp pB n
  rw [e]
  have:¬pB=pA:=by decide
  simp [this]
 rw [this]; rfl
theorem yx (n:ByteArray):¬n=pA++n:=fun e=>by
 have:=congrArg ByteArray.size e
 rw [ByteArray.size_append] at this
 have h2:pA.size=2:=rfl
 omega
theorem uv (s p:ByteArray) (hs:s.size<1000000):aG Pg Fn251.n [.str s,.str p] (.bool (fC s p)):=by
 rintro ⟨h0,c0⟩
 refine Fn251.calls .frz ?_
 unfold Fn251.ac
 by_cases hl:p.size≤s.size
 ·have hl':(p.size:Int)≤s.size:=by omega
  simp [fC,hl,ssI,bnd,hl']
 ·simp [fC,hl]
theorem ug (s p:ByteArray) (hs:s.size<1000000):aG Pg Fn179.n [.str s,.str p] (.str (gB s p)):=by
 rintro ⟨h0,c0⟩
 refine Fn179.calls .frz ?_
 unfold Fn179.ac
 simp
 refine ACalls.pure (uv s p hs) fun c1 hc1=>?_
 cases hp:fC s p
 ·simp [gB,hp]
 ·have hl:p.size≤s.size:=by
   simp only [fC,Bool.and_eq_true,decide_eq_true_eq] at hp
   exact hp.1
  have hl':(p.size:Int)≤s.size:=by omega
  simp [gB,hp,ssI,bnd,hl,hl']
theorem mc (s p:ByteArray) (hs:s.size<1000000):aG Pg Fn108.n [.str s,.str p] (.str (gB s p)):=by
 rintro ⟨h0,c0⟩
 refine Fn108.calls .frz ?_
 unfold Fn108.ac
 simp
 refine ACalls.pure (ug s p hs) fun c1 hc1=>?_
 simp
theorem jZ {g ver:Nat} {s:St} {m:List (ByteArray×Side)} (hg:s.h g=some (.map (kvs AV.str (fun s:Side=>AV.agg (Side.rcells s)) m) ver)) (k:ByteArray) :
  lkI (.one .str) (.agg [.int 0,.int 0,.bool false,.bool false]) false (.map g) (.str k) s=some (.agg (aT m k).rcells):=by
 have:=kJ fp (f:=fun s:Side=>AV.agg (Side.rcells s)) (z:=.agg [.int 0,.int 0,.bool false,.bool false]) (ok:=false) hg k
 rw [this]
 unfold aT
 cases cu m k <;> rfl
structure ApH (h:Heap) (x y:List (ByteArray×Side)) (gx gy vx vy g1 g2 g3:Nat) (al:Bool):Prop where
 b1:h g1=some (.row 1 [[.map gx]] .live none)
 b2:h g2=some (.row 1 [[.map gy]] .live none)
 b3:h g3=some (.row 1 [[.bool al]] .live none)
 mx:h gx=some (.map (kvs AV.str (fun s:Side=>AV.agg (Side.rcells s)) x) vx)
 my:h gy=some (.map (kvs AV.str (fun s:Side=>AV.agg (Side.rcells s)) y) vy)
theorem k9 (n:ByteArray) (hn:n.size≤1000) (x y:List (ByteArray×Side)) (gx gy vx vy g1 g2 g3:Nat) (al:Bool) (h0:Heap) (c0:Nat) (H:ApH h0 x y gx gy vx vy g1 g2 g3 al) (h3:g3<c0) (hx:gx≠g3) :
  ACalls Pg Fn107.n [.str (pA++n),.ptr g1 0 0,.ptr g2 0 0,.ptr g3 0 0] ⟨h0,c0⟩ fun av s'=>av=.tup [.int (aT x n).low,.int (aT x n).high]∧s'.h g3=some (.row 1 [[.bool (al&&((aT x n).lo&&(aT x n).hi))]] .live none)∧∀ k,k≠g3→s'.h k=h0 k:=by
 have hsz:(pA++n).size<1000000:=by
  rw [ByteArray.size_append]
  have h2:pA.size=2:=rfl
  omega
 have htp:=mc (pA++n) pA hsz
 rw [je] at htp
 have hne:=yx n
 obtain ⟨nm,hnm⟩:∃ nm,nm=pA++n:=⟨_,rfl⟩
 rw [←hnm] at htp hne ⊢
 refine Fn107.calls .frz ?_
 unfold Fn107.ac
 obtain ⟨S,hS⟩:∃ S,S=aT x n:=⟨_,rfl⟩
 have lk:∀ c,lkI (.one .str) (.agg [.int 0,.int 0,.bool false,.bool false]) false (.map gx) (.str n) ⟨h0,c⟩=some (.agg [.int S.low,.int S.high,.bool S.lo,.bool S.hi]):=fun c=>by rw [hS]; exact jZ (s:=⟨h0,c⟩) H.mx n
 have lk2:∀ c b,lkI (.one .str) (.agg [.int 0,.int 0,.bool false,.bool false]) false (.map gx) (.str n) ⟨upd h0 g3 b,c⟩=some (.agg [.int S.low,.int S.high,.bool S.lo,.bool S.hi]):=fun c b=>by rw [hS]; exact jZ (s:=⟨upd h0 g3 b,c⟩) (by show upd h0 g3 b gx=_; rw [ad hx]; exact H.mx) n
 rw [←hS]
 simp [H.b1]
 refine ACalls.pure htp fun c1 hc1=>?_
 have fin:∀ b:Option Body,retH c0 h0 (upd h0 g3 b) g3=b∧∀ k,k≠g3→retH c0 h0 (upd h0 g3 b) k=h0 k:=fun b=>⟨by unfold retH; rw [if_pos h3,af],fun k hk=>by unfold retH; split <;> first | rw [ad hk] | rfl⟩
 cases al
 ·simp [H.b1,H.b3,hne,lk,lk2]
  exact fin _
 ·cases hlo:S.lo
  ·simp [H.b1,H.b3,hne,lk,lk2,hlo]
   exact fin _
  ·simp [H.b1,H.b3,hne,lk,lk2,hlo]
   exact fin _
theorem la (n:ByteArray) (hn:n.size≤1000) (x y:List (ByteArray×Side)) (gx gy vx vy g1 g2 g3:Nat) (al:Bool) (h0:Heap) (c0:Nat) (H:ApH h0 x y gx gy vx vy g1 g2 g3 al) (h3:g3<c0) (hy:gy≠g3) :
  ACalls Pg Fn107.n [.str (pB++n),.ptr g1 0 0,.ptr g2 0 0,.ptr g3 0 0] ⟨h0,c0⟩ fun av s'=>av=.tup [.int (aT y n).low,.int (aT y n).high]∧s'.h g3=some (.row 1 [[.bool (al&&((aT y n).lo&&(aT y n).hi))]] .live none)∧∀ k,k≠g3→s'.h k=h0 k:=by
 have hsz:(pB++n).size<1000000:=by
  rw [ByteArray.size_append]
  have h2:pB.size=2:=rfl
  omega
 have htp0:=mc (pB++n) pA hsz
 rw [ry] at htp0
 have htp:=mc (pB++n) pB hsz
 rw [je] at htp
 obtain ⟨nm,hnm⟩:∃ nm,nm=pB++n:=⟨_,rfl⟩
 rw [←hnm] at htp htp0 ⊢
 refine Fn107.calls .frz ?_
 unfold Fn107.ac
 obtain ⟨S,hS⟩:∃ S,S=aT y n:=⟨_,rfl⟩
 have lk:∀ c,lkI (.one .str) (.agg [.int 0,.int 0,.bool false,.bool false]) false (.map gy) (.str n) ⟨h0,c⟩=some (.agg [.int S.low,.int S.high,.bool S.lo,.bool S.hi]):=fun c=>by rw [hS]; exact jZ (s:=⟨h0,c⟩) H.my n
 have lk2:∀ c b,lkI (.one .str) (.agg [.int 0,.int 0,.bool false,.bool false]) false (.map gy) (.str n) ⟨upd h0 g3 b,c⟩=some (.agg [.int S.low,.int S.high,.bool S.lo,.bool S.hi]):=fun c b=>by rw [hS]; exact jZ (s:=⟨upd h0 g3 b,c⟩) (by show upd h0 g3 b gy=_; rw [ad hy]; exact H.my) n
 rw [←hS]
 simp [H.b1]
 refine ACalls.pure htp0 fun c1 hc1=>?_
 simp [H.b1,H.b2]
 refine ACalls.pure htp fun c2 hc2=>?_
 have fin:∀ b:Option Body,retH c0 h0 (upd h0 g3 b) g3=b∧∀ k,k≠g3→retH c0 h0 (upd h0 g3 b) k=h0 k:=fun b=>⟨by unfold retH; rw [if_pos h3,af],fun k hk=>by unfold retH; split <;> first | rw [ad hk] | rfl⟩
 cases al
 ·simp [H.b1,H.b2,H.b3,lk,lk2]
  exact fin _
 ·cases hlo:S.lo
  ·simp [H.b1,H.b2,H.b3,lk,lk2,hlo]
   exact fin _
  ·simp [H.b1,H.b2,H.b3,lk,lk2,hlo]
   exact fin _
mutual
def fE:Wb.Step→List ByteArray
 | .mk kind name low high conds body array subs expr=>(if kind=3 then [name] else [])++bg body
def bg:List Wb.Step→List ByteArray
 | []=>[]
 | s::ss=>fE s++bg ss
end
mutual
theorem tr:∀ (s:Wb.Step) (around:List Wb.Step),(cr around s).map nm=fE s
 | .mk kind name low high conds body array subs expr,around=>by
  simp only [cr,fE,List.map_append,kM body _]
  congr 1
  split <;> rfl
theorem kM:∀ (l:List Wb.Step) (around:List Wb.Step),(bG around l).map nm=bg l
 | [],around=>rfl
 | s::ss,around=>by simp only [bG,bg,List.map_append,tr s around,kM ss around]
end
mutual
theorem nB:∀ s:Wb.Step,(fE s).length≤count s
 | .mk kind name low high conds body array subs expr=>by
  have:=gZ body
  simp only [fE,count,List.length_append]
  split <;> simp only [List.length_cons,List.length_nil] <;> omega
theorem gZ:∀ l:List Wb.Step,(bg l).length≤aB l
 | []=>by simp [bg,aB]
 | s::ss=>by
  have:=nB s
  have:=gZ ss
  simp only [bg,aB,List.length_append]; omega
end
theorem nz:∀ (a b:List Wb.Step),bg (a++b)=bg a++bg b
 | [],b=>rfl
 | x::a,b=>by simp only [List.cons_append,bg,nz a b,List.append_assoc]
theorem qx (p:Wb.Prog) (k:ByteArray):inL k (bg p.steps)=(ck p k).isSome:=by
 rw [←kM p.steps []]
 unfold inL ck
 rw [List.any_map,List.isSome_find?]
 congr 1
 funext y
 show decide _=decide _
 congr 1
 exact propext ⟨fun e=>e.symm,fun e=>e.symm⟩
theorem jR:∀ l:List Wb.Step,l.length≤aB l
 | []=>by simp [aB]
 | ⟨_,_,_,_,_,body,_,_,_⟩::ss=>by
  have:=jR ss
  simp only [aB,count,List.length_cons]; omega
theorem vJ:∀ (N:Nat) (l:List Wb.Step),aB l<N→aB l≤1000→aG Pg Fn31.n [row (l.map Step.cells)] (row (am (bg l))):=by
 intro N
 induction N with
 | zero=>intro l hl; omega
 | succ N ih=>
  rintro l hl hN ⟨h0,c0⟩
  have hlen:=jR l
  refine Fn31.calls .frz ?_
  unfold Fn31.ac
  simp
  obtain ⟨Inv,hInv⟩:∃ Inv:Nat→List Wb.Step→Slots→St→Prop,Inv=fun (i:Nat) r sl s'=>∃ go,sl 3=.row go 1 0 (bg (l.take i)).length∧c0≤go∧go<s'.c∧s'.h go=some (.row 1 (am (bg (l.take i))) .live none)∧∀ k,k<c0→s'.h k=h0 k:=⟨_,rfl⟩
  refine bz 8 Fn31.W0 l Inv (by rfl) (by rfl) ?_ ?_ ?_
  ·rw [hInv]
   exact ⟨by simp,c0,by simp [bg],Nat.le_refl _,Nat.lt_succ_self _,by simp [bg,am],fun k hk=>by show upd h0 c0 _ k=_; rw [ad (by omega)]⟩
  ·intro v s' hv hI
   rw [hInv,List.take_length] at hI
   obtain ⟨go,h3,i1,i2,i3,i4⟩:=hI
   obtain ⟨h,c⟩:=s'
   simp at h3
   simp only at i2 i3 i4
   have hsl:(am (bg l)).length=(bg l).length:=by simp [am]
   have htk:List.take (bg l).length (am (bg l))=am (bg l):=List.take_of_length_le (by omega)
   simp [hv,h3,i3,htk,hsl]
   exact ay fun k hk=>by rw [ad (by omega)]; exact i4 k hk
  ·intro i x xs v s' hi hx hl2 hv hI
   rw [hInv] at hI
   obtain ⟨go,h3,i1,i2,i3,i4⟩:=hI
   obtain ⟨h,c⟩:=s'
   simp at h3
   simp only at i2 i3 i4
   have hw:=ah (x:=(i:Int)+1) (by omega) (by omega)
   have htake:l.take (i+1)=l.take i++[x]:=by rw [List.take_add_one,List.getElem?_eq_getElem hi,hx]; rfl
   have hcc:aB l=aB (l.take i)+(count x+aB xs):=by
    conv=>lhs; rw [hl2]
    rw [dZ]; rfl
   have hnl:=gZ (l.take i)
   have hxl:=nB x
   have hnt:bg (l.take (i+1))=bg (l.take i)++fE x:=by rw [htake,nz]; simp [bg]
   obtain ⟨T,hT⟩:∃ T,T=bg (l.take i):=⟨_,rfl⟩
   rw [←hT] at h3 i3 hnl hnt
   obtain ⟨kind,name,low,high,conds,body,array,subs,⟨op,n2,form,ea,es,args⟩⟩:=x
   have hbl:=gZ body
   simp only [count] at hcc hxl
   have hih:=ih body (by omega) (by omega)
   obtain ⟨h1,hh1⟩:∃ h1,h1=upd h c (some (.row 15 [(Wb.Step.mk kind name low high conds body array subs (.mk op n2 form ea es args)).cells] .live none)):=⟨_,rfl⟩
   have low1:∀ g,g<c→h1 g=h g:=fun g hg=>by rw [hh1,ad (by omega)]
   have q1:h1 c=_:=(congrFun hh1 c).trans af
   have q3:=(low1 go i2).trans i3
   rw [Step.cells_mk] at hh1 q1
   have fin:∀ (T':List ByteArray) (sl':Slots) (go2 c3:Nat) (h2:Heap),T'++bg body=T++fE (.mk kind name low high conds body array subs (.mk op n2 form ea es args))→go2<c3→c0≤go2→(∀ k,k<c0→h2 k=h0 k)→sl' 3=.row c3 1 0 (T'.length+(bg body).length)→Inv (i+1) xs sl' ⟨upd (upd h2 go2 none) c3 (some (.row 1 (am T'++am (bg body)) .live none)),c3+1⟩:=by
    intro T' sl' go2 c3 h2 e1 e2 e3 e4 e5
    rw [hInv]
    refine ⟨c3,?_,by omega,Nat.lt_succ_self _,?_,fun k hk=>?_⟩
    ·rw [e5,hnt,←e1,List.length_append]
    ·show upd (upd h2 go2 none) c3 _ c3=_
     rw [af,hnt,←e1]; simp [am]
    ·show upd (upd h2 go2 none) c3 _ k=_
     rw [ad (by omega),ad (by omega)]; exact e4 k hk
   have hsT:(am T).length=T.length:=by simp [am]
   simp [hv,hi,hx,Step.cells_mk]
   rw [←hh1]
   by_cases hk:kind=3
   ·have hap:=cC (sz:=1) (bytes:=16) (md:=.plain) (len:=T.length) (x:=[.str name]) (b:=true) (s:=⟨h1,c+1⟩) (by simp) q3 hsT (by decide) (by decide) (by decide) rfl (by omega)
    have ngc:¬c=go:=by omega
    simp [q1,hk,h3,bsI,an,hap,ngc]
    obtain ⟨h2,hh2⟩:∃ h2,h2=upd (upd h1 go none) (c+1) (some (.row 1 (am T++[[.str name]]) .live none)):=⟨_,rfl⟩
    have q2:h2 c=_:=((congrFun hh2 c).trans (ad (by omega))).trans ((ad (by omega)).trans q1)
    have g2:h2 (c+1)=_:=(congrFun hh2 (c+1)).trans af
    have low2:∀ k,k<c0→h2 k=h0 k:=fun k hk=>by rw [hh2,ad (by omega),ad (by omega),low1 k (by omega)]; exact i4 k hk
    rw [←hh2]
    refine ACalls.pure hih fun c3 hc3=>?_
    have hsT2:am T++[[AV.str name]]=am (T++[name]):=by simp [am]
    rw [hsT2] at g2
    have hap2:=ig (sz:=1) (bytes:=16) (md:=.plain) (es:=am (T++[name])) (xs:=am (bg body)) (b:=false) (len:=T.length+1) (s:=⟨h2,c3⟩) (by simp) g2 (by simp [am]) (by decide) (by decide) (by decide) (fun y hy=>by obtain ⟨t,_,rfl⟩:=List.mem_map.1 hy; rfl) (by simp [am]; omega)
    have hsb:(am (bg body)).length=(bg body).length:=by simp [am]
    simp only [row,hsb] at hap2
    simp [hap2,hv,hw]
    refine fin (T++[name]) _ (c+1) c3 h2 (by simp [fE,hk]) (by omega) (by omega) low2 (by simp)
   ·simp [q1,hk,h3]
    refine ACalls.pure hih fun c3 hc3=>?_
    have hap2:=ig (sz:=1) (bytes:=16) (md:=.plain) (es:=am T) (xs:=am (bg body)) (b:=false) (len:=T.length) (s:=⟨h1,c3⟩) (by simp) q3 hsT (by decide) (by decide) (by decide) (fun y hy=>by obtain ⟨t,_,rfl⟩:=List.mem_map.1 hy; rfl) (by simp [am]; omega)
    have hsb:(am (bg body)).length=(bg body).length:=by simp [am]
    simp only [row,hsb] at hap2
    simp [h3,hap2,hv,hw]
    refine fin T _ go c3 h1 (by simp [fE,hk]) (by omega) (by omega) (fun k hk=>(low1 k (by omega)).trans (i4 k hk)) (by simp)
end Go.Proofs.YtjhogglgkjcacaaGreat
set_option maxRecDepth 20000
set_option maxHeartbeats 4000000
namespace Go.Proofs.YtjhogglgkjcacaaGreat
open Go.AM Go.Wb
theorem qK {e:List AV} {es:List (List AV)} {b:Bool} {s:St} {F:Bx (AV→St→Prop)} (h:F.v (.bool true) s):@qJ .neq (.sl (e::es) b) s F:=⟨.inr rfl,h⟩
def ec (w:List Nat):List (List AV):=w.map fun n:Nat=>[AV.int (n:Int)]
def kc (w:List Nat):AV:=if w=[] then .sc (.slice none 0 0) else row (ec w)
theorem si (w:List Nat):aP (ec w)=ec w:=bY (fun _=>rfl) w
mutual
theorem vi (key:ByteArray):∀ (s:Wb.Step) (i:Nat),(k8 key i s).length≤count s
 | .mk kind name low high conds body array subs expr,i=>by
  have:=kb key body 0
  simp only [k8,count]
  split
  ·simp
  ·cases h:dG key 0 body with
   | nil=>simp
   | cons w ws=>rw [h] at this; simp only [List.length_cons] at this ⊢; omega
theorem kb (key:ByteArray):∀ (l:List Wb.Step) (i:Nat),(dG key i l).length≤aB l
 | [],i=>by simp [dG]
 | s::ss,i=>by
  have h1:=vi key s i
  have h2:=kb key ss (i+1)
  simp only [dG,aB]
  cases h:k8 key i s with
  | nil=>simp only; omega
  | cons w ws=>rw [h] at h1; simp only at h1 ⊢; omega
end
theorem ue (key:ByteArray):∀ (N:Nat) (l:List Wb.Step),aB l<N→aB l≤1000→aG Pg Fn176.n [row (l.map Step.cells),.str key] (kc (dG key 0 l)):=by
 intro N
 induction N with
 | zero=>intro l hl; omega
 | succ N ih=>
  rintro l hl hN ⟨h0,c0⟩
  have hlen:=jR l
  refine Fn176.calls .frz ?_
  unfold Fn176.ac
  simp
  obtain ⟨W,hW⟩:∃ W,W=dG key 0 l:=⟨_,rfl⟩
  rw [←hW]
  refine bq 10 Fn176.W0 l (fun (i:Nat) r sl s'=>W=dG key i r) (by rfl) (by rfl) ?_ ?_ ?_
  ·exact ⟨by simp,hW⟩
  ·intro v h c hv hF hI
   simp only [dG] at hI
   subst hI
   simp [hv,kc]
   exact hF.retH
  ·intro i x xs v h c hi hx hl2 hv hF hI
   have hw:=ah (x:=(i:Int)+1) (by omega) (by omega)
   have hcc:aB l=aB (l.take i)+(count x+aB xs):=by
    conv=>lhs; rw [hl2]
    rw [dZ]; rfl
   have hcF:=hF.c
   obtain ⟨kind,name,low,high,conds,body,array,subs,⟨op,n2,form,ea,es,args⟩⟩:=x
   simp only [count] at hcc
   have hih:=ih body (by omega) (by omega)
   obtain ⟨h1,hh1⟩:∃ h1,h1=upd h c (some (.row 15 [(Wb.Step.mk kind name low high conds body array subs (.mk op n2 form ea es args)).cells] .live none)):=⟨_,rfl⟩
   have hF1:Fr c0 h0 h1 (c+1):=by rw [hh1]; exact hF.upd hcF (Nat.le_succ _)
   have q1:h1 c=_:=(congrFun hh1 c).trans af
   rw [Step.cells_mk] at hh1 q1
   simp only [dG,k8] at hI
   simp [hv,hi,hx,Step.cells_mk]
   rw [←hh1]
   by_cases hk:kind=3∧name=key
   ·obtain ⟨rfl,rfl⟩:=hk
    rw [if_pos ⟨rfl,rfl⟩] at hI
    simp only at hI
    subst hI
    simp [q1,bsI,an,kc,ec]
    exact hF1.retH
   rw [if_neg hk] at hI
   have rest:dG key 0 body=[]∨dG key 0 body≠[]:=Classical.em _
   have hbq:(BinOp.neq==BinOp.eql)=false:=by decide
   have hk3:kind=3→¬name=key:=fun h e=>hk ⟨h,e⟩
   rcases rest with hr | hr
   ·rw [hr] at hI hih
    simp only at hI
    by_cases h3:kind=3
    ·simp [q1,h3,hk3 h3]
     refine ACalls.pure hih fun c2 hc2=>?_
     simp [kc,hv,hw,hI,hbq]
     exact hF1.trans (Fr.le hc2)
    ·simp [q1,h3]
     refine ACalls.pure hih fun c2 hc2=>?_
     simp [kc,hv,hw,hI,hbq]
     exact hF1.trans (Fr.le hc2)
   ·obtain ⟨j,js,hj⟩:∃ j js,dG key 0 body=j::js:=by
     cases h:dG key 0 body with
     | nil=>exact absurd h hr
     | cons j js=>exact ⟨j,js,rfl⟩
    rw [hj] at hI hih
    simp only at hI
    have hjl:=kb key body 0
    rw [hj] at hjl
    simp only [List.length_cons] at hjl
    have hfin:∀ c2,apI 1 8 .plain (.sl [[.int (i:Int)]] true) (row ([AV.int (j:Int)]::js.map fun n:Nat=>[AV.int (n:Int)])) ⟨h1,c2⟩=some (.row c2 1 0 (js.length+2),⟨upd h1 c2 (some (.row 1 (ec (i::j::js)) .live none)),c2+1⟩):=by
     intro c2
     have:=db (sz:=1) (bytes:=8) (md:=.plain) (es:=[[.int (i:Int)]]) (xs:=[AV.int (j:Int)]::js.map fun n:Nat=>[AV.int (n:Int)]) (b:=false) (s:=⟨h1,c2⟩) (by decide) (by decide) (by decide) (fun e he=>by rw [List.mem_singleton.1 he]; rfl) (fun e he=>by
      rcases List.mem_cons.1 he with rfl | he
      ·rfl
      ·obtain ⟨n,_,rfl⟩:=List.mem_map.1 he; rfl) (by simp; omega) (.inl (by simp))
     rw [this]
     simp [newRow,ec]
     omega
    have hnt:aP (List.take (js.length+2) (ec (i::j::js)))=ec (i::j::js):=by rw [List.take_of_length_le (by simp [ec]),si]
    have hln:js.length+2≤(ec (i::j::js)).length:=by simp [ec]
    by_cases h3:kind=3
    ·simp [q1,h3,hk3 h3]
     refine ACalls.pure hih fun c2 hc2=>?_
     simp [kc,ec]
     refine qK ?_
     simp [bsI,an,hfin,hnt,hln,hI]
     exact ⟨rfl,((hF1.trans (Fr.le hc2)).upd (by omega) (Nat.le_refl _)).retH⟩
    ·simp [q1,h3]
     refine ACalls.pure hih fun c2 hc2=>?_
     simp [kc,ec]
     refine qK ?_
     simp [bsI,an,hfin,hnt,hln,hI]
     exact ⟨rfl,((hF1.trans (Fr.le hc2)).upd (by omega) (Nat.le_refl _)).retH⟩
end Go.Proofs.YtjhogglgkjcacaaGreat
set_option maxRecDepth 20000
set_option maxHeartbeats 4000000
namespace Go.Proofs.YtjhogglgkjcacaaGreat
open Go.AM Go.Wb
theorem nQ:∀ {es:List (List AV)},fL es→∀ e∈es,d5 e
 | [],_,e,he=>by simp at he
 | x::es,h,e,he=>by
  rcases List.mem_cons.1 he with rfl | he
  ·exact h.1
  ·exact nQ h.2 e he
theorem sC {l:List Wb.Step} (h:fL (l.map Step.cells)) {kind:Int} {name:ByteArray} {low high:List Wb.Bound} {conds:List Wb.Form} {body:List Wb.Step} {array:ByteArray} {subs:List Wb.Form} {expr:Wb.Expr} (hx:Wb.Step.mk kind name low high conds body array subs expr∈l) :
  low.length≤68719476736∧high.length≤68719476736∧fL (body.map Step.cells):=by
 have:=nQ h _ (List.mem_map.2 ⟨_,hx,rfl⟩)
 obtain ⟨op,n2,form,ea,es,args⟩:=expr
 rw [Step.cells_mk] at this
 simp at this
 exact ⟨this.1.1,this.2.1.1,this.2.2.2.1.2⟩
theorem pH (p:Wb.Prog) (hp:aW p=0) (hcnt:aB p.steps≤300) (key:ByteArray) (z:Wb.Step×List Wb.Step) (hz:ck p key=some z) (h0:Heap) (c0:Nat) :
  ACalls Pg Fn105.n [p.av,.str key] ⟨h0,c0⟩ fun av s'=>∃ g ver,av=.tup [.agg z.1.cells,.map g,.bool (cS z.2)]∧c0≤g∧g<s'.c∧s'.h g=some (.map (kvs AV.str (fun s:Side=>AV.agg (Side.rcells s)) (cz z.2)) ver)∧Fr c0 h0 s'.h s'.c:=by
 have hwy:=ue key _ p.steps (Nat.lt_succ_self _) (by omega)
 have hto:=tG p key
 have htot:=tC hz sE
 have hso:=gM hp hz
 have hwl:=kb key p.steps 0
 obtain ⟨way,hway⟩:∃ way,way=dG key 0 p.steps:=⟨_,rfl⟩
 rw [←hway] at hwy hto htot hwl
 obtain ⟨hne,_,hpl⟩:=hto.some z hz
 have hokl:∀ s∈dy p.steps way,isLoop s=true→ei s:=fun s hs hl=>hso.loops s (by rw [hpl,List.nil_append]; exact List.mem_filter.2 ⟨hs,hl⟩)
 have hokw:=hto.ok
 refine ACalls.small fun hsm=>?_
 have hsm:fL (p.steps.map Step.cells):=by simp [Prog.av] at hsm; exact hsm.2.2
 refine Fn105.calls .keep ?_
 unfold Fn105.ac
 obtain ⟨hA,hhA⟩:∃ hA,hA=upd (upd (upd h0 c0 (some (.row 2 [[row (p.arrays.map Array.cells),row (p.steps.map Step.cells)]] .live none))) (c0+1) (some (.row 15 [dY] .live none))) (c0+1+1) (some (.map [] (c0+1+1))):=⟨_,rfl⟩
 have bA0:hA c0=_:=((congrFun hhA c0).trans (ad (by omega))).trans ((ad (by omega)).trans af)
 have bA1:hA (c0+1)=_:=((congrFun hhA (c0+1)).trans (ad (by omega))).trans af
 have bA2:hA (c0+1+1)=_:=(congrFun hhA (c0+1+1)).trans af
 have lA:∀ k,k<c0→hA k=h0 k:=fun k hk=>by rw [hhA,ad (by omega),ad (by omega),ad (by omega)]
 simp only [dY] at hhA
 have nA:¬c0=c0+1+1:=by omega
 simp [Prog.av,nA]
 rw [←hhA]
 refine ACalls.pure hwy fun c1 hc1=>?_
 rw [show kc way=row (ec way) by unfold kc; rw [if_neg hne]]
 have hnl:(ec way).length=way.length:=by simp [ec]
 simp [hnl]
 obtain ⟨Inv,hInv⟩:∃ Inv:Nat→List Nat→Slots→St→Prop,Inv=fun (i:Nat) r sl s'=>∃ (cur:List Wb.Step) (X:Rg) (ver:Nat) (cs:List AV),sl 7=row (cur.map Step.cells)∧jU cur r∧gK (dy cur r) X=⟨z.1,cz z.2,cS z.2⟩∧(∀ s∈dy cur r,isLoop s=true→ei s) ∧
  s'.h (c0+1)=some (.row 15 [cs] .live none)∧cs.length=15∧(0<i→cs=X.s.cells)∧sl 6=.bool X.e∧s'.h (c0+1+1)=some (.map (kvs AV.str (fun s:Side=>AV.agg (Side.rcells s)) X.m) ver)∧c0+1+1<s'.c∧(∀ k,k<c0→s'.h k=h0 k)∧fL (cur.map Step.cells):=⟨_,rfl⟩
 refine bz 25 Fn105.W0 way Inv (by rfl) (by rfl) ?_ ?_ ?_
 ·rw [hInv]
  refine ⟨by simp,p.steps,⟨sE,[],false⟩,c0+1+1,dY,by simp,hokw,htot,hokl,bA1,rfl,fun h=>absurd h (by omega),by simp,by simpa [kvs] using bA2,by show c0+1+1<c1; omega,lA,hsm⟩
 ·intro v s' hv hI
  rw [hInv] at hI
  obtain ⟨cur,X,ver,cs,i1,i2,i3,i4,i5,i6,i7,i8,i9,i10,i11,i12⟩:=hI
  obtain ⟨h,c⟩:=s'
  simp only at i5 i9 i10 i11
  have hpos:0<way.length:=List.length_pos_iff.2 hne
  have hcs:=i7 hpos
  simp only [dy,gK] at i3
  have e1:X.s=z.1:=by rw [i3]
  have e2:X.m=cz z.2:=by rw [i3]
  have e3:X.e=cS z.2:=by rw [i3]
  rw [e3] at i8
  rw [e2] at i9
  rw [e1] at hcs
  subst hcs
  simp at i1 i8
  obtain ⟨⟨kind,name,low,high,conds,body,array,subs,⟨op,n2,form,ea,es,args⟩⟩,L⟩:=z
  simp only [Step.cells_mk] at i5 ⊢
  simp [hv,i5,i8]
  exact ⟨by omega,i10,⟨ver,i9⟩,⟨by show c0≤c; omega,fun k hk=>by show upd h (c0+1) _ k=_; rw [ad (by omega)]; exact i11 k hk⟩⟩
 ·intro i wi ws v s' hi hx hl2 hv hI
  rw [hInv] at hI
  obtain ⟨cur,X,ver,cs,i1,i2,i3,i4,i5,i6,i7,i8,i9,i10,i11,i12⟩:=hI
  obtain ⟨h,c⟩:=s'
  simp only at i5 i9 i10 i11
  have hw:=ah (x:=(i:Int)+1) (by omega) (by omega)
  obtain ⟨x,hcx⟩:∃ x,cur[wi]?=some x:=by
   cases hc:cur[wi]? with
   | none=>simp only [jU,hc] at i2
   | some x=>exact ⟨x,rfl⟩
  obtain ⟨hwi,hcx2⟩:=List.getElem?_eq_some_iff.1 hcx
  have ps:dy cur (wi::ws)=x::dy (Step.body x) ws:=by rw [dy,hcx]
  simp only [jU,hcx] at i2
  rw [ps] at i3 i4
  simp only [gK] at i3
  have hge:(ec way)[i]?=some [.int (wi:Int)]:=by simp [ec,hi,hx]
  simp at i1 i8
  have hlx:=i4 x List.mem_cons_self
  obtain ⟨S,hS⟩:∃ S,S=cT x:=⟨_,rfl⟩
  have hSd:S=cT x:=hS
  obtain ⟨kind,name,low,high,conds,body,array,subs,⟨op,n2,form,ea,es,args⟩⟩:=x
  simp only [Step.body] at i2 i3 i4
  have hss:=sC i12 (List.mem_of_getElem? hcx)
  obtain ⟨h1,hh1⟩:∃ h1,h1=upd h (c0+1) (some (.row 15 [(Wb.Step.mk kind name low high conds body array subs (.mk op n2 form ea es args)).cells] .live none)):=⟨_,rfl⟩
  have low1:∀ g,g≠c0+1→h1 g=h g:=fun g hg=>by rw [hh1,ad hg]
  have q1:h1 (c0+1)=_:=(congrFun hh1 (c0+1)).trans af
  have q2:=(low1 (c0+1+1) (by omega)).trans i9
  rw [Step.cells_mk] at hh1 q1
  have hd15:cs.drop 15=[]:=List.drop_of_length_le (by omega)
  simp [hv,hi,hge,i1,hwi,hcx2,Step.cells_mk,i5,i6,hd15]
  rw [←hh1]
  by_cases hk:kind=1
  case neg=>
   simp [q1,hk,hv,hw]
   rw [hInv]
   have hnl:isLoop (.mk kind name low high conds body array subs (.mk op n2 form ea es args))=false:=decide_eq_false hk
   rw [hnl] at i3
   refine ⟨body,⟨.mk kind name low high conds body array subs (.mk op n2 form ea es args),X.m,X.e⟩,ver,_,by simp,i2,i3,fun s hs=>i4 s (List.mem_cons_of_mem _ hs),q1,rfl,fun _=>by rw [Step.cells_mk],by simpa using i8,q2,i10,fun k hk=>(low1 k (by omega)).trans (i11 k hk),hss.2.2⟩
  subst hk
  have hl1:isLoop (.mk 1 name low high conds body array subs (.mk op n2 form ea es args))=true:=rfl
  rw [hl1,←hS] at i3
  obtain ⟨hlo,hhi⟩:=hlx hl1
  have hbd:uC (.mk 1 name low high conds body array subs (.mk op n2 form ea es args))=(S.lo&&S.hi&&decide (S.high<S.low)):=by rw [hS]; rfl
  rw [hbd] at i3
  obtain ⟨hb,hhb⟩:∃ hb,hb=upd h1 c (some (.row 4 [[.int 0,.int 0,.bool false,.bool false]] .live none)):=⟨_,rfl⟩
  have lowb:∀ g,g<c→hb g=h1 g:=fun g hg=>by rw [hhb,ad (by omega)]
  have bc:hb c=_:=(congrFun hhb c).trans af
  have b1:=(lowb (c0+1) (by omega)).trans q1
  have b2:=(lowb (c0+1+1) (by omega)).trans q2
  have hll:=hss.1
  have hhl:=hss.2.1
  have nc1:¬c0+1=c:=by omega
  simp [q1,nc1]
  rw [←hhb]
  obtain ⟨Inv1,hInv1⟩:∃ Inv:Nat→List Wb.Bound→Slots→St→Prop,Inv=fun (j:Nat) r sl s'=>∃ (n:Int) (k:Bool),s'.h c=some (.row 4 [[.int n,.int 0,.bool k,.bool false]] .live none)∧dr r n k=dr low 0 false∧(∀ g,g<c→s'.h g=hb g)∧c+1≤s'.c:=⟨_,rfl⟩
  refine bz 41 Fn105.W1 low Inv1 (by rfl) (by rfl) ?_ ?_ ?_
  ·rw [hInv1]; exact ⟨by simp,0,false,bc,rfl,fun _ _=>rfl,Nat.le_refl _⟩
  ·intro v0 s' hv0 hI
   rw [hInv1] at hI
   obtain ⟨lowv,lok,j1,j2,j3,j4⟩:=hI
   obtain ⟨h2,c2⟩:=s'
   simp only at j1 j3 j4
   simp only [dr] at j2
   have b3:=(j3 (c0+1) (by omega)).trans b1
   simp [hv0,b3]
   obtain ⟨Inv2,hInv2⟩:∃ Inv:Nat→List Wb.Bound→Slots→St→Prop,Inv=fun (j:Nat) r sl s'=>∃ (n:Int) (k:Bool),s'.h c=some (.row 4 [[.int lowv,.int n,.bool lok,.bool k]] .live none)∧cN r n k=cN high 0 false∧(∀ g,g<c→s'.h g=hb g)∧c+1≤s'.c:=⟨_,rfl⟩
   refine bz 76 Fn105.W2 high Inv2 (by rfl) (by rfl) ?_ ?_ ?_
   ·rw [hInv2]; exact ⟨by simp,0,false,j1,rfl,j3,j4⟩
   ·intro v2 s' hv2 hI
    rw [hInv2] at hI
    obtain ⟨highv,hok,k1,k2,k3,k4⟩:=hI
    obtain ⟨h3,c3⟩:=s'
    simp only at k1 k3 k4
    simp only [cN] at k2
    have eS:S=⟨lowv,highv,lok,hok⟩:=by
     rw [hS]
     simp only [cT]
     rw [←j2,←k2]
    have r1:=(k3 (c0+1) (by omega)).trans b1
    have r2:=(k3 (c0+1+1) (by omega)).trans b2
    have hmu:muI (.one .str) (.map (c0+1+1)) (.str name) (.agg [.int lowv,.int highv,.bool lok,.bool hok]) ⟨h3,c3⟩=some ⟨upd h3 (c0+1+1) (some (.map (kvs AV.str (fun s:Side=>AV.agg (Side.rcells s)) (cB X.m name S)) c3)),c3+1⟩:=by
     have:=kL fp (f:=fun s:Side=>AV.agg (Side.rcells s)) (s:=⟨h3,c3⟩) r2 name S
     rw [eS] at this ⊢
     exact this
    have fin:∀ (sl':Slots) (b:Bool),sl' 7=row (body.map Step.cells)→sl' 6=.bool b→b=(X.e||(S.lo&&S.hi&&decide (S.high<S.low)))→Inv (i+1) ws sl' ⟨upd h3 (c0+1+1) (some (.map (kvs AV.str (fun s:Side=>AV.agg (Side.rcells s)) (cB X.m name S)) c3)),c3+1⟩:=by
     intro sl' b e7 e6 eb
     rw [hInv]
     refine ⟨body,⟨.mk 1 name low high conds body array subs (.mk op n2 form ea es args),cB X.m name S,b⟩,c3,_,e7,i2,by rw [eb]; exact i3,fun s hs=>i4 s (List.mem_cons_of_mem _ hs),?_,rfl,fun _=>by rw [Step.cells_mk],e6,af,by show c0+1+1<c3+1; omega,fun k hk=>?_,hss.2.2⟩
     ·show upd h3 (c0+1+1) _ (c0+1)=_
      rw [ad (by omega)]; exact r1
     ·show upd h3 (c0+1+1) _ k=_
      rw [ad (by omega),k3 k (by omega),lowb k (by omega),low1 k (by omega)]; exact i11 k hk
    have nc2:¬c=c0+1+1:=by omega
    obtain ⟨xe,hxe⟩:∃ xe,xe=X.e:=⟨_,rfl⟩
    rw [←hxe] at i8 fin
    cases xe
    ·cases lok
     ·simp [hv2,hv,r1,k1,hmu,i8,nc2,hw]
      exact fin _ false (by simp) (by simp) (by rw [eS]; simp)
     ·cases hok
      ·simp [hv2,hv,r1,k1,hmu,i8,nc2,hw]
       exact fin _ false (by simp) (by simp) (by rw [eS]; simp)
      ·simp [hv2,hv,r1,k1,hmu,i8,nc2,hw]
       exact fin _ (decide (highv<lowv)) (by simp) (by simp) (by rw [eS]; simp)
    ·simp [hv2,hv,r1,k1,hmu,i8,nc2,hw]
     exact fin _ true (by simp) (by simp) (by simp)
   ·intro j b bs v2 s' hj hbx hl3 hv2 hI
    rw [hInv2] at hI
    obtain ⟨n,k,k1,k2,k3,k4⟩:=hI
    obtain ⟨h3,c3⟩:=s'
    simp only at k1 k3 k4
    have hw3:=ah (x:=(j:Int)+1) (by omega) (by omega)
    have hob:=hhi _ (aR hl3)
    obtain ⟨⟨bc',bt⟩,bd⟩:=b
    have hob1:=hob.1.const
    have hob2:=hob.2
    simp only at hob1 hob2
    obtain ⟨h4,hh4⟩:∃ h4,h4=upd h3 c3 (some (.row 3 [[.int bc',row (bt.map Term.cells),.int bd]] .live none)):=⟨_,rfl⟩
    have low4:∀ g,g<c3→h4 g=h3 g:=fun g hg=>by rw [hh4,ad (by omega)]
    have q4:h4 c3=_:=(congrFun hh4 c3).trans af
    have r4:=(low4 c (by omega)).trans k1
    simp [hv2,hj,hbx,Bound.cells]
    rw [←hh4]
    refine ACalls.pure (pK bc' bd (by omega) (by omega) (by omega)) fun c5 hc5=>?_
    by_cases ht:bt=[]
    case neg=>
     simp [q4,ht,hv2,hw3]
     rw [hInv2]
     exact ⟨n,k,r4,by rw [←k2]; simp [cN,ht],fun g hg=>(low4 g (by omega)).trans (k3 g hg),by show _≤c5; omega⟩
    subst ht
    have fin:∀ sl',(k=false∨bc' / bd<n)→Inv2 (j+1) bs sl' ⟨upd h4 c (some (.row 4 [[.int lowv,.int (bc' / bd),.bool lok,.bool true]] .live none)),c5⟩:=by
     intro sl' hup
     rw [hInv2]
     refine ⟨bc' / bd,true,af,by rw [←k2]; simp only [cN]; rw [if_pos ⟨trivial,hup⟩],fun g hg=>?_,by show _≤c5; omega⟩
     show upd h4 c _ g=_
     rw [ad (by omega)]; exact (low4 g (by omega)).trans (k3 g hg)
    cases k
    ·simp [q4,r4,hv2,hw3]
     exact fin _ (.inl rfl)
    ·by_cases hup:bc' / bd<n
     ·simp [q4,r4,hup,hv2,hw3]
      exact fin _ (.inr hup)
     ·simp [q4,r4,hup,hv2,hw3]
      rw [hInv2]
      exact ⟨n,true,r4,by rw [←k2]; simp [cN,hup],fun g hg=>(low4 g (by omega)).trans (k3 g hg),by show _≤c5; omega⟩
  ·intro j b bs v0 s' hj hbx hl3 hv0 hI
   rw [hInv1] at hI
   obtain ⟨n,k,j1,j2,j3,j4⟩:=hI
   obtain ⟨h2,c2⟩:=s'
   simp only at j1 j3 j4
   have hw3:=ah (x:=(j:Int)+1) (by omega) (by omega)
   have hob:=hlo _ (aR hl3)
   obtain ⟨⟨bc',bt⟩,bd⟩:=b
   have hob1:=hob.1.const
   have hob2:=hob.2
   simp only at hob1 hob2
   have hwn:IntKind.i64.wrap (-bc') = -bc':=ah (by omega) (by omega)
   have hub:=qU hob2.1 1000000 hob1
   have hwu:IntKind.i64.wrap (-(-bc' / bd))=upI bc' bd:=by
    have:-(-bc' / bd)=upI bc' bd:=rfl
    rw [this]; exact ah (by omega) (by omega)
   obtain ⟨h4,hh4⟩:∃ h4,h4=upd h2 c2 (some (.row 3 [[.int bc',row (bt.map Term.cells),.int bd]] .live none)):=⟨_,rfl⟩
   have low4:∀ g,g<c2→h4 g=h2 g:=fun g hg=>by rw [hh4,ad (by omega)]
   have q4:h4 c2=_:=(congrFun hh4 c2).trans af
   have r4:=(low4 c (by omega)).trans j1
   simp [hv0,hj,hbx,Bound.cells,hwn]
   rw [←hh4]
   refine ACalls.pure (pK (-bc') bd (by omega) (by omega) (by omega)) fun c5 hc5=>?_
   by_cases ht:bt=[]
   case neg=>
    simp [q4,ht,hv0,hw3]
    rw [hInv1]
    exact ⟨n,k,r4,by rw [←j2]; simp [dr,ht],fun g hg=>(low4 g (by omega)).trans (j3 g hg),by show _≤c5; omega⟩
   subst ht
   have fin:∀ sl',(k=false∨n<upI bc' bd)→Inv1 (j+1) bs sl' ⟨upd h4 c (some (.row 4 [[.int (upI bc' bd),.int 0,.bool true,.bool false]] .live none)),c5⟩:=by
    intro sl' hup
    rw [hInv1]
    refine ⟨upI bc' bd,true,af,by rw [←j2]; simp only [dr]; rw [if_pos ⟨trivial,hup⟩],fun g hg=>?_,by show _≤c5; omega⟩
    show upd h4 c _ g=_
    rw [ad (by omega)]; exact (low4 g (by omega)).trans (j3 g hg)
   cases k
   ·simp [q4,r4,hv0,hw3,hwu]
    exact fin _ (.inl rfl)
   ·by_cases hup:n<upI bc' bd
    ·simp [q4,r4,hup,hv0,hw3,hwu]
     exact fin _ (.inr hup)
    ·simp [q4,r4,hup,hv0,hw3,hwu]
     rw [hInv1]
     exact ⟨n,true,r4,by rw [←j2]; simp [dr,hup],fun g hg=>(low4 g (by omega)).trans (j3 g hg),by show _≤c5; omega⟩
end Go.Proofs.YtjhogglgkjcacaaGreat
set_option maxRecDepth 20000
set_option maxHeartbeats 4000000
namespace Go.Proofs.YtjhogglgkjcacaaGreat
open Go.AM Go.Wb
def dU (x y:List (ByteArray×Side)) (n:ByteArray):Side:=if fC n pA=true then aT x (gB n pA) else aT y (gB n pB)
theorem qB (x y:List (ByteArray×Side)) (n:ByteArray):dU x y (pA++n)=aT x n:=by
 unfold dU
 rw [if_pos (by unfold fC; rw [lp]; simp),je]
theorem qC (x y:List (ByteArray×Side)) (n:ByteArray):dU x y (pB++n)=aT y n:=by
 unfold dU
 have:fC (pB++n) pA=false:=by
  unfold fC
  have e:(pB++n).extract 0 pA.size=pB:=lp pB n
  rw [e]
  have:¬pB=pA:=by decide
  simp [this]
 rw [if_neg (by rw [this]; decide),je]
theorem rU {x y:List (ByteArray×Side)} (hx:∀ p∈x,SideOk p.2) (hy:∀ p∈y,SideOk p.2) (n:ByteArray):SideOk (dU x y n):=by
 unfold dU
 split
 ·exact dz hx _
 ·exact dz hy _
def iQ (f:Wb.Form):List Wb.Term:=f.terms.map fun t=>⟨pA++t.name,t.coef⟩
def r8 (g:Wb.Form):List Wb.Term:=g.terms.map fun t=>⟨pB++t.name,-t.coef⟩
def cd (f g:Wb.Form):Wb.Form:=⟨f.const-g.const,iQ f++r8 g⟩
def mN (x y:List (ByteArray×Side)) (t:Wb.Term):Int×Side:=(t.coef,dU x y t.name)
theorem r9 (x y:List (ByteArray×Side)) (f g:Wb.Form):(cd f g).terms.map (mN x y)=nI x y f g:=by
 simp only [cd,iQ,r8,nI,List.map_append,List.map_map]
 congr 1
 ·refine List.map_congr_left fun t _=>?_
  show (t.coef,dU x y (pA++t.name))=_
  rw [qB]
 ·refine List.map_congr_left fun t _=>?_
  show (-t.coef,dU x y (pB++t.name))=_
  rw [qC]
theorem sh (x y:List (ByteArray×Side)) (f g:Wb.Form):df x y f g=(!eJ (f.const-g.const) ((cd f g).terms.map (·.coef))||(((cd f g).terms.map (mN x y)).all (fun p=>p.2.lo&&p.2.hi) &&
  !decide ((aZ ((cd f g).terms.map fun t=>(t.coef,(dU x y t.name).low,(dU x y t.name).high)) (f.const-g.const) (f.const-g.const)).1≤0∧0≤(aZ ((cd f g).terms.map fun t=>(t.coef,(dU x y t.name).low,(dU x y t.name).high)) (f.const-g.const) (f.const-g.const)).2))):=by
 unfold df
 rw [←r9]
 simp only [List.map_map]
 rfl
theorem tA (x y:List (ByteArray×Side)) (a b:AccW):ci x y true a b=true:=by simp [ci]
structure DfI (h:Heap) (c gf:Nat) (d:Int) (tv:AV) (L:List Wb.Term):Prop where
 form:h gf=some (.row 2 [[.int d,tv]] .live none)
 terms:RowAt h 2 tv (L.map Term.cells)
 lt:gf<c
 own:∀ g,aq tv g→gf<g∧g<c
theorem DfI.fr {h h':Heap} {c c' gf:Nat} {d:Int} {tv:AV} {L:List Wb.Term} (H:DfI h c gf d tv L) (hh:∀ k,k<c→h' k=h k) (hc:c≤c'):DfI h' c' gf d tv L:=
 ⟨(hh _ H.lt).trans H.form,H.terms.frame fun k hk=>hh k (H.own k hk).2,by have:=H.lt; omega,fun g hg=>by have:=H.own g hg; omega⟩
theorem DfI.push {h:Heap} {c gf:Nat} {d:Int} {tv:AV} {L:List Wb.Term} (H:DfI h c gf d tv L) (hL:L.length≤1000) (t:Wb.Term) (b:Bool) :
  ∃ h2,apI 2 24 .plain tv (.sl [[.str t.name,.int t.coef]] b) ⟨h,c⟩=some (.row c 2 0 (L.length+1),⟨h2,c+1⟩)∧h2 gf=some (.row 2 [[.int d,tv]] .live none)∧DfI (upd h2 gf (some (.row 2 [[.int d,.row c 2 0 (L.length+1)]] .live none))) (c+1) gf d (.row c 2 0 (L.length+1)) (L++[t])∧∀ k,k≠c→¬aq tv k→h2 k=h k:=by
 have hlt:=H.lt
 obtain ⟨h2,p1,p2,p3,p4⟩:=H.terms.push (c:=c) (bytes:=24) (md:=.plain) (b:=b) (e:=[.str t.name,.int t.coef]) (by decide) (by decide) (by decide) (by decide) rfl (fun e he=>by obtain ⟨z,_,rfl⟩:=List.mem_map.1 he; rfl) (by simp; omega) (fun g hg=>(H.own g hg).2)
 simp only [List.length_map] at p1 p3
 have hgf:h2 gf=_:=(p4 gf (by omega) fun hr=>by have:=H.own gf hr; omega).trans H.form
 refine ⟨h2,p1,hgf,⟨af,.inr ⟨c,by simp,?_⟩,by omega,fun g hg=>by have:=aJ.1 hg; omega⟩,p4⟩
 rw [ad (by omega),p2]; simp [Term.cells]
theorem catA (n:ByteArray) (h:n.size≤1000):dA .add ⟨#[97,32]⟩ n=some (.string (pA++n)):=by
 simp only [dA]
 have h1:(⟨#[97,32]⟩:ByteArray).size=2:=rfl
 have h2:IntKind.i64.max=9223372036854775807:=rfl
 rw [if_neg (by rw [h1,h2]; omega)]
 rfl
theorem catB (n:ByteArray) (h:n.size≤1000):dA .add ⟨#[98,32]⟩ n=some (.string (pB++n)):=by
 simp only [dA]
 have h1:(⟨#[98,32]⟩:ByteArray).size=2:=rfl
 have h2:IntKind.i64.max=9223372036854775807:=rfl
 rw [if_neg (by rw [h1,h2]; omega)]
 rfl
end Go.Proofs.YtjhogglgkjcacaaGreat
set_option maxRecDepth 20000
set_option maxHeartbeats 8000000
namespace Go.Proofs.YtjhogglgkjcacaaGreat
open Go.AM Go.Wb
theorem vK (p:Wb.Prog) (hz:aW p=0) (hcnt:aB p.steps≤300) (a b:ByteArray) (u w:Wb.Step×List Wb.Step) (hsa:ck p a=some u) (hsb:ck p b=some w) :
  aG Pg Fn34.n [p.av,.str a,.str b] (.bool (jr u w)):=by
 rintro ⟨h0,c0⟩
 have hr1:=fun h c=>pH p hz hcnt a u hsa h c
 have hr2:=fun h c=>pH p hz hcnt b w hsb h c
 simp only [Prog.av] at hr1 hr2
 have ou:=gM hz hsa
 have ow:=gM hz hsb
 have au:=jH ou
 have aw:=jH ow
 have nu:=pq hz hsa
 have nw:=pq hz hsb
 have lu:=iM ou
 have lw:=iM ow
 have ha1:=pI u.1 ou.expr ou.nr
 have ha2:=pI w.1 ow.expr ow.nr
 have hxs:∀ p∈cz u.2,SideOk p.2:=ja ou.loops
 have hys:∀ p∈cz w.2,SideOk p.2:=ja ow.loops
 obtain ⟨V,hV⟩:∃ V,V=jr u w:=⟨_,rfl⟩
 rw [←hV]
 unfold jr at hV
 obtain ⟨A,hA⟩:∃ A,A=dH u.1:=⟨_,rfl⟩
 obtain ⟨B,hB⟩:∃ B,B=dH w.1:=⟨_,rfl⟩
 obtain ⟨x,hx⟩:∃ x,x=cz u.2:=⟨_,rfl⟩
 obtain ⟨y,hy⟩:∃ y,y=cz w.2:=⟨_,rfl⟩
 obtain ⟨nn1,hn1⟩:∃ n,n=cS u.2:=⟨_,rfl⟩
 obtain ⟨nn2,hn2⟩:∃ n,n=cS w.2:=⟨_,rfl⟩
 rw [←hA,←hB,←hx,←hy,←hn1,←hn2] at hV
 rw [←hA] at au nu lu ha1
 rw [←hB] at aw nw lw ha2
 rw [←hx] at hxs
 rw [←hy] at hys
 rw [←hx,←hn1] at hr1
 rw [←hy,←hn2] at hr2
 clear ou ow hA hB hx hy hn1 hn2 hsa hsb
 obtain ⟨⟨k1,n1,lo1,hi1,cs1,bd1,ar1,sb1,⟨o1,m1,f1,ea1,es1,as1⟩⟩,L1⟩:=u
 obtain ⟨⟨k2,n2,lo2,hi2,cs2,bd2,ar2,sb2,⟨o2,m2,f2,ea2,es2,as2⟩⟩,L2⟩:=w
 rw [Step.av_mk] at ha1 ha2
 simp only [Step.cells_mk] at hr1 hr2
 refine Fn34.calls .frz ?_
 unfold Fn34.ac
 obtain ⟨hA,hhA⟩:∃ hA,hA=upd h0 c0 (some (.row 2 [[row (p.arrays.map Array.cells),row (p.steps.map Step.cells)]] .live none)):=⟨_,rfl⟩
 have hFA:Fr c0 h0 hA (c0+1):=by rw [hhA]; exact (Fr.refl _ _).upd (Nat.le_refl _) (Nat.le_succ _)
 have bA:hA c0=_:=(congrFun hhA c0).trans af
 simp [Prog.av]
 rw [←hhA]
 refine (hr1 hA (c0+1)).mono ?_
 rintro av ⟨h1,c1⟩ hc1 ⟨gx,vx,rfl,gx1,gx2,mx,hF1⟩
 simp only at hc1 gx2 mx hF1
 obtain ⟨h2,hh2⟩:∃ h2,h2=upd (upd (upd (upd h1 c1 (some (.row 15 [dY] .live none))) (c1+1) (some (.row 1 [[.sc (.map none)]] .live none))) c1 (some (.row 15 [(Wb.Step.mk k1 n1 lo1 hi1 cs1 bd1 ar1 sb1 (.mk o1 m1 f1 ea1 es1 as1)).cells] .live none))) (c1+1) (some (.row 1 [[.map gx]] .live none)):=⟨_,rfl⟩
 have lowh2:∀ k,k<c1→h2 k=h1 k:=fun k hk=>by rw [hh2,ad (by omega),ad (by omega),ad (by omega),ad (by omega)]
 have h2a:h2 c1=_:=((congrFun hh2 c1).trans (ad (by omega))).trans af
 have h2b:h2 (c1+1)=_:=(congrFun hh2 (c1+1)).trans af
 rw [Step.cells_mk] at hh2 h2a
 simp only [dY] at hh2
 have h20:h2 c0=_:=(lowh2 c0 (by omega)).trans ((hF1.h c0 (by omega)).trans bA)
 simp
 rw [←hh2]
 simp [h20]
 refine (hr2 h2 (c1+1+1)).mono ?_
 rintro av ⟨h3,c2⟩ hc2 ⟨gy,vy,rfl,gy1,gy2,my,hF3⟩
 simp only at hc2 gy2 my hF3
 obtain ⟨h4,hh4⟩:∃ h4,h4=upd (upd (upd (upd h3 c2 (some (.row 15 [dY] .live none))) (c2+1) (some (.row 1 [[.sc (.map none)]] .live none))) c2 (some (.row 15 [(Wb.Step.mk k2 n2 lo2 hi2 cs2 bd2 ar2 sb2 (.mk o2 m2 f2 ea2 es2 as2)).cells] .live none))) (c2+1) (some (.row 1 [[.map gy]] .live none)):=⟨_,rfl⟩
 have lowh4:∀ k,k<c2→h4 k=h3 k:=fun k hk=>by rw [hh4,ad (by omega),ad (by omega),ad (by omega),ad (by omega)]
 have h4a:h4 c2=_:=((congrFun hh4 c2).trans (ad (by omega))).trans af
 have h4b:h4 (c2+1)=_:=(congrFun hh4 (c2+1)).trans af
 rw [Step.cells_mk] at hh4 h4a
 simp only [dY] at hh4
 simp
 rw [←hh4]
 have q1:h4 c1=_:=(lowh4 c1 (by omega)).trans ((hF3.h c1 (by omega)).trans h2a)
 have q1b:h4 (c1+1)=_:=(lowh4 (c1+1) (by omega)).trans ((hF3.h (c1+1) (by omega)).trans h2b)
 have mx4:h4 gx=_:=(lowh4 gx (by omega)).trans ((hF3.h gx (by omega)).trans ((lowh2 gx (by omega)).trans mx))
 have my4:h4 gy=_:=(lowh4 gy (by omega)).trans my
 have hlow:∀ h:Heap,(∀ k,k<c2+1+1→h k=h4 k)→retH c0 h0 h=h0:=fun h hh=>ay fun k hk=>by
  rw [hh k (by omega),lowh4 k (by omega),hF3.h k (by omega),lowh2 k (by omega),hF1.h k (by omega)]; exact hFA.h k hk
 by_cases hnn:(nn1||nn2)=true
 ·rw [hnn] at hV
  have hVt:V=true:=by rw [hV]; simp [tA]
  cases nn1
  ·have:nn2=true:=by simpa using hnn
   subst this
   simp [hVt]
   exact hlow _ fun _ _=>rfl
  ·simp [hVt]
   exact hlow _ fun _ _=>rfl
 obtain ⟨rfl,rfl⟩:nn1=false∧nn2=false:=by cases nn1 <;> cases nn2 <;> simp at hnn ⊢
 simp only [Bool.or_self] at hV
 clear hh4 hh2 hhA
 simp [q1]
 refine ACalls.pure ha1 fun c8 hc8=>?_
 simp
 refine bq 48 Fn34.W0 A (fun (i:Nat) r sl s'=>V=r.all fun a=>B.all fun b=>ci x y false a b) (by rfl) (by rfl) ?_ ?_ ?_
 ·exact ⟨by simp,hV⟩
 ·intro v h c hv hF hI
  simp at hI
  simp [hv,hI]
  exact hlow _ fun k hk=>hF.h k (by omega)
 ·intro i a rs v h c hi hax hl hv hF hI
  have hw1:=ah (x:=(i:Int)+1) (by omega) (by omega)
  have hcF:=hF.c
  have oa:=au a (aR hl)
  have na:=nu a (aR hl)
  obtain ⟨arr,subs,sets⟩:=a
  obtain ⟨h5,hh5⟩:∃ h5,h5=upd h c (some (.row 3 [[.str arr,row (subs.map Form.cells),.bool sets]] .live none)):=⟨_,rfl⟩
  have hF5:Fr c8 h4 h5 (c+1):=by rw [hh5]; exact hF.upd hcF (Nat.le_succ _)
  have q5:h5 c=_:=(congrFun hh5 c).trans af
  have q5c:=(hF5.h c2 (by omega)).trans h4a
  simp [hv,hi,hax,AccW.cells]
  rw [←hh5]
  simp [q5c]
  refine ACalls.pure ha2 fun c9 hc9=>?_
  simp
  obtain ⟨rest,hrest⟩:∃ rest,rest=rs.all fun a=>B.all fun b=>ci x y false a b:=⟨_,rfl⟩
  simp only [List.all_cons] at hI
  rw [←hrest] at hI
  refine bq 55 Fn34.W1 B (fun (j:Nat) r sl s'=>V=((r.all fun b=>ci x y false ⟨arr,subs,sets⟩ b)&&rest)) (by rfl) (by rfl) ?_ ?_ ?_
  ·exact ⟨by simp,hI⟩
  ·intro v2 h6 c10 hv2 hF6 hI2
   simp at hI2
   simp [hv2,hv,hw1]
   exact ⟨hF5.trans ((Fr.le hc9).trans hF6),by rw [hI2,hrest]⟩
  ·intro j b bs v2 h6 c10 hj hbx hl2 hv2 hF6 hI2
   have hw2:=ah (x:=(j:Int)+1) (by omega) (by omega)
   have hcF6:=hF6.c
   have ob:=aw b (aR hl2)
   have nb:=nw b (aR hl2)
   obtain ⟨arr2,subs2,sets2⟩:=b
   obtain ⟨h7,hh7⟩:∃ h7,h7=upd h6 c10 (some (.row 3 [[.str arr2,row (subs2.map Form.cells),.bool sets2]] .live none)):=⟨_,rfl⟩
   have hF7:Fr c9 h5 h7 (c10+1):=by rw [hh7]; exact hF6.upd hcF6 (Nat.le_succ _)
   have q7:h7 c10=_:=(congrFun hh7 c10).trans af
   have q7c:=(hF7.h c (by omega)).trans q5
   have ne1:¬c10=c:=by omega
   have ne2:¬c=c10:=by omega
   simp only [List.all_cons] at hI2
   simp [hv2,hj,hbx,AccW.cells]
   rw [←hh7]
   have hcont:ci x y false ⟨arr,subs,sets⟩ ⟨arr2,subs2,sets2⟩=true→V=((bs.all fun b=>ci x y false ⟨arr,subs,sets⟩ b)&&rest):=fun hp=>by rw [hI2,hp,Bool.true_and]
   by_cases har:arr=arr2
   case neg=>
    have hp:ci x y false ⟨arr,subs,sets⟩ ⟨arr2,subs2,sets2⟩=true:=by simp [ci,har]
    simp [q7,q7c,har,hv2,hw2]
    exact ⟨hF7,hcont hp⟩
   subst har
   by_cases hss:sets=false∧sets2=false
   ·obtain ⟨rfl,rfl⟩:=hss
    have hp:ci x y false ⟨arr,subs,false⟩ ⟨arr,subs2,false⟩=true:=by simp [ci]
    simp [q7,q7c,hv2,hw2]
    exact ⟨hF7,hcont hp⟩
   have hsl:=nH oa ob
   simp only at hsl
   have hpe:ci x y false ⟨arr,subs,sets⟩ ⟨arr,subs2,sets2⟩=(subs.zip subs2).any fun p=>df x y p.1 p.2:=by
    cases sets <;> cases sets2 <;> first | (exfalso; simp at hss; done) | simp [ci]
   have hfull:(subs.zip subs2).take subs.length=subs.zip subs2:=List.take_of_length_le (by simp; omega)
   have hk3:∀ k,k<c8→h7 k=h4 k:=fun k hk=>(hF7.h k (by omega)).trans (hF5.h k (by omega))
   have hsub4:subs.length≤4:=by
    have oa':ek p.arrays arr subs:=oa
    obtain ⟨_,aa,h1,_,_,h4,_⟩:=oa'
    have:=((mH hz).arrays aa (List.mem_of_getElem? h1)).len
    omega
   have of1:∀ f∈subs,OkForm f:=by obtain ⟨_,_,_,_,_,_,h5⟩:=oa; exact h5
   have of2:∀ f∈subs2,OkForm f:=by obtain ⟨_,_,_,_,_,_,h5⟩:=ob; exact h5
   have hcase:sets=true∨(sets=false∧sets2=true):=by
    cases h1:sets with
    | true=>exact .inl rfl
    | false=>
     cases h2:sets2 with
     | true=>exact .inr ⟨rfl,rfl⟩
     | false=>exact absurd ⟨h1,h2⟩ hss
   rcases hcase with rfl | ⟨rfl,rfl⟩
   all_goals
    simp [q7,q7c]
    refine bq 77 Fn34.W2 subs (fun (k:Nat) r sl s'=>sl 17=.bool (((subs.zip subs2).take k).any fun p=>df x y p.1 p.2)) (by rfl) (by rfl) ?_ ?_ ?_
    ·simp
    ·intro v4 h8 c11 hv4 hF8 hI4
     rw [hfull] at hI4
     cases hany:(subs.zip subs2).any fun p=>df x y p.1 p.2 with
     | false=>
      rw [hany] at hpe hI4
      rw [hpe,Bool.false_and,Bool.false_and] at hI2
      simp at hI4
      simp [hv4,hI4,hI2]
      exact hlow _ fun k hk=>(hF8.h k (by omega)).trans (hk3 k (by omega))
     | true=>
      rw [hany] at hpe hI4
      simp at hI4
      simp [hv4,hI4,hv2,hw2]
      exact ⟨hF7.trans hF8,hcont hpe⟩
    ·intro k f fs v4 h8 c11 hk hfx hl4 hv4 hF8 hI4
     have hcF8:=hF8.c
     have hk2:k<subs2.length:=by omega
     have hw4:=ah (x:=(k:Int)+1) (by omega) (by omega)
     have q7':=(hF8.h c10 (by omega)).trans q7
     have q7c':=(hF8.h c (by omega)).trans q7c
     have of:=of1 f (aR hl4)
     have og:=of2 _ (List.getElem_mem hk2)
     have nf:=na f (aR hl4)
     have ng:=nb subs2[k] (List.getElem_mem hk2)
     have htk:(subs.zip subs2).take (k+1)=(subs.zip subs2).take k++[(f,subs2[k])]:=by
      rw [List.take_add_one,List.getElem?_eq_getElem (by simp; omega)]
      simp [hfx]
     obtain ⟨g,hg⟩:∃ g,g=subs2[k]:=⟨_,rfl⟩
     rw [←hg] at og ng htk
     have oc1:=of.const
     have oc2:=og.const
     have ol1:=of.len
     have ol2:=og.len
     have hwd:IntKind.i64.wrap (f.const-g.const)=f.const-g.const:=ah (by omega) (by omega)
     obtain ⟨d,hd⟩:∃ d,d=f.const-g.const:=⟨_,rfl⟩
     rw [←hd] at hwd
     have ne3:¬c=c11:=by omega
     have ne4:¬c10=c11:=by omega
     obtain ⟨h9,hh9⟩:∃ h9,h9=upd h8 c11 (some (.row 2 [[.int d,.sl [] true]] .live none)):=⟨_,rfl⟩
     have low9:∀ k,k<c11→h9 k=h8 k:=fun k hk=>by rw [hh9,ad (by omega)]
     have q97:=(low9 c10 (by omega)).trans q7'
     have q97c:=(low9 c (by omega)).trans q7c'
     have hD0:DfI h9 (c11+1) c11 d (.sl [] true) []:=⟨(congrFun hh9 c11).trans af,.inl ⟨rfl,rfl⟩,Nat.lt_succ_self _,fun g hg=>absurd hg cQ⟩
     simp [hv4,hk,hfx,hk2,q7',q7c',←hg,Form.cells,hwd,←hd,aI,ne3,ne4]
     rw [←hh9]
     obtain ⟨Inv3,hInv3⟩:∃ Inv:Nat→List Wb.Term→Slots→St→Prop,Inv=fun (j:Nat) r sl s'=>∃ tv,DfI s'.h s'.c c11 d tv ((f.terms.take j).map fun t=>⟨pA++t.name,t.coef⟩)∧∀ k,k<c11→s'.h k=h8 k:=⟨_,rfl⟩
     refine bz 101 Fn34.W3 f.terms Inv3 (by rfl) (by rfl) ?_ ?_ ?_
     ·rw [hInv3]; exact ⟨by simp,.sl [] true,by simpa using hD0,low9⟩
     rotate_left
     ·intro j t ts v5 s' hj htx hl5 hv5 hI5
      rw [hInv3] at hI5
      obtain ⟨tv,D,l5⟩:=hI5
      obtain ⟨h10,c12⟩:=s'
      simp only at D l5
      have hw5:=ah (x:=(j:Int)+1) (by omega) (by omega)
      have hlt:=D.lt
      have hnm:=nf t (aR hl5)
      obtain ⟨h11,hh11⟩:∃ h11,h11=upd h10 c12 (some (.row 2 [[.str t.name,.int t.coef]] .live none)):=⟨_,rfl⟩
      have low11:∀ k,k<c12→h11 k=h10 k:=fun k hk=>by rw [hh11,ad (by omega)]
      have q11:h11 c12=_:=(congrFun hh11 c12).trans af
      have D1:=D.fr low11 (Nat.le_succ _)
      obtain ⟨h12,p1,p2,p3,p4⟩:=D1.push (by simp; omega) ⟨pA++t.name,t.coef⟩ true
      have d1:=D1.form
      simp [hv5,hj,htx,Term.cells]
      rw [←hh11]
      obtain ⟨n,hn⟩:∃ n,n=((f.terms.take j).map fun t:Wb.Term=>(⟨pA++t.name,t.coef⟩:Wb.Term)).length:=⟨_,rfl⟩
      rw [←hn] at p1 p3
      simp [d1,q11,catA _ hnm,bsI,an,aI,p1,p2,hv5,hw5]
      rw [hInv3]
      refine ⟨.row (c12+1) 2 0 (n+1),?_,fun k hk=>?_⟩
      ·rw [List.take_add_one,List.getElem?_eq_getElem hj,htx,List.map_append]
       exact p3
      ·show upd h12 c11 _ k=_
       rw [ad (by omega),p4 k (by omega) fun hr=>by have:=D.own k hr; omega,low11 k (by omega)]
       exact l5 k hk
     intro v5 s' hv5 hI5
     rw [hInv3,List.take_length] at hI5
     obtain ⟨tv,D,l5⟩:=hI5
     obtain ⟨h10,c12⟩:=s'
     simp only at D l5
     have hlt:=D.lt
     have q10:=(l5 c10 (by omega)).trans q7'
     simp [hv5,q10,hk2,←hg,Form.cells]
     obtain ⟨Inv4,hInv4⟩:∃ Inv:Nat→List Wb.Term→Slots→St→Prop,Inv=fun (j:Nat) r sl s'=>∃ tv,DfI s'.h s'.c c11 d tv (iQ f++(g.terms.take j).map fun t=>⟨pB++t.name,-t.coef⟩)∧∀ k,k<c11→s'.h k=h8 k:=⟨_,rfl⟩
     refine bz 124 Fn34.W4 g.terms Inv4 (by rfl) (by rfl) ?_ ?_ ?_
     ·rw [hInv4]; exact ⟨by simp,tv,by simpa [iQ] using D,l5⟩
     rotate_left
     ·intro j t ts v6 s' hj htx hl6 hv6 hI6
      rw [hInv4] at hI6
      obtain ⟨tv,D,l6⟩:=hI6
      obtain ⟨h13,c13⟩:=s'
      simp only at D l6
      have hw5:=ah (x:=(j:Int)+1) (by omega) (by omega)
      have hlt:=D.lt
      have hnm:=ng t (aR hl6)
      have hct:=og.coef t (aR hl6)
      have hneg:IntKind.i64.wrap (-t.coef) = -t.coef:=ah (by omega) (by omega)
      obtain ⟨h11,hh11⟩:∃ h11,h11=upd h13 c13 (some (.row 2 [[.str t.name,.int t.coef]] .live none)):=⟨_,rfl⟩
      have low11:∀ k,k<c13→h11 k=h13 k:=fun k hk=>by rw [hh11,ad (by omega)]
      have q11:h11 c13=_:=(congrFun hh11 c13).trans af
      have D1:=D.fr low11 (Nat.le_succ _)
      obtain ⟨h12,p1,p2,p3,p4⟩:=D1.push (by simp [iQ]; omega) ⟨pB++t.name,-t.coef⟩ true
      have d1:=D1.form
      simp [hv6,hj,htx,Term.cells]
      rw [←hh11]
      obtain ⟨n,hn⟩:∃ n,n=(iQ f++(g.terms.take j).map fun t:Wb.Term=>(⟨pB++t.name,-t.coef⟩:Wb.Term)).length:=⟨_,rfl⟩
      rw [←hn] at p1 p3
      simp [d1,q11,catB _ hnm,hneg,bsI,an,aI,p1,p2,hv6,hw5]
      rw [hInv4]
      refine ⟨.row (c13+1) 2 0 (n+1),?_,fun k hk=>?_⟩
      ·rw [List.take_add_one,List.getElem?_eq_getElem hj,htx,List.map_append,←List.append_assoc]
       exact p3
      ·show upd h12 c11 _ k=_
       rw [ad (by omega),p4 k (by omega) fun hr=>by have:=D.own k hr; omega,low11 k (by omega)]
       exact l6 k hk
     intro v6 s' hv6 hI6
     rw [hInv4,List.take_length] at hI6
     obtain ⟨tv,D,l6⟩:=hI6
     obtain ⟨h13,c13⟩:=s'
     simp only at D l6
     have hlt:=D.lt
     simp [hv6]
     obtain ⟨h14,hh14⟩:∃ h14,h14=upd h13 c13 (some (.row 1 [[.bool true]] .live none)):=⟨_,rfl⟩
     have low14:∀ k,k<c13→h14 k=h13 k:=fun k hk=>by rw [hh14,ad (by omega)]
     have q14:h14 c13=_:=(congrFun hh14 c13).trans af
     have D14:=D.fr low14 (Nat.le_succ _)
     rw [←hh14]
     have hLe:iQ f++List.map (fun t:Wb.Term=>(⟨pB++t.name,-t.coef⟩:Wb.Term)) g.terms=(cd f g).terms:=rfl
     rw [hLe] at D14
     have d14:=D14.form
     have x14:h14 (c1+1)=_:=(low14 _ (by omega)).trans ((l6 _ (by omega)).trans ((hF8.h _ (by omega)).trans ((hk3 _ (by omega)).trans q1b)))
     have y14:h14 (c2+1)=_:=(low14 _ (by omega)).trans ((l6 _ (by omega)).trans ((hF8.h _ (by omega)).trans ((hk3 _ (by omega)).trans h4b)))
     have mx14:h14 gx=_:=(low14 _ (by omega)).trans ((l6 _ (by omega)).trans ((hF8.h _ (by omega)).trans ((hk3 _ (by omega)).trans mx4)))
     have my14:h14 gy=_:=(low14 _ (by omega)).trans ((l6 _ (by omega)).trans ((hF8.h _ (by omega)).trans ((hk3 _ (by omega)).trans my4)))
     have dlen:(cd f g).terms.length≤24:=by simp [cd,iQ,r8]; omega
     have dcoef:∀ t∈(cd f g).terms,-1000000≤t.coef∧t.coef≤1000000:=by
      intro t ht
      rcases List.mem_append.1 ht with ht | ht
      ·obtain ⟨z,hz,rfl⟩:=List.mem_map.1 ht
       have:=of.coef z hz; simp only; omega
      ·obtain ⟨z,hz,rfl⟩:=List.mem_map.1 ht
       have:=og.coef z hz; simp only; omega
     have hrow:∀ k,aq tv k→c11<k∧k<c13:=D.own
     have hfz:∃ h15,fz1 tv ⟨h14,c13+1⟩=some (row ((cd f g).terms.map Term.cells),⟨h15,c13+1⟩)∧(∀ k,¬aq tv k→h15 k=h14 k)∧∀ h c,(∀ k,k<c13→h k=h15 k)→∃ h',fz1 tv ⟨h,c⟩=some (row ((cd f g).terms.map Term.cells),⟨h',c⟩)∧∀ k,¬aq tv k→h' k=h k:=by
      rcases D14.terms with ⟨rfl,e⟩ | ⟨gt,rfl,hgt⟩
      ·exact ⟨h14,by rw [e]; simp,fun _ _=>rfl,fun h c _=>⟨h,by rw [e]; simp,fun _ _=>rfl⟩⟩
      ·have:=hrow gt (aJ.2 rfl)
       have htk:aP (List.take (cd f g).terms.length ((cd f g).terms.map Term.cells))=(cd f g).terms.map Term.cells:=by rw [List.take_of_length_le (by simp),eQ]
       refine ⟨upd h14 gt (some (.row 2 ((cd f g).terms.map Term.cells) .frz none)),?_,fun k hkr=>ad fun e=>hkr (aJ.2 e),fun h c hh=>⟨upd h gt (some (.row 2 ((cd f g).terms.map Term.cells) .frz none)),?_,fun k hkr=>ad fun e=>hkr (aJ.2 e)⟩⟩
       ·simp [hgt,htk]
       ·have e:h gt=some (.row 2 ((cd f g).terms.map Term.cells) .frz none):=by rw [hh gt (by omega),af]
        simp [e,htk]
     obtain ⟨h15,z1,z2,z4⟩:=hfz
     have low15:∀ k,k<c11→h15 k=h14 k:=fun k hk=>z2 k fun hr=>by have:=hrow k hr; omega
     have q15:h15 c13=_:=(z2 c13 fun hr=>by have:=hrow c13 hr; omega).trans q14
     have d15:h15 c11=_:=(z2 c11 fun hr=>by have:=hrow c11 hr; omega).trans d14
     have hcd:(cd f g).const=d:=hd.symm
     obtain ⟨J,hJd⟩:∃ J:Nat→Heap→Prop,J=fun i h=>h c13=some (.row 1 [[.bool ((((cd f g).terms.take i).map (mN x y)).all fun p=>p.2.lo&&p.2.hi)]] .live none)∧∀ k,k<c13+1→k≠c13→h k=h15 k:=⟨_,rfl⟩
     have hsp:=rF (cd f g) dlen (by rw [hcd]; omega) dcoef Fn107.n [] [.ptr (c1+1) 0 0,.ptr (c2+1) 0 0,.ptr c13 0 0] (fun n=>((dU x y n).low,(dU x y n).high)) (fun n=>⟨(rU hxs hys n).low,(rU hxs hys n).high⟩) J h15 (c13+1)
      (fun i h h' hJ hh=>by rw [hJd] at hJ ⊢; exact ⟨(hh _ (by omega)).trans hJ.1,fun k hk hk2=>(hh k hk).trans (hJ.2 k hk hk2)⟩)
      (fun i t h c' hti hc hJ=>by
       rw [hJd] at hJ
       obtain ⟨e1,e2⟩:=hJ
       have H:ApH h x y gx gy vx vy (c1+1) (c2+1) c13 ((((cd f g).terms.take i).map (mN x y)).all fun p=>p.2.lo&&p.2.hi):=
        ⟨(e2 _ (by omega) (by omega)).trans ((low15 _ (by omega)).trans x14),(e2 _ (by omega) (by omega)).trans ((low15 _ (by omega)).trans y14),e1,(e2 _ (by omega) (by omega)).trans ((low15 _ (by omega)).trans mx14),(e2 _ (by omega) (by omega)).trans ((low15 _ (by omega)).trans my14)⟩
       have htk2:(cd f g).terms.take (i+1)=(cd f g).terms.take i++[t]:=by rw [List.take_add_one,hti]; rfl
       rcases List.mem_append.1 (List.mem_of_getElem? hti) with hm | hm
       ·obtain ⟨z,hzm,rfl⟩:=List.mem_map.1 hm
        refine (k9 z.name (nf z hzm) x y gx gy vx vy (c1+1) (c2+1) c13 _ h c' H (by omega) (by omega)).mono ?_
        rintro av ⟨h',c''⟩ hc'' ⟨rfl,r1,r2⟩
        refine ⟨by simp only; rw [qB],?_,fun k hk1 hk2=>r2 k (by omega)⟩
        rw [hJd]
        refine ⟨?_,fun k hk hk2=>(r2 k hk2).trans (e2 k hk hk2)⟩
        rw [htk2,List.map_append,List.all_append,r1]
        simp only [List.map_cons,List.map_nil,List.all_cons,List.all_nil,Bool.and_true,mN]
        rw [qB]
       ·obtain ⟨z,hzm,rfl⟩:=List.mem_map.1 hm
        refine (la z.name (ng z hzm) x y gx gy vx vy (c1+1) (c2+1) c13 _ h c' H (by omega) (by omega)).mono ?_
        rintro av ⟨h',c''⟩ hc'' ⟨rfl,r1,r2⟩
        refine ⟨by simp only; rw [qC],?_,fun k hk1 hk2=>r2 k (by omega)⟩
        rw [hJd]
        refine ⟨?_,fun k hk hk2=>(r2 k hk2).trans (e2 k hk hk2)⟩
        rw [htk2,List.map_append,List.all_append,r1]
        simp only [List.map_cons,List.map_nil,List.all_cons,List.all_nil,Bool.and_true,mN]
        rw [qC])
      (by rw [hJd]; exact ⟨by rw [q15]; rfl,fun _ _ _=>rfl⟩)
     have hnd:=sh x y f g
     have hsv:=rC (cd f g) (fun t ht=>by have:=dcoef t ht; omega)
     rw [←hd] at hnd
     simp only [Form.av,Form.cells,hcd] at hsp hsv
     obtain ⟨lo,hlo⟩:∃ lo,lo=(aZ ((cd f g).terms.map fun t=>(t.coef,(dU x y t.name).low,(dU x y t.name).high)) d d).1:=⟨_,rfl⟩
     obtain ⟨hi',hhi⟩:∃ hi',hi'=(aZ ((cd f g).terms.map fun t=>(t.coef,(dU x y t.name).low,(dU x y t.name).high)) d d).2:=⟨_,rfl⟩
     rw [←hlo,←hhi] at hsp hnd
     simp [d14,z1,-dK]
     refine hsp.mono ?_
     rintro av ⟨h16,c16⟩ hc16 ⟨rfl,hJ⟩
     rw [hJd,List.take_length] at hJ
     obtain ⟨e1,e2⟩:=hJ
     simp only at e1 e2 hc16
     obtain ⟨al,hal⟩:∃ al,al=((cd f g).terms.map (mN x y)).all fun p=>p.2.lo&&p.2.hi:=⟨_,rfl⟩
     rw [←hal] at e1 hnd
     obtain ⟨sv,hsvd⟩:∃ sv,sv=eJ d ((cd f g).terms.map (·.coef)):=⟨_,rfl⟩
     rw [←hsvd] at hsv hnd
     have d16:h16 c11=_:=(e2 c11 (by omega) (by omega)).trans d15
     obtain ⟨h17,y1,y2⟩:=z4 h16 c16 fun k hk=>e2 k (by omega) (by omega)
     have q17:h17 c13=_:=(y2 c13 fun hr=>by have:=hrow c13 hr; omega).trans e1
     have hb16:∀ k,k<c11→h16 k=h8 k:=fun k hk=>(e2 k (by omega) (by omega)).trans ((low15 k hk).trans ((low14 k (by omega)).trans (l6 k hk)))
     have hb17:∀ k,k<c11→h17 k=h8 k:=fun k hk=>(y2 k fun hr=>by have:=hrow k hr; omega).trans (hb16 k hk)
     have f16:∀ c',c16≤c'→Fr (c10+1) h7 h16 c':=fun c' hc'=>⟨by omega,fun k hk=>(hb16 k (by omega)).trans (hF8.h k hk)⟩
     have f17:∀ c',c16≤c'→Fr (c10+1) h7 h17 c':=fun c' hc'=>⟨by omega,fun k hk=>(hb17 k (by omega)).trans (hF8.h k hk)⟩
     cases hany:((subs.zip subs2).take k).any fun p=>df x y p.1 p.2 with
     | true=>
      rw [hany] at hI4
      simp at hI4
      simp [hI4,hv4,hw4]
      obtain ⟨q,hq,hq2⟩:=List.any_eq_true.1 hany
      exact ⟨f16 _ (Nat.le_refl _),q.1,q.2,by rw [htk]; exact List.mem_append_left _ hq,hq2⟩
     | false=>
      rw [hany] at hI4
      simp at hI4
      have hres:(((subs.zip subs2).take (k+1)).any fun p=>df x y p.1 p.2)=(!sv||al&&!decide (lo≤0∧0≤hi')):=by
       rw [htk,List.any_append,hany]; simp [hnd]
      simp [hI4,d16,y1,-dK]
      refine ACalls.pure hsv fun c17 hc17=>?_
      have hT:(!sv||al&&!decide (lo≤0∧0≤hi'))=true→∃ a b,(a,b)∈(subs.zip subs2).take (k+1)∧df x y a b=true:=fun e=>by
       obtain ⟨q,hq,hq2⟩:=List.any_eq_true.1 (hres.trans e)
       exact ⟨q.1,q.2,hq,hq2⟩
      have hN:(!sv||al&&!decide (lo≤0∧0≤hi'))=false→∀ a b,(a,b)∈(subs.zip subs2).take (k+1)→df x y a b=false:=fun e a b hm=>by
       have:=List.any_eq_false.1 (hres.trans e) (a,b) hm
       simpa using this
      clear hres hnd hI2 hcont hpe
      cases sv
      ·simp [hv4,hw4]
       exact ⟨f17 _ hc17,hT (by simp)⟩
      cases al
      ·simp [hv4,hw4,q17]
       exact ⟨f17 _ hc17,hN (by simp)⟩
      by_cases hl0:0<lo
      ·simp [hv4,hw4,q17,hl0]
       exact ⟨f17 _ hc17,hT (by simp; omega)⟩
      by_cases hh0:hi'<0
      ·simp [hv4,hw4,q17,hl0,hh0]
       exact ⟨f17 _ hc17,hT (by simp; omega)⟩
      ·simp [hv4,hw4,q17,hl0,hh0]
       exact ⟨f17 _ hc17,hN (by simp; omega)⟩
end Go.Proofs.YtjhogglgkjcacaaGreat
set_option maxRecDepth 20000
set_option maxHeartbeats 4000000
namespace Go.Proofs.YtjhogglgkjcacaaGreat
open Go.AM Go.Wb
theorem nZ:aG Pg Fn35.n [] (.bool true):=sT oK 60 (by kernel_rfl)
end Go.Proofs.YtjhogglgkjcacaaGreat
set_option maxRecDepth 20000
set_option maxHeartbeats 4000000
namespace Go.Proofs.YtjhogglgkjcacaaGreat
open Go.AM Go.Wb
theorem fY (l:List Wb.Term) (hl:l.length≤12) (h:Heap) (g c:Nat) (hg:h g=some (.row 2 (aF l) .live none)) :
  ACalls Pg Fn163.n [.row g 2 0 l.length,.fn (.func Fn159.n) [] []] ⟨h,c⟩ fun av s'=>av=.int (aK (fun t=>decide (t.coef=0)) l 0)∧s'.h=h:=by
 refine Fn163.calls .frz ?_
 unfold Fn163.ac
 simp
 refine bK 8 Fn163.W0 l (fun i r sl=>aK (fun t:Wb.Term=>decide (t.coef=0)) l 0=aK (fun t=>decide (t.coef=0)) r i) (by rfl) (by rfl) ?_ ?_ ?_
 ·simp
 ·intro v c hv hc hI
  simp [hv,hI,aK]
 ·intro i y ys v c hi hy hl2 hv hc hI
  have hw:=ah (x:=(i:Int)+1) (by omega) (by omega)
  have hge:(aF l)[i]?=some [.str y.name,.int y.coef]:=by simp [aF,hi,hy,Term.cells]
  simp [hv,hi,hg,hge]
  refine ACalls.at (mo y ⟨h,c⟩) fun c2 hc2=>?_
  by_cases hyn:y.coef=0
  ·simp [hyn,hI,aK]
  ·simp [hyn,hv,hw,hI,aK]
   omega
theorem gS (l:List Wb.Term) (hl:l.length≤12) (h0:Heap) (g c0:Nat) (hg:h0 g=some (.row 2 (aF l) .live none)) (hgc:g<c0) :
  ACalls Pg Fn157.n [.row g 2 0 l.length,.fn (.func Fn159.n) [] []] ⟨h0,c0⟩ fun av s'=>∃ (l':List Wb.Term) (k:Nat),av=.row g 2 0 k∧k≤l'.length∧l'.length=l.length∧s'.h g=some (.row 2 (aF l') .live none)∧∀ k,k≠g→k<c0→s'.h k=h0 k:=by
 refine Fn157.calls .keep ?_
 unfold Fn157.ac
 simp
 refine ACalls.at (fY l hl h0 g c0 hg) fun c1 hc1=>?_
 simp
 rcases mt (fun t:Wb.Term=>decide (t.coef=0)) l 0 with e | ⟨e1,e2⟩
 ·simp [e]
  exact ⟨l,by omega,rfl,hg⟩
 ·obtain ⟨i,hi⟩:∃ i:Nat,aK (fun t:Wb.Term=>decide (t.coef=0)) l 0=i:=⟨(aK (fun t:Wb.Term=>decide (t.coef=0)) l 0).toNat,by omega⟩
  have hi1:¬(i:Int) = -1:=by omega
  have hw:=ah (x:=(i:Int)+1) (by omega) (by omega)
  simp [hi,hi1,hw]
  obtain ⟨Inv,hInv⟩:∃ Inv:Nat→Slots→St→Prop,Inv=fun n sl s'=>∃ (l':List Wb.Term) (i j:Nat),i<j∧j+n=l.length∧sl 5=.int i∧sl 6=.int j∧l'.length=l.length∧s'.h g=some (.row 2 (aF l') .live none)∧(∀ k,k≠g→k<c0→s'.h k=h0 k)∧c0≤s'.c:=⟨_,rfl⟩
  refine di Fn157.W0 (by rfl) Inv (l.length-(i+1)) ?_ ?_
  ·rw [hInv]; exact ⟨l,i,i+1,by omega,by omega,by simp,by simp,rfl,hg,fun _ _ _=>rfl,hc1⟩
  ·intro n v s' hI
   rw [hInv] at hI
   obtain ⟨l',i,j,hij,hj,h5,h6,hl',hg',hfr,hcc⟩:=hI
   obtain ⟨h,c⟩:=s'
   simp at h5 h6
   simp only at hg' hfr hcc
   by_cases hlt:j<l.length
   case neg=>
    have hlt':¬(j:Int)<l.length:=by omega
    have hjl:i≤l.length:=by omega
    have hsl:(aF l').length=l.length:=by simp [aF,hl']
    have hs1:=srI_row_from (sz:=2) (g:=g) (off:=0) hjl
    have hs2:=srI_row_to (sz:=2) (g:=g) (off:=0) hjl
    have hcl:=clI_row (sz:=2) (zs:=[.str ⟨#[]⟩,.int 0]) (off:=i) (len:=l.length-i) (s:=⟨h,c⟩) hg' (by decide) (by decide) (by omega)
    simp [h5,h6,hlt,hs1,hs2,hcl]
    have hli:i≤l'.length:=by omega
    refine ⟨l'.take i++List.replicate (l.length-i) ⟨⟨#[]⟩,0⟩,?_,?_,?_,fun k hk hk2=>by rw [ad hk]; exact hfr k hk hk2⟩
    ·simp; omega
    ·simp; omega
    ·rw [List.drop_of_length_le (by omega)]; simp [aF,List.map_take,Term.cells]
   have hlt':(j:Int)<l.length:=by omega
   have hjl':j<l'.length:=by omega
   have hge:(aF l')[j]?=some [.str l'[j].name,.int l'[j].coef]:=by simp [aF,hjl',Term.cells]
   obtain ⟨h1,hh1⟩:∃ h1,h1=upd h c (some (.row 2 [[.str l'[j].name,.int l'[j].coef]] .live none)):=⟨_,rfl⟩
   have low1:∀ k,k<c→h1 k=h k:=fun k hk=>by rw [hh1,ad (by omega)]
   have q1:h1 c=_:=(congrFun hh1 c).trans af
   have g1:=(low1 g (by omega)).trans hg'
   have hgc':¬c=g:=by omega
   simp [h6,hlt,hg',hge]
   rw [←hh1]
   refine ACalls.at (mo l'[j] ⟨h1,c+1⟩) fun c2 hc2=>?_
   have hw1:=ah (x:=(j:Int)+1) (by omega) (by omega)
   have hw2:=ah (x:=(i:Int)+1) (by omega) (by omega)
   by_cases hpx:l'[j].coef=0
   ·simp [hpx,h6,hw1,hInv]
    exact ⟨n-1,by omega,l',i,j+1,by omega,by omega,h5,by simp,hl',g1,fun k hk hk2=>(low1 k (by omega)).trans (hfr k hk hk2),by omega⟩
   ·have hil:i<l'.length:=by omega
    have hge2:(aF l')[i]?=some [.str l'[i].name,.int l'[i].coef]:=by simp [aF,hil,Term.cells]
    have hil2:i<l.length:=by omega
    simp [hpx,h5,h6,hw1,hw2,hInv,hil2,g1,hge2,q1]
    refine ⟨n-1,by omega,l'.set i l'[j],i+1,j+1,by omega,by omega,by simp,by simp,by simp [hl'],?_,fun k hk hk2=>by rw [ad hk,low1 k (by omega)]; exact hfr k hk hk2,by omega⟩
    simp [aF,Term.cells]
theorem lF (g k:Nat) (hk:k≤1) (f:Nat) (s:St):ACalls Pg Fn160.n [.row g 2 0 k,.fn (.func f) [] []] s fun av s'=>s'.h=s.h:=by
 have hw1:IntKind.i64.wrap 1=1:=by decide
 have hwk:IntKind.i64.wrap (k:Int)=k:=ah (by omega) (by omega)
 have huk:=qX (x:=(k:Int)) (by omega) (by omega)
 have hk12:(k:Int)≤12:=by omega
 have hk1:¬(1:Int)<k:=by omega
 have hins:∀ s:St,ACalls Pg Fn294.n [.row g 2 0 k,.int 0,.int k,.fn (.func f) [] []] s fun av s'=>s'.h=s.h:=fun s=>by
  refine Fn294.calls .frz ?_
  unfold Fn294.ac
  simp [hw1]
  refine fP (fun n sl s'=>sl 2=.int k∧sl 8=.int 1∧s'.h=s.h) 0 ?_ ?_
  ·simp
  ·rintro n sl s' ⟨h2,h8,hh⟩
   have hk2:¬1<k:=by omega
   simp [h2,h8,hh,hk1,hk2]
 obtain ⟨m,hm⟩:=mj k (by omega)
 refine Fn160.calls .frz ?_
 unfold Fn160.ac
 simp [huk]
 refine ACalls.pure hm fun c1 hc1=>?_
 simp
 have hpdq:∀ s:St,ACalls Pg Fn231.n [.row g 2 0 k,.int 0,.int k,.int m,.fn (.func f) [] []] s fun av s'=>s'.h=s.h:=fun s=>by
  refine Fn231.calls .frz ?_
  unfold Fn231.ac
  simp
  refine fP (fun n sl s'=>sl 0=.row g 2 0 k∧sl 1=.int 0∧sl 2=.int k∧sl 4=.fn (.func f) [] []∧s'=s) 0 ?_ ?_
  ·simp
  ·rintro n sl s' ⟨e0,e1,e2,e4,rfl⟩
   simp [e0,e1,e2,e4,hwk,hk12]
   refine (hins _).mono ?_
   rintro av ⟨h2,c2⟩ hc2 hh
   simp only at hh
   simp [hh]
 refine (hpdq _).mono ?_
 rintro av ⟨h2,c2⟩ hc2 hh
 simp only at hh
 simp [hh]
theorem nX (n:Int) (a b:Wb.Term) (h0:Heap) (c0:Nat) :
  ACalls Pg Fn76.n [.int n,row ([a,b].map Term.cells)] ⟨h0,c0⟩ fun av s'=>∃ (g k:Nat) (L:List Wb.Term),av=.agg [.int n,.row g 2 0 k]∧k≤L.length∧L.length=2∧s'.h g=some (.row 2 (aF L) .live none)∧c0≤g∧g<s'.c∧Fr c0 h0 s'.h s'.c:=by
 refine Fn76.calls .keep ?_
 unfold Fn76.ac
 simp only [List.map_cons,List.map_nil]
 have hcl:=fun h c=>fJ [a,b] h c
 simp only [List.map_cons,List.map_nil] at hcl
 simp
 refine (hcl _ _).mono ?_
 rintro x ⟨h1,c1⟩ hc1 ⟨hF1,hx⟩
 simp only at hF1 hx hc1
 rcases hx with ⟨b',rfl,e⟩ | ⟨g,q1,q2,rfl,q4⟩
 ·cases e
 have hb0:h1 c0=some (.row 2 [[.int 0,.sl [] true]] .live none):=by rw [hF1.h c0 (by omega)]; simp
 have low1:∀ k,k<c0→h1 k=h0 k:=fun k hk=>by rw [hF1.h k (by omega),ad (by omega)]
 simp
 refine (gS [a,b] (by simp) h1 g c1 q4 q2).mono ?_
 rintro av ⟨h2,c2⟩ hc2 ⟨L,k,rfl,d1,d2,d3,d4⟩
 simp only at hc2 d3 d4
 have hb2:h2 c0=_:=(d4 c0 (by omega) (by omega)).trans hb0
 have hL2:L.length=2:=by simpa using d2
 have hgc:¬g=c0:=by omega
 have hcg:¬c0=g:=by omega
 have fin:∀ (h3:Heap) (c3:Nat) (L':List Wb.Term),c2≤c3→L'.length=2→h3 g=some (.row 2 (aF L') .live none)→(∀ k,k≠g→h3 k=h2 k)→∃ (g' k':Nat),(g=g'∧k=k')∧∃ L:List Wb.Term,k'≤L.length∧L.length=2∧upd h3 c0 (some (.row 2 [[.int n,.row g 2 0 k]] .live none)) g'=some (.row 2 (aF L) .live none)∧c0≤g'∧g'<c3∧Fr c0 h0 (upd h3 c0 (some (.row 2 [[.int n,.row g 2 0 k]] .live none))) c3:=by
  intro h3 c3 L' e1 e2 e3 e4
  refine ⟨g,k,⟨rfl,rfl⟩,L',by omega,e2,by rw [ad hgc]; exact e3,by omega,by omega,⟨by omega,fun m hm=>?_⟩⟩
  rw [ad (by omega),e4 m (by omega),d4 m (by omega) (by omega)]; exact low1 m hm
 by_cases hk:k≤1
 ·simp
  refine (lF g k hk _ ⟨h2,c2⟩).mono ?_
  rintro av ⟨h3,c3⟩ hc3 hh
  simp only at hh hc3
  subst hh
  simp [aI,hb2]
  exact fin h3 c3 L hc3 hL2 d3 fun _ _=>rfl
 ·have hk2:k=(aF L).length:=by simp [aF]; omega
  simp
  have hso:=ip (aF L) (by simp [aF]; omega) (jc L) Fn161.n tlt g h2 c2 d3 (by omega) (pr L)
  rw [←hk2] at hso
  refine hso.mono ?_
  rintro av ⟨h3,c3⟩ hc3 ⟨hg3,hfr3⟩
  simp only at hg3 hfr3 hc3
  obtain ⟨L',hl'⟩:=ka (iT tlt (aF L)) L fun e he=>gY tlt _ _ e he
  have hll:L'.length=2:=by
   have h1:(iT tlt (aF L)).length=(aF L).length:=gX tlt _ _
   rw [hl'] at h1; simp [aF] at h1; omega
  rw [hl'] at hg3
  have hb3:h3 c0=_:=(hfr3 c0 hcg).trans hb2
  simp [aI,hb3]
  exact fin h3 c3 L' (by omega) hll hg3 hfr3
theorem jm (L:List Wb.Term) (hL:L.length=2) (k g:Nat) (hk:k≤2) (h0:Heap) (c0:Nat) (hg:h0 g=some (.row 2 (aF L) .live none)) (hgc:g<c0) :
  ACalls Pg Fn77.n [.row g 2 0 k] ⟨h0,c0⟩ fun av s'=>∃ L':List Wb.Term,L'.length=2∧s'.h g=some (.row 2 (aF L') .live none)∧∀ m,m≠g→s'.h m=h0 m:=by
 obtain ⟨a,b,rfl⟩:∃ a b,L=[a,b]:=by
  match L,hL with
  | [a,b],_=>exact ⟨a,b,rfl⟩
 refine Fn77.calls .frz ?_
 unfold Fn77.ac
 have hw:=ah (x:=(k:Int)-1) (by omega) (by omega)
 simp [hw]
 have fin:∀ (h:Heap) (L':List Wb.Term),L'.length=2→h g=some (.row 2 (aF L') .live none)→(∀ m,m≠g→h m=h0 m)→∃ L':List Wb.Term,L'.length=2∧retH c0 h0 h g=some (.row 2 (aF L') .live none)∧∀ m,m≠g→retH c0 h0 h m=h0 m:=by
  intro h L' e1 e2 e3
  refine ⟨L',e1,by unfold retH; rw [if_pos hgc]; exact e2,fun m hm=>?_⟩
  unfold retH; split
  ·exact e3 m hm
  ·rfl
 obtain ⟨Inv,hInv⟩:∃ Inv:Nat→Slots→St→Prop,Inv=fun n sl s'=>(n=1∧k=2∧sl 2=.int 0∧sl 3=.int 1∧s'=⟨h0,c0⟩)∨(n=0∧∃ i j:Int,sl 2=.int i∧sl 3=.int j∧¬i<j∧∃ L':List Wb.Term,L'.length=2∧s'.h g=some (.row 2 (aF L') .live none)∧∀ m,m≠g→s'.h m=h0 m):=⟨_,rfl⟩
 refine di Fn77.W0 (by rfl) Inv (if k=2 then 1 else 0) ?_ ?_
 ·rw [hInv]
  by_cases h2:k=2
  ·subst h2
   rw [if_pos rfl]
   exact .inl ⟨rfl,rfl,by simp,by simp,rfl⟩
  ·rw [if_neg h2]
   exact .inr ⟨rfl,0,(k:Int)-1,by simp,by simp,by omega,[a,b],rfl,hg,fun _ _=>rfl⟩
 ·intro n v s' hI
  rw [hInv] at hI
  rcases hI with ⟨rfl,rfl,h2,h3,rfl⟩ | ⟨rfl,i,j,h2,h3,hij,L',e1,e2,e3⟩
  ·simp at h2 h3
   have t0:(aF [a,b])[0]?=some [.str a.name,.int a.coef]:=rfl
   have t1:(aF [a,b])[1]?=some [.str b.name,.int b.coef]:=rfl
   have hw1:IntKind.i64.wrap 1=1:=by decide
   have hw0:IntKind.i64.wrap 0=0:=by decide
   simp [h2,h3,hg,aF,Term.cells,hw1,hw0]
   rw [hInv]
   refine .inr ⟨rfl,1,0,by simp,by simp,by omega,[b,a],rfl,?_,fun m hm=>?_⟩
   ·simp [aF,Term.cells]
   ·simp [hm]
  ·obtain ⟨h,c⟩:=s'
   simp at h2 h3
   simp only at e2 e3
   simp [h2,h3,hij]
   exact fin h L' e1 e2 e3
end Go.Proofs.YtjhogglgkjcacaaGreat
set_option maxRecDepth 20000
set_option maxHeartbeats 4000000
namespace Go.Proofs.YtjhogglgkjcacaaGreat
open Go.AM Go.Wb
theorem vC (L:List Int) (hL:L.length≤1048576) (a:Int) (g:Nat) (h0:Heap) (c0:Nat) (hs:SM h0 g L a) (ha:0≤a) (ha':a<100000000) (hg:g<c0) :
  ACalls Pg Fn21.n [.ptr g 0 0] ⟨h0,c0⟩ fun av s'=>(∃ f:Wb.Form,av=f.av)∧SMI h0 g L a 20 s'.h:=by
 refine Fn21.calls .frz ?_
 unfold Fn21.ac
 obtain ⟨hb,hhb⟩:∃ hb,hb=upd h0 c0 (some (.row 2 [[.int 0,.sl [] true]] .live none)):=⟨_,rfl⟩
 have lb:∀ k,k<c0→hb k=h0 k:=fun k hk=>by rw [hhb,ad (by omega)]
 have b0:hb c0=_:=(congrFun hhb c0).trans af
 have s0:SM hb g L a:=(lb g hg).trans hs
 simp [bsI,an]
 rw [←hhb]
 refine ACalls.draw (R:=fun v=>∃ k,v=.int k∧k∈[0,1,-3,4,6]) (bS [0,1,-3,4,6] L a g hb _ (by simp) (by simp) s0 (by omega) (by omega) hL (by omega)) fun v h1 c1 a1 hv hc1 t1 t2 t3 t4=>?_
 obtain ⟨n,rfl,_⟩:=hv
 simp [bsI,an]
 refine ACalls.draw (R:=fun v=>∃ k,v=.int k∧k∈[0,1,2,-4,6]) (bS [0,1,2,-4,6] L a1 g h1 _ (by simp) (by simp) t3 (by omega) (by omega) hL (by omega)) fun v h2 c2 a2 hv hc2 u1 u2 u3 u4=>?_
 obtain ⟨i,rfl,_⟩:=hv
 simp [bsI,an,aI]
 refine ACalls.draw (R:=fun v=>∃ k,v=.int k∧k∈[0,0,2,3,-6]) (bS [0,0,2,3,-6] L a2 g h2 _ (by simp) (by simp) u3 (by omega) (by omega) hL (by omega)) fun v h3 c3 a3 hv hc3 v1 v2 v3 v4=>?_
 obtain ⟨j,rfl,_⟩:=hv
 simp [bsI,an,aI]
 have hfm:=nX n ⟨⟨#[105]⟩,i⟩ ⟨⟨#[106]⟩,j⟩ h3 c3
 simp only [List.map_cons,List.map_nil,Term.cells] at hfm
 refine hfm.mono ?_
 rintro av ⟨h4,c4⟩ hc4 ⟨gr,k,T,rfl,r1,r2,r3,r4,r5,hF4⟩
 simp only at hc4 r3 r5 hF4
 have l4:∀ m,m<c0→m≠g→h4 m=h0 m:=fun m hm hmg=>by rw [hF4.h m (by omega),v4 m hmg,u4 m hmg,t4 m hmg]; exact lb m hm
 have s4:SM h4 g L a3:=(hF4.h g (by omega)).trans v3
 have b4:h4 c0=_:=(hF4.h c0 (by omega)).trans ((v4 c0 (by omega)).trans ((u4 c0 (by omega)).trans ((t4 c0 (by omega)).trans b0)))
 obtain ⟨h5,hh5⟩:∃ h5,h5=upd h4 c4 (some (.row 2 [[.int n,.row gr 2 0 k]] .live none)):=⟨_,rfl⟩
 have l5:∀ m,m<c4→h5 m=h4 m:=fun m hm=>by rw [hh5,ad (by omega)]
 have q5:h5 c4=_:=(congrFun hh5 c4).trans af
 have s5:SM h5 g L a3:=(l5 g (by omega)).trans s4
 simp
 rw [←hh5]
 refine ACalls.draw (eu L a3 15 g h5 _ (by omega) s5 (by omega) (by omega) hL (by omega)) fun v h6 c6 a6 hv hc6 w1 w2 w3 w4=>?_
 obtain ⟨b,rfl⟩:=hv
 have q6:=(w4 c4 (by omega)).trans q5
 have g6:=(w4 gr (by omega)).trans ((l5 gr (by omega)).trans r3)
 have l6:∀ m,m<c0→m≠g→h6 m=h0 m:=fun m hm hmg=>(w4 m hmg).trans ((l5 m (by omega)).trans (l4 m hm hmg))
 have b6:=(w4 c0 (by omega)).trans ((l5 c0 (by omega)).trans b4)
 have hkT:k≤(aF T).length:=by simp [aF]; omega
 have hnT:aP (List.take k (aF T))=List.take k (T.map Term.cells):=by rw [aF,←List.map_take,eQ]
 have n1:¬gr=c0:=by omega
 have n2:¬c0=gr:=by omega
 have n3:¬c4=c0:=by omega
 have n4:¬gr=c4:=by omega
 have n5:¬c0=c4:=by omega
 have fin:∀ (z:Int) (T':List Wb.Term) (kk gg:Nat) (h:Heap) (a9:Int) (o1 o2:Option Body),gg≠g→c0≤gg→SM h g L a9→a≤a9→a9≤a+20→(∀ m,m<c0→m≠g→h m=h0 m)→(∃ f:Wb.Form,AV.agg [AV.int z,AV.sl (List.take kk (List.map Term.cells T')) false]=f.av)∧SMI h0 g L a 20 (retH c0 h0 (upd (upd h c0 o1) gg o2)):=by
  intro z T' kk gg h a9 o1 o2 e1 e2 e3 e4 e5 e6
  refine ⟨⟨⟨z,T'.take kk⟩,by simp [Form.av,Form.cells,List.map_take]⟩,SMI.fin hg (fun m hmg hm=>?_) ?_ e4 e5⟩
  ·rw [ad (by omega),ad (by omega)]; exact e6 m hm hmg
  ·unfold SM; rw [ad (Ne.symm e1),ad (by omega)]; exact e3
 cases b
 ·simp [q6,b6,g6,n1,n2,hkT,hnT]
  exact fin n T k gr h6 a6 _ _ (by omega) (by omega) w3 (by omega) (by omega) l6
 simp
 refine ACalls.draw (cm L a6 3 g h6 _ (by omega) w3 (by omega) (by omega) hL (by omega)) fun v h7 c7 a7 hv hc7 x1 x2 x3 x4=>?_
 obtain ⟨k1,rfl,_,_,_⟩:=hv
 have q7:=(x4 c4 (by omega)).trans q6
 have g7:=(x4 gr (by omega)).trans g6
 have b7:=(x4 c0 (by omega)).trans b6
 have l7:∀ m,m<c0→m≠g→h7 m=h0 m:=fun m hm hmg=>(x4 m hmg).trans (l6 m hm hmg)
 by_cases y0:k1=0
 ·simp [y0,bsI,an]
  refine ACalls.draw (R:=fun v=>∃ k,v=.int k∧k∈[1000001,-1000000]) (bS [1000001,-1000000] L a7 g h7 _ (by simp) (by simp) x3 (by omega) (by omega) hL (by omega)) fun w h8 c8 a8 hw hc8 z1 z2 z3 z4=>?_
  obtain ⟨nn,rfl,_⟩:=hw
  have q8:=(z4 c4 (by omega)).trans q7
  have g8:=(z4 gr (by omega)).trans g7
  have b8:=(z4 c0 (by omega)).trans b7
  have l8:∀ m,m<c0→m≠g→h8 m=h0 m:=fun m hm hmg=>(z4 m hmg).trans (l7 m hm hmg)
  simp [q8,b8,g8,n1,n2,n3,n4,n5,hkT,hnT]
  refine fin nn T k gr (upd h8 c4 _) a8 _ _ (by omega) (by omega) ?_ (by omega) (by omega) fun m hm hmg=>?_
  ·unfold SM; rw [ad (by omega)]; exact z3
  ·rw [ad (by omega)]; exact l8 m hm hmg
 by_cases y1:k1=1
 ·simp [y0,y1,bsI,an,q7]
  refine ACalls.draw (R:=fun v=>∃ k,v=.str k∧k∈([⟨#[97]⟩,⟨#[122]⟩,⟨#[]⟩,⟨#[102,111,114]⟩]:List ByteArray)) (ep [⟨#[97]⟩,⟨#[122]⟩,⟨#[]⟩,⟨#[102,111,114]⟩] L a7 g h7 _ (by simp) (by simp) x3 (by omega) (by omega) hL (by omega)) fun w h8 c8 a8 hw hc8 z1 z2 z3 z4=>?_
  obtain ⟨sn,rfl,_⟩:=hw
  have q8:=(z4 c4 (by omega)).trans q7
  have g8:=(z4 gr (by omega)).trans g7
  have b8:=(z4 c0 (by omega)).trans b7
  have l8:∀ m,m<c0→m≠g→h8 m=h0 m:=fun m hm hmg=>(z4 m hmg).trans (l7 m hm hmg)
  simp [q8]
  refine ACalls.draw (R:=fun v=>∃ k,v=.int k∧k∈[0,1,1001]) (bS [0,1,1001] L a8 g h8 _ (by simp) (by simp) z3 (by omega) (by omega) hL (by omega)) fun w h9 c9 a9 hw hc9 y1' y2' y3' y4'=>?_
  obtain ⟨sc,rfl,_⟩:=hw
  have q9:=(y4' c4 (by omega)).trans q8
  have g9:=(y4' gr (by omega)).trans g8
  have b9:=(y4' c0 (by omega)).trans b8
  have l9:∀ m,m<c0→m≠g→h9 m=h0 m:=fun m hm hmg=>(y4' m hmg).trans (l8 m hm hmg)
  have hpre:RowPre h9 2 (.row gr 2 0 k) (aF (T.take k)):=.inr ⟨gr,aF (T.drop k),by simp [aF]; omega,by rw [g9,aF,aF,aF,←List.map_append,List.take_append_drop]⟩
  have hlt:(aF (T.take k)).length=k:=by simp [aF]; omega
  obtain ⟨x',h10,c10,p1,p2,p3,p4,p5,p6,p7⟩:=hpre.push (c:=c9) (bytes:=24) (md:=.plain) (b:=true) (e:=[.str sn,.int sc]) (by decide) (by decide) (by decide) (by decide) rfl (jc _) (by omega) (fun m hm=>by have:=aJ.1 hm; omega)
  obtain ⟨g',rfl⟩:=p7
  have hg':g'=gr∨g'=c9:=by
   rcases p4 g' (aJ.2 rfl) with h | ⟨h,_⟩
   ·exact .inl (aJ.1 h)
   ·exact .inr h
  obtain ⟨full,hfull⟩:∃ full,h10 g'=some (.row 2 (aF (T.take k)++[[.str sn,.int sc]]++full) .live none):=by
   rcases p2 with ⟨e,_⟩ | ⟨g2,full,e,e2⟩
   ·cases e
   ·injection e with e1 _ _ _
    subst e1
    exact ⟨full,e2⟩
  have l10:∀ m,m<c9→m≠gr→h10 m=h9 m:=fun m hm hmg=>p5 m (by omega) fun hr=>hmg (aJ.1 hr)
  have q10:=(l10 c4 (by omega) (by omega)).trans q9
  have b10:=(l10 c0 (by omega) (by omega)).trans b9
  rw [hlt] at p1
  have m1:¬g'=c0:=by rcases hg' with e | e <;> omega
  have m2:¬c0=g':=by rcases hg' with e | e <;> omega
  have m3:¬g'=c4:=by rcases hg' with e | e <;> omega
  have m4:g'≠g:=by rcases hg' with e | e <;> omega
  obtain ⟨T9,hT9⟩:∃ T9:List Wb.Term,T9=T.take k++[⟨sn,sc⟩]:=⟨_,rfl⟩
  have hfl:aP (List.take (k+1) (aF (T.take k)++([AV.str sn,AV.int sc]::full)))=List.take (k+1) (T9.map Term.cells):=by
   have e1:List.take (k+1) (aF (T.take k)++([AV.str sn,AV.int sc]::full))=T9.map Term.cells:=by
    rw [List.take_append,hlt,List.take_of_length_le (by omega),hT9]
    simp [aF,Term.cells]
   rw [e1,eQ]
   exact (List.take_of_length_le (by rw [hT9]; simp; omega)).symm
  have hfn:k+1≤(aF (T.take k)).length+(full.length+1):=by omega
  simp only [List.append_assoc,List.cons_append,List.nil_append] at hfull
  simp [q9,bsI,an,aI,p1,q10,b10,hfull,m1,m2,m3,n3,n5,hfl,hfn]
  refine fin n T9 (k+1) g' (upd h10 c4 _) a9 _ _ m4 (by rcases hg' with e | e <;> omega) ?_ (by omega) (by omega) fun m hm hmg=>?_
  ·unfold SM; rw [ad (by omega),l10 g (by omega) (by omega)]; exact y3'
  ·rw [ad (by omega),l10 m (by omega) (by omega)]; exact l9 m hm hmg
 ·simp [y0,y1,q7]
  have hT2:T.length=2:=r2
  refine (jm T hT2 k gr (by omega) h7 _ g7 (by omega)).mono ?_
  rintro av ⟨h8,c8⟩ hc8 ⟨T',t1',t2',t3'⟩
  simp only at t2' t3' hc8
  have q8:=(t3' c4 (by omega)).trans q7
  have b8:=(t3' c0 (by omega)).trans b7
  have hkT':k≤(aF T').length:=by simp [aF]; omega
  have hnT':aP (List.take k (aF T'))=List.take k (T'.map Term.cells):=by rw [aF,←List.map_take,eQ]
  simp [q8,b8,t2',n1,n2,n3,n4,n5,hkT',hnT']
  refine fin n T' k gr h8 a7 _ _ (by omega) (by omega) ((t3' g (by omega)).trans x3) (by omega) (by omega) fun m hm hmg=>(t3' m (by omega)).trans (l7 m hm hmg)
end Go.Proofs.YtjhogglgkjcacaaGreat
set_option maxRecDepth 20000
set_option maxHeartbeats 4000000
namespace Go.Proofs.YtjhogglgkjcacaaGreat
open Go.AM Go.Wb
theorem rz (lo hi:Int) (hlo:-1000000≤lo∧lo≤1000000) (hhi:hi≤1000000) (L:List Int) (hL:L.length≤1048576) (a:Int) (g:Nat) (h0:Heap) (c0:Nat) (hs:SM h0 g L a) (ha:0≤a) (ha':a<100000000) (hg:g<c0) :
  ACalls Pg Fn22.n [.ptr g 0 0,.int lo,.int hi] ⟨h0,c0⟩ fun av s'=>(∃ l:List Wb.Slot,av=row (l.map Slot.cells))∧SMI h0 g L a 20 s'.h:=by
 refine Fn22.calls .frz ?_
 unfold Fn22.ac
 simp [bsI,an]
 have hget:∀ (i:Nat) (x:ByteArray) (hi:i<([⟨#[105]⟩,⟨#[106]⟩]:List ByteArray).length),([⟨#[105]⟩,⟨#[106]⟩]:List ByteArray)[i]=x→([[.str ⟨#[105]⟩],[.str ⟨#[106]⟩]]:List (List AV))[i]?=some [.str x]:=by
  intro i x hi hx
  show (([⟨#[105]⟩,⟨#[106]⟩]:List ByteArray).map fun n=>[AV.str n])[i]?=_
  rw [List.getElem?_map,List.getElem?_eq_getElem hi,hx]; rfl
 obtain ⟨Inv,hInv⟩:∃ Inv:Nat→List ByteArray→Slots→St→Prop,Inv=fun (i:Nat) r sl s'=>∃ (gr:Nat) (P:List Wb.Slot) (a':Int),sl 7=.row gr 2 0 i∧P.length=i∧c0≤gr∧gr<s'.c∧s'.h gr=some (.row 2 (P.map Slot.cells) .live none)∧SM s'.h g L a'∧a≤a'∧a'≤a+i∧∀ k,k<c0→k≠g→s'.h k=h0 k:=⟨_,rfl⟩
 refine bz 12 Fn22.W0 ([⟨#[105]⟩,⟨#[106]⟩]:List ByteArray) Inv (by rfl) (by rfl) ?_ ?_ ?_
 ·rw [hInv]
  exact ⟨by simp,c0,[],a,by simp,rfl,Nat.le_refl _,by show c0<c0+1; omega,by simp,by show upd h0 c0 _ g=_; rw [ad (by omega)]; exact hs,by omega,by simp,fun k hk _=>by show upd h0 c0 _ k=_; rw [ad (by omega)]⟩
 ·intro v s' hv hI
  rw [hInv] at hI
  obtain ⟨gr,P,a1,i0,i1,i2,i3,i4,i5,i6,i7,i8⟩:=hI
  obtain ⟨h1,c1⟩:=s'
  have hv2:v 12=.int 2:=hv
  simp at i0 i7
  simp only at i3 i4 i5 i8
  obtain ⟨p,q,rfl⟩:∃ p q,P=[p,q]:=by
   match P,i1 with
   | [p,q],_=>exact ⟨p,q,rfl⟩
  simp only [List.map_cons,List.map_nil,Slot.cells] at i4
  have fin:∀ (l:List Wb.Slot) (h:Heap) (a9:Int) (o:Option Body),SM h g L a9→a≤a9→a9≤a+20→(∀ m,m<c0→m≠g→h m=h0 m)→(∃ l':List Wb.Slot,l.map Slot.cells=l'.map Slot.cells)∧SMI h0 g L a 20 (retH c0 h0 (upd h gr o)):=by
   intro l h a9 o e3 e4 e5 e6
   refine ⟨⟨l,rfl⟩,SMI.fin hg (fun m hmg hm=>?_) ?_ e4 e5⟩
   ·rw [ad (by omega)]; exact e6 m hm hmg
   ·unfold SM; rw [ad (by omega)]; exact e3
  simp [hv2]
  refine ACalls.draw (eu L a1 15 g h1 c1 (by omega) i5 (by omega) (by omega) hL (by omega)) fun w h2 c2 a2 hw2 hc2 u1 u2 u3 u4=>?_
  obtain ⟨b,rfl⟩:=hw2
  have g2:=(u4 gr (by omega)).trans i4
  have l2:∀ m,m<c0→m≠g→h2 m=h0 m:=fun m hm hmg=>(u4 m hmg).trans (i8 m hm hmg)
  cases b
  ·simp [i0,g2]
   exact fin [p,q] h2 a2 _ u3 (by omega) (by omega) l2
  simp
  refine ACalls.draw (cm L a2 3 g h2 c2 (by omega) u3 (by omega) (by omega) hL (by omega)) fun w h3 c3 a3 hw3 hc3 v1 v2 v3 v4=>?_
  obtain ⟨k1,rfl,_,_,_⟩:=hw3
  have g3:=(v4 gr (by omega)).trans g2
  have l3:∀ m,m<c0→m≠g→h3 m=h0 m:=fun m hm hmg=>(v4 m hmg).trans (l2 m hm hmg)
  by_cases y0:k1=0
  ·have hsr:srI 2 (.row gr 2 0 2) none (some (.int 1)) none=some (.row gr 2 0 1):=by simp [srI,bnd]
   simp [y0,i0,g3,hsr]
   exact fin [p] h3 a3 _ v3 (by omega) (by omega) l3
  by_cases y1:k1=1
  ·simp [y0,y1,i0,bsI,an]
   refine ACalls.draw (R:=fun v=>∃ k,v=.str k∧k∈([⟨#[]⟩,⟨#[106]⟩,⟨#[107]⟩,⟨#[65]⟩]:List ByteArray)) (ep [⟨#[]⟩,⟨#[106]⟩,⟨#[107]⟩,⟨#[65]⟩] L a3 g h3 c3 (by simp) (by simp) v3 (by omega) (by omega) hL (by omega)) fun w h4 c4 a4 hw4 hc4 x1 x2 x3 x4=>?_
   obtain ⟨sn,rfl,_⟩:=hw4
   have g4:=(x4 gr (by omega)).trans g3
   have l4:∀ m,m<c0→m≠g→h4 m=h0 m:=fun m hm hmg=>(x4 m hmg).trans (l3 m hm hmg)
   simp [i0,g4]
   exact fin [⟨sn,p.value⟩,q] h4 a4 _ x3 (by omega) (by omega) l4
  ·simp [y0,y1,i0,bsI,an]
   refine ACalls.draw (R:=fun v=>∃ k,v=.int k∧k∈[-1000001,1000000,99]) (bS [-1000001,1000000,99] L a3 g h3 c3 (by simp) (by simp) v3 (by omega) (by omega) hL (by omega)) fun w h4 c4 a4 hw4 hc4 x1 x2 x3 x4=>?_
   obtain ⟨sn,rfl,_⟩:=hw4
   have g4:=(x4 gr (by omega)).trans g3
   have l4:∀ m,m<c0→m≠g→h4 m=h0 m:=fun m hm hmg=>(x4 m hmg).trans (l3 m hm hmg)
   simp [i0,g4]
   exact fin [p,⟨q.name,sn⟩] h4 a4 _ x3 (by omega) (by omega) l4
 ·intro i x xs v s' hi' hx hl2 hv hI
  rw [hInv] at hI
  obtain ⟨gr,P,a1,i0,i1,i2,i3,i4,i5,i6,i7,i8⟩:=hI
  obtain ⟨h1,c1⟩:=s'
  simp at i0
  simp only at i3 i4 i5 i8
  have hgx:=hget i x hi' hx
  have hi2:i<2:=hi'
  have hi3:(i:Int)<2:=by omega
  have hw:=ah (x:=(i:Int)+1) (by omega) (by omega)
  obtain ⟨_,hg2⟩:=List.getElem?_eq_some_iff.1 hgx
  simp [hv,hi2,hi3,hg2]
  refine ACalls.draw (R:=fun v=>∃ k,v=.int k) (((jq L a1 lo hi g h1 c1 (by omega) (by omega) (by omega) i5 (by omega) (by omega) hL (by omega))).mono fun av s' _ h=>⟨by obtain ⟨⟨k,h,_⟩,_⟩:=h; exact ⟨k,h⟩,h.2⟩) fun w h2 c2 a2 hw2 hc2 u1 u2 u3 u4=>?_
  obtain ⟨vv,rfl⟩:=hw2
  have g2:=(u4 gr (by omega)).trans i4
  have hap:=cC (sz:=2) (bytes:=24) (md:=.plain) (len:=i) (x:=[.str x,.int vv]) (b:=true) (s:=⟨h2,c2⟩) (by simp) g2 (by simp [i1]) (by decide) (by decide) (by decide) rfl (by omega)
  simp [i0,bsI,an,aI,hap,hv,hw]
  rw [hInv]
  refine ⟨c2,P++[⟨x,vv⟩],a2,by simp,by simp [i1],by omega,Nat.lt_succ_self _,?_,?_,by omega,by push_cast; omega,fun k hk hkg=>?_⟩
  ·show upd (upd h2 gr none) c2 _ c2=_
   rw [af]; simp [Slot.cells]
  ·show upd (upd h2 gr none) c2 _ g=_
   rw [ad (by omega),ad (by omega)]; exact u3
  ·show upd (upd h2 gr none) c2 _ k=_
   rw [ad (by omega),ad (by omega),u4 k hkg]; exact i8 k hk hkg
end Go.Proofs.YtjhogglgkjcacaaGreat
set_option maxRecDepth 20000
set_option maxHeartbeats 8000000
namespace Go.Proofs.YtjhogglgkjcacaaGreat
open Go.AM Go.Wb
theorem ll (b:Bool) (n:Int):aG Pg Fn13.n [.bool b,.int n] (.int (if b then n else 0)):=by
 intro s
 refine Fn13.calls .frz ?_
 unfold Fn13.ac
 cases b <;> simp
theorem qZ {p:Wb.Prog} (hz:aW p=0) (c d:ByteArray):cP [if (!bh c)=true then 5 else 0,if (!bh d)=true then 5 else 0,if (!inL c (bg p.steps))=true then 8 else 0,if (!inL d (bg p.steps))=true then 8 else 0]=ct p c d:=by
 unfold ct
 rw [if_pos hz,qx,qx]
 cases bh c <;> cases bh d <;> cases (ck p c).isSome <;> cases (ck p d).isSome <;> rfl
theorem sG (L:List Int) (hL:L.length≤1048576) (h0:Heap) (c0:Nat) :
  ACalls Pg Fn4.n [row (be L)] ⟨h0,c0⟩ fun av s'=>av=.bool true∧s'.h=h0:=by
 refine Fn4.calls .frz ?_
 unfold Fn4.ac
 simp [aI]
 obtain ⟨h1,hh1⟩:∃ h1,h1=upd h0 c0 (some (.row 2 [[row (be L),.int 0]] .live none)):=⟨_,rfl⟩
 have hs1:SM h1 c0 L 0:=by rw [hh1]; exact af
 have k1:∀ k,k<c0→h1 k=h0 k:=fun k hk=>by rw [hh1,ad (by omega)]
 rw [←hh1]
 refine ACalls.draw (R:=fun v=>∃ f:Wb.Form,v=f.av) (vC L hL 0 c0 h1 (c0+1) hs1 (by omega) (by omega) (by omega)) fun v h2 c2 a2 hv hc2 t1 t2 t3 t4=>?_
 obtain ⟨f,rfl⟩:=hv
 obtain ⟨h3,hh3⟩:∃ h3,h3=upd h2 c2 (some (.row 2 [[.int f.const,row (f.terms.map Term.cells)]] .live none)):=⟨_,rfl⟩
 have low3:∀ k,k<c2→h3 k=h2 k:=fun k hk=>by rw [hh3,ad (by omega)]
 have b3:h3 c2=_:=(congrFun hh3 c2).trans af
 have s3:SM h3 c0 L a2:=(low3 c0 (by omega)).trans t3
 have k3:∀ k,k<c0→h3 k=h0 k:=fun k hk=>(low3 k (by omega)).trans ((t4 k (by omega)).trans (k1 k hk))
 simp [Form.av,Form.cells]
 rw [←hh3]
 refine ACalls.draw (R:=fun v=>∃ l:List Wb.Slot,v=row (l.map Slot.cells)) (rz (-3) 1 (by omega) (by omega) L hL a2 c0 h3 _ s3 (by omega) (by omega) (by omega)) fun v h4 c4 a4 hv hc4 u1 u2 u3 u4=>?_
 obtain ⟨low,rfl⟩:=hv
 simp
 refine ACalls.draw (R:=fun v=>∃ l:List Wb.Slot,v=row (l.map Slot.cells)) (rz 0 5 (by omega) (by omega) L hL a4 c0 h4 _ u3 (by omega) (by omega) (by omega)) fun v h5 c5 a5 hv hc5 v1 v2 v3 v4=>?_
 obtain ⟨high,rfl⟩:=hv
 have b5:h5 c2=_:=(v4 c2 (by omega)).trans ((u4 c2 (by omega)).trans b3)
 have k5:∀ k,k<c0→h5 k=h0 k:=fun k hk=>(v4 k (by omega)).trans ((u4 k (by omega)).trans (k3 k hk))
 have hSo:=vD f
 have hSp:=vE f low high
 have hFF:=nY f
 have hSO:=fun hf=>vF f hf
 have hSq:=vG f low high
 simp only [Form.av,Form.cells] at hSo hSp hFF hSO hSq
 simp [b5]
 refine ACalls.pure hSo fun c6 hc6=>?_
 simp [b5]
 refine ACalls.pure hSp fun c7 hc7=>?_
 simp [b5]
 refine ACalls.pure hFF fun c8 hc8=>?_
 have s5:SM h5 c0 L a5:=v3
 rcases (inferInstance:Decidable (aL f=0)) with hff0 | hff0
 simp [hff0,b5]
 rotate_left
 simp [hff0,b5]
 refine ACalls.pure (hSO fun t ht=>by have:=(ej hff0).coef t ht; omega) fun c9 hc9=>?_
 simp [b5]
 rotate_left
 all_goals
  refine ACalls.pure hSq fun c10 hc10=>?_
  simp
  refine (wC L hL a5 c0 h5 c10 s5 (by omega) (by omega) (by omega)).mono ?_
  rintro av ⟨h11,c11⟩ hc11 ⟨⟨p,rfl,hgen⟩,a11,ha1,ha2,hs11,k11⟩
  simp only at hc11 hs11 k11
  have hcnt:aB p.steps≤300:=by have:=hgen.steps; omega
  obtain ⟨h12,hh12⟩:∃ h12,h12=upd h11 c11 (some (.row 2 [[row (p.arrays.map Array.cells),row (p.steps.map Step.cells)]] .live none)):=⟨_,rfl⟩
  have b12:=(congrFun hh12 c11).trans af
  have s12:SM h12 c0 L a11:=by unfold SM; rw [hh12,ad (by omega)]; exact hs11
  have k12:∀ k,k<c0→h12 k=h0 k:=fun k hk=>by rw [hh12,ad (by omega),k11 k (by omega) (by omega)]; exact k5 k hk
  simp [Prog.av,bsI,an]
  rw [←hh12]
  refine ACalls.draw (R:=fun v=>∃ k,v=.str k∧k∈([⟨#[115,48]⟩,⟨#[115,49]⟩,⟨#[115,50]⟩,⟨#[122,122]⟩,⟨#[]⟩]:List ByteArray)) (ep [⟨#[115,48]⟩,⟨#[115,49]⟩,⟨#[115,50]⟩,⟨#[122,122]⟩,⟨#[]⟩] L a11 c0 h12 _ (by simp) (by simp) s12 (by omega) (by omega) hL (by omega)) fun v h13 c13 a13 hv hc13 w1 w2 w3 w4=>?_
  obtain ⟨c,rfl,_⟩:=hv
  simp [bsI,an]
  refine ACalls.draw (R:=fun v=>∃ k,v=.str k∧k∈([⟨#[115,48]⟩,⟨#[115,49]⟩,⟨#[115,48]⟩,⟨#[65]⟩]:List ByteArray)) (ep [⟨#[115,48]⟩,⟨#[115,49]⟩,⟨#[115,48]⟩,⟨#[65]⟩] L a13 c0 h13 _ (by simp) (by simp) w3 (by omega) (by omega) hL (by omega)) fun v h14 c14 a14 hv hc14 x1 x2 x3 x4=>?_
  obtain ⟨d,rfl,_⟩:=hv
  have b14:h14 c11=_:=(x4 c11 (by omega)).trans ((w4 c11 (by omega)).trans b12)
  have k14:∀ k,k<c0→h14 k=h0 k:=fun k hk=>(x4 k (by omega)).trans ((w4 k (by omega)).trans (k12 k hk))
  have hAp:=vH p hcnt c d
  have hPF:=vI p (by omega)
  have hSt:=vJ _ p.steps (Nat.lt_succ_self _) (by omega)
  simp only [Prog.av] at hAp hPF
  simp [b14]
  refine ACalls.pure hAp fun c15 hc15=>?_
  simp [b14]
  refine ACalls.pure hPF fun c16 hc16=>?_
  by_cases hz:aW p=0
  case neg=>
   have e1:ct p c d=aW p:=by unfold ct; rw [if_neg hz]
   have e2:ew p c d=false:=jh (by rw [e1]; exact hz)
   simp [hz,e1,e2]
   refine ACalls.pure nZ fun c17 hc17=>?_
   simp
   exact ay k14
  have hfe:=qZ hz c d
  obtain ⟨z1,hz1⟩:∃ z:Int,z=if (!bh c)=true then 5 else 0:=⟨_,rfl⟩
  obtain ⟨z2,hz2⟩:∃ z:Int,z=if (!bh d)=true then 5 else 0:=⟨_,rfl⟩
  obtain ⟨z3,hz3⟩:∃ z:Int,z=if (!inL c (bg p.steps))=true then 8 else 0:=⟨_,rfl⟩
  obtain ⟨z4,hz4⟩:∃ z:Int,z=if (!inL d (bg p.steps))=true then 8 else 0:=⟨_,rfl⟩
  have hw1:aG Pg Fn13.n [.bool (!bh c),.int 5] (.int z1):=by rw [hz1]; exact ll _ _
  have hw2:aG Pg Fn13.n [.bool (!bh d),.int 5] (.int z2):=by rw [hz2]; exact ll _ _
  have hw3:aG Pg Fn13.n [.bool (!inL c (bg p.steps)),.int 8] (.int z3):=by rw [hz3]; exact ll _ _
  have hw4:aG Pg Fn13.n [.bool (!inL d (bg p.steps)),.int 8] (.int z4):=by rw [hz4]; exact ll _ _
  rw [←hz1,←hz2,←hz3,←hz4] at hfe
  have her:=mP [z1,z2,z3,z4]
  simp only [be,List.map_cons,List.map_nil] at her
  rw [hfe] at her
  simp [hz,b14]
  refine ACalls.pure hSt fun c17 hc17=>?_
  simp
  refine ACalls.pure (fN c) fun c18 hc18=>?_
  simp
  refine ACalls.pure hw1 fun c19 hc19=>?_
  simp
  refine ACalls.pure (fN d) fun c20 hc20=>?_
  simp
  refine ACalls.pure hw2 fun c21 hc21=>?_
  simp
  refine ACalls.pure (er (bg p.steps) c) fun c22 hc22=>?_
  simp
  refine ACalls.pure hw3 fun c23 hc23=>?_
  simp
  refine ACalls.pure (er (bg p.steps) d) fun c24 hc24=>?_
  simp
  refine ACalls.pure hw4 fun c25 hc25=>?_
  simp [bsI,an]
  refine ACalls.pure her fun c26 hc26=>?_
  by_cases hE:ct p c d=0
  case neg=>
   have e2:ew p c d=false:=jh hE
   simp [hE,e2]
   refine ACalls.pure nZ fun c27 hc27=>?_
   simp
   exact ay k14
  have hsome:(ck p c).isSome=true∧(ck p d).isSome=true:=by
   unfold ct at hE
   rw [if_pos hz] at hE
   split at hE
   ·split at hE
    ·assumption
    ·cases hE
   ·cases hE
  obtain ⟨u,hu⟩:=Option.isSome_iff_exists.1 hsome.1
  obtain ⟨w,hw⟩:=Option.isSome_iff_exists.1 hsome.2
  have hao:=vK p hz hcnt c d u w hu hw
  have e2:ew p c d=jr u w:=by unfold ew; rw [if_pos hE,hu,hw]
  simp only [Prog.av] at hao
  rw [←e2] at hao
  simp [hE,b14]
  refine ACalls.pure hao fun c27 hc27=>?_
  simp
  refine ACalls.pure nZ fun c28 hc28=>?_
  simp
  exact ay k14
end Go.Proofs.YtjhogglgkjcacaaGreat
