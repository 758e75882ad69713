/- Part of the claim: see its last text. -/
import Derived.Test.YtocppbmmfklbmaaGreatMc1
import Derived.Test.YtocppbmmfklbmaaGreatMa35
import Derived.Below
set_option linter.all false
set_option maxRecDepth 20000
set_option maxHeartbeats 4000000
namespace Go.Proofs.YtocppbmmfklbmaaGreat
open Go.AM Go.Wb
theorem oi {α:Type} (p:α→Bool):∀ (l:List α) (i:Int),0≤i→(aR p l i = -1∧l.filter (fun x=>!p x)=l)∨∃ (k:Nat) (hk:k<l.length),aR p l i=i+k∧(l.take k).filter (fun x=>!p x)=l.take k∧p l[k]=true
 | [],i,_=>.inl ⟨rfl,rfl⟩
 | x::l,i,hi=>by
  unfold aR
  by_cases h:p x=true
  ·exact .inr ⟨0,by simp,by simp [h],by simp,by simpa using h⟩
  ·simp only [h]
   rcases oi p l (i+1) (by omega) with ⟨h1,h2⟩ | ⟨k,hk,h1,h2,h3⟩
   ·exact .inl ⟨by simpa using h1,by simp [h,h2]⟩
   ·refine .inr ⟨k+1,by simp; exact hk,?_,?_,by simpa using h3⟩
    ·simp; rw [h1]; omega
    ·simp [h,h2]
def uA (f:Nat) (p:Wb.Step→Bool):Prop:=∀ x:Wb.Step,aO Pg f [x.av] (.bool (p x))
theorem kZ (x:Wb.Step):aC 15 x.cells=true:=by
 obtain ⟨_,_,_,_,_,_,_,_,⟨_,_,_,_,_,_⟩⟩:=x; rfl
theorem dI (x:Wb.Step):x.cells.length=15:=by
 obtain ⟨_,_,_,_,_,_,_,_,⟨_,_,_,_,_,_⟩⟩:=x; rfl
theorem iB (l:List Wb.Step) (f:Nat) (p:Wb.Step→Bool) (hp:uA f p) (h:Heap) (g c:Nat) (hg:h g=some (.row 15 (l.map Step.cells) .live none)) (hl:l.length≤68719476736) :
  ACalls Pg Fn193.n [.row g 15 0 l.length,.fn (.func f) [] []] ⟨h,c⟩ fun av s'=>av=.int (aR p l 0)∧s'.h=h:=by
 refine Fn193.calls .frz ?_
 unfold Fn193.ac
 simp
 refine bU 8 Fn193.W0 l (fun i r sl=>aR p l 0=aR p r i) (by rfl) (by rfl) ?_ ?_ ?_
 ·simp
 ·intro v c1 hv hc hI
  simp [hv,hI,aR]
 ·intro i x xs v c1 hi hx hl2 hv hc hI
  have hw:=ae (x:=(i:Int)+1) (by omega) (by omega)
  have hge:(l.map Step.cells)[i]?=some x.cells:=by simp [hi,hx]
  have h15:x.cells.take 15=x.cells:=List.take_of_length_le (by rw [dI]; omega)
  have hpx:=hp x
  rw [Step.av] at hpx
  simp [hv,hi,hg,hx,dI,h15]
  refine ACalls.pure hpx fun c2 hc2=>?_
  by_cases hpx:p x=true
  ·simp [hpx,hI,aR]
  ·simp [hpx,hv,hw,hI,aR]; omega
theorem lP {p:Wb.Step→Bool} {l:List Wb.Step} {j:Nat} (hj:j<l.length):(l.take (j+1)).filter p=(l.take j).filter p++if p l[j]=true then [l[j]] else []:=by
 rw [List.take_add_one,List.getElem?_eq_getElem hj,List.filter_append]
 cases h:p l[j] <;> simp [h]
theorem hU (l:List Wb.Step) (f:Nat) (p:Wb.Step→Bool) (hp:uA f p) (h0:Heap) (g c0:Nat) (hg:h0 g=some (.row 15 (l.map Step.cells) .live none)) (hgc:g<c0) (hl:l.length≤1000000) :
  ACalls Pg Fn159.n [.row g 15 0 l.length,.fn (.func f) [] []] ⟨h0,c0⟩ fun av s'=>∃ all,av=.row g 15 0 (l.filter fun x=>!p x).length∧s'.h g=some (.row 15 all .live none)∧all.take (l.filter fun x=>!p x).length=(l.filter fun x=>!p x).map Step.cells∧(l.filter fun x=>!p x).length≤all.length∧∀ k,k<c0→k≠g→s'.h k=h0 k:=by
 refine Fn159.calls .keep ?_
 unfold Fn159.ac
 simp
 refine ACalls.at (iB l f p hp h0 g c0 hg (by omega)) fun c1 hc1=>?_
 simp
 rcases oi p l 0 (Int.le_refl 0) with ⟨e1,e2⟩ | ⟨i,hi,e1,e2,e3⟩
 ·simp [e1]
  rw [e2]
  exact ⟨rfl,l.map Step.cells,hg,by rw [←List.length_map (f:=Step.cells),List.take_length],by simp⟩
 ·rw [Int.zero_add] at e1
  have hi1:¬(i:Int) = -1:=by omega
  have hw:=ae (x:=(i:Int)+1) (by omega) (by omega)
  simp [e1,hi1,hw]
  obtain ⟨Inv,hInv⟩:∃ Inv:Nat→Slots→St→Prop,Inv=fun n sl s'=>∃ (m:List Wb.Step) (i j:Nat),i<j∧j+n=l.length∧sl 5=.int i∧sl 6=.int j∧m.length=l.length∧m.take i=(l.take j).filter (fun x=>!p x)∧m.drop j=l.drop j∧s'.h g=some (.row 15 (m.map Step.cells) .live none)∧(∀ k,k<c0→k≠g→s'.h k=h0 k)∧c0≤s'.c:=⟨_,rfl⟩
  refine cH Fn159.W0 (by rfl) Inv (l.length-(i+1)) ?_ ?_
  ·rw [hInv]
   refine ⟨l,i,i+1,by omega,by omega,by simp,by simp,rfl,?_,rfl,hg,fun _ _ _=>rfl,hc1⟩
   rw [lP hi,e2,e3]; simp
  ·intro n v s' hI
   rw [hInv] at hI
   obtain ⟨m,i,j,hij,hj,h5,h6,hml,hmt,hmd,hg',hfr,hcc⟩:=hI
   obtain ⟨h,c⟩:=s'
   simp at h5 h6
   simp only at hg' hfr hcc
   by_cases hlt:j<l.length
   case neg=>
    have hlt':¬(j:Int)<l.length:=by omega
    have hjl:i≤l.length:=by omega
    have hs1:=srI_row_from (sz:=15) (g:=g) (off:=0) hjl
    have hs2:=srI_row_to (sz:=15) (g:=g) (off:=0) hjl
    have hcl:=clI_row (sz:=15) (zs:=[.int 0,.str ⟨#[]⟩,.nil,.nil,.nil,.nil,.str ⟨#[]⟩,.nil,.int 0,.int 0,.int 0,.nil,.str ⟨#[]⟩,.nil,.nil]) (off:=i) (len:=l.length-i) (s:=⟨h,c⟩) hg' (by decide) (by decide) (by simp; omega)
    have hft:(l.filter fun x=>!p x)=m.take i:=by rw [hmt,List.take_of_length_le (by omega)]
    have hfl:(l.filter fun x=>!p x).length=i:=by rw [hft,List.length_take]; omega
    simp [h5,h6,hlt,hs1,hs2,hcl,hfl]
    refine ⟨?_,?_,fun k hk hkg=>by rw [ad hkg]; exact hfr k hk hkg⟩
    ·rw [hft]
     rw [List.take_append_of_le_length (by simp; omega),List.take_take,Nat.min_self,List.map_take]
    ·omega
   have hlt':(j:Int)<l.length:=by omega
   have hjm:j<m.length:=by omega
   have hmj:m[j]=l[j]:=by
    have:=congrArg (·[0]?) hmd
    simp only [List.getElem?_drop,Nat.add_zero] at this
    rw [List.getElem?_eq_getElem hjm,List.getElem?_eq_getElem hlt] at this
    exact Option.some.inj this
   have hpx:=hp l[j]
   have hgc':¬g=c:=by omega
   have hcg':¬c=g:=by omega
   have hw1:=ae (x:=(j:Int)+1) (by omega) (by omega)
   have hw2:=ae (x:=(i:Int)+1) (by omega) (by omega)
   have hft:=lP (p:=fun x=>!p x) hlt
   obtain ⟨X,hX⟩:∃ X,X=l[j]:=⟨_,rfl⟩
   rw [←hX] at hmj hpx hft
   have hXc:=Step.av
   have hge:(m.map Step.cells)[j]?=some X.cells:=by simp [hjm,hmj]
   obtain ⟨kind,name,low,high,conds,body,array,subs,⟨op,n2,form,ea,es,args⟩⟩:=X
   rw [Step.cells_mk] at hge
   rw [Step.av_mk] at hpx
   simp [h6,hlt,hg',hmj,hjm,Step.cells_mk]
   refine ACalls.pure hpx fun c2 hc2=>?_
   by_cases hpj:p (.mk kind name low high conds body array subs (.mk op n2 form ea es args))=true
   ·simp [hpj,h6,hw1]
    refine ⟨n-1,by omega,?_⟩
    rw [hInv]
    refine ⟨m,i,j+1,by omega,by omega,by simp [h5],by simp,hml,?_,?_,?_,fun k hk hkg=>?_,by show c0≤c2; omega⟩
    ·rw [hft,hmt]; simp [hpj]
    ·have:=congrArg (·.drop 1) hmd
     simpa [List.drop_drop] using this
    ·show upd h c _ g=_
     rw [ad hgc']; exact hg'
    ·show upd h c _ k=_
     rw [ad (by omega)]; exact hfr k hk hkg
   ·have hil:i<l.length:=by omega
    have him:i<m.length:=by omega
    simp [hpj,h5,h6,hw1,hw2,hil,hg',hgc',him,dI]
    refine ⟨n-1,by omega,?_⟩
    rw [hInv]
    refine ⟨m.set i (.mk kind name low high conds body array subs (.mk op n2 form ea es args)),i+1,j+1,by omega,by omega,by simp,by simp,by simp [hml],?_,?_,?_,fun k hk hkg=>?_,by show c0≤c2; omega⟩
    ·rw [hft,←hmt,List.take_add_one,List.take_set_of_le (Nat.le_refl _),List.getElem?_set_self him]
     simp [hpj]
    ·rw [List.drop_set_of_lt (by omega)]
     have:=congrArg (·.drop 1) hmd
     simpa [List.drop_drop] using this
    ·show upd _ g _ g=_
     rw [ah,List.map_set,Step.cells_mk,List.drop_of_length_le (by rw [dI]; omega)]
    ·show upd (upd h c _) g _ k=_
     rw [ad hkg,ad (by omega)]; exact hfr k hk hkg
theorem _root_.Go.AM.slnW_row {g sz off len:Nat} {s:St} {F:Bx (AV→St→Prop)} (h:len=0→F.v (.bool true) s) (h':F.v (.bool false) s):@ur .eql (.row g sz off len) s F:=by
 show (BinOp.eql=.eql∨BinOp.eql=.neq)∧_
 refine ⟨.inl rfl,?_⟩
 cases len with
 | zero=>exact ⟨h rfl,h'⟩
 | succ n=>exact h'
def fk (h:Heap) (x:AV) (l:List Wb.Step):Prop:=(l=[]∧∃ b,x=.sl [] b)∨∃ ga st par,x=.row ga 15 0 l.length∧h ga=some (.row 15 (l.map Step.cells) st par)
theorem jX (l:List Wb.Step) (hl:l.length≤1000000) (x:AV) (h0:Heap) (c0:Nat) (hx:fk h0 x l) :
  ACalls Pg Fn160.n [x] ⟨h0,c0⟩ fun av s'=>Fr c0 h0 s'.h s'.c∧((av=.sl [] true∧l=[])∨∃ g,c0≤g∧g<s'.c∧av=.row g 15 0 l.length∧s'.h g=some (.row 15 (l.map Step.cells) .live none)):=by
 have hall:(l.map Step.cells).all (aC 15)=true:=List.all_eq_true.2 fun e he=>by obtain ⟨t,_,rfl⟩:=List.mem_map.1 he; exact kZ t
 have hap:∀ s:St,s.h=h0→s.show_ x=some (l.map Step.cells)∧dR x 15=true→apI 15 272 .plain (.sl [] true) x s=some (.row s.c 15 0 l.length,AM.newRow 15 (l.map Step.cells) s):=by
  intro s hs ⟨h1,h2⟩
  have hle:0+(l.map Step.cells).length≤68719476736:=by simp; omega
  simp only [apI,h1,h2,hall]
  simp
  omega
 refine Fn160.calls .keep ?_
 unfold Fn160.ac
 rcases hx with ⟨rfl,b,rfl⟩ | ⟨ga,st,par,rfl,hga⟩
 ·have hap':=hap ⟨h0,c0⟩ rfl ⟨rfl,rfl⟩
  simp
  refine lH (fun h=>?_) ?_
  ·simp
   exact Fr.refl _ _
  ·simp [bsI,az]
   simp at hap'
   simp [hap']
   exact ⟨(Fr.refl h0 c0).upd (Nat.le_refl _) (Nat.le_succ _),c0,Nat.le_refl _,Nat.lt_succ_self _,rfl,ah⟩
 ·have htk:(l.map Step.cells).take l.length=l.map Step.cells:=by rw [←List.length_map (f:=Step.cells),List.take_length]
  have hap':=hap ⟨h0,c0⟩ rfl ⟨by simp [St.show_,hga,htk],rfl⟩
  simp
  refine slnW_row (fun h=>?_) ?_
  ·have:l=[]:=List.length_eq_zero_iff.1 h
   simp [this]
   exact Fr.refl _ _
  ·simp [bsI,az,hap']
   exact ⟨(Fr.refl h0 c0).upd (Nat.le_refl _) (Nat.le_succ _),c0,Nat.le_refl _,Nat.lt_succ_self _,rfl,ah⟩
theorem gQ (f:Nat) (b:Bool) (s:St):ACalls Pg Fn159.n [.sl [] b,.fn (.func f) [] []] s fun av s'=>av=.sl [] b∧s'.h=s.h:=by
 have hidx:ACalls Pg Fn193.n [.sl [] false,.fn (.func f) [] []] s fun av s'=>av=.int (-1)∧s'.h=s.h:=by
  refine Fn193.calls .frz ?_
  unfold Fn193.ac
  simp
  refine bU 8 Fn193.W0 ([]:List Wb.Step) (fun i r sl=>True) (by rfl) (by rfl) ?_ ?_ ?_
  ·simp
  ·intro v c1 hv hc hI
   simp at hv
   simp [hv]
  ·intro i x xs v c1 hi; simp at hi
 obtain ⟨h,c⟩:=s
 refine Fn159.calls .keep ?_
 unfold Fn159.ac
 simp
 refine ACalls.at hidx fun c1 hc1=>?_
 simp
theorem tv (s:Wb.Step):aO Pg Fn161.n [s.av] (.bool (!isLoop s)):=by
 intro st
 obtain ⟨kind,name,low,high,conds,body,array,subs,⟨op,n,form,ea,es,args⟩⟩:=s
 rw [Step.av_mk]
 refine Fn161.calls .frz ?_
 unfold Fn161.ac
 simp [isLoop,Step.kind]
 rfl
theorem sW (l:List Wb.Step) (hl:l.length≤1000000) (x:AV) (h0:Heap) (c0:Nat) (hx:fk h0 x l) :
  ACalls Pg Fn104.n [x] ⟨h0,c0⟩ fun av s'=>av=row ((l.filter isLoop).map Step.cells)∧s'.h=h0:=by
 refine Fn104.calls .frz ?_
 unfold Fn104.ac
 have hn:norm x=x∨(l=[]∧norm x=.sl [] false):=by
  rcases hx with ⟨rfl,b,rfl⟩ | ⟨ga,st,par,rfl,_⟩
  ·exact .inr ⟨rfl,rfl⟩
  ·exact .inl rfl
 have hx':fk h0 (norm x) l:=by
  rcases hn with h | ⟨h1,h2⟩
  ·rw [h]; exact hx
  ·rw [h2]; exact .inl ⟨h1,false,rfl⟩
 have hf:∀ {m:List Wb.Step},(m.filter fun x=>!(!isLoop x))=m.filter isLoop:=fun {m}=>by simp
 simp
 refine (jX l hl _ h0 c0 hx').mono ?_
 rintro av ⟨h1,c1⟩ hc1 ⟨hF1,hav⟩
 simp only at hc1 hF1 hav
 rcases hav with ⟨rfl,rfl⟩ | ⟨g,hg1,hg2,rfl,hg⟩
 ·simp
  refine (gQ Fn161.n false ⟨h1,c1⟩).mono ?_
  rintro av ⟨h2,c2⟩ hc2 ⟨rfl,hh⟩
  simp only at hh
  subst hh
  simp
  exact hF1.retH
 ·simp
  refine (hU l Fn161.n (fun x=>!isLoop x) tv h1 g c1 hg hg2 hl).mono ?_
  rintro av ⟨h2,c2⟩ hc2 ⟨all,rfl,q1,q2,q3,q4⟩
  simp only at hc2 q1 q4
  rw [hf] at q2 q3 ⊢
  simp [q1,q3,q2]
  exact aE fun k hk=>by rw [ad (by omega),q4 k (by omega) (by omega)]; exact hF1.h k hk
mutual
def cI:Wb.Expr→List Wb.Expr
 | .mk op n form array subs args=>if op=3 then [.mk op n form array subs args] else bn args
def bn:List Wb.Expr→List Wb.Expr
 | []=>[]
 | e::es=>cI e++bn es
end
mutual
theorem hH:∀ e:Wb.Expr,(cI e).length=aW e
 | .mk op n form array subs args=>by
  simp only [cI,aW]
  split
  ·rfl
  ·exact iU args
theorem iU:∀ l:List Wb.Expr,(bn l).length=bg l
 | []=>rfl
 | e::es=>by simp [bn,bg,hH e,iU es]
end
theorem iT:∀ (a b:List Wb.Expr),bn (a++b)=bn a++bn b
 | [],b=>by simp [bn]
 | x::a,b=>by simp [bn,iT a b]
theorem sS (x:Wb.Expr):aC 7 x.cells=true:=by
 obtain ⟨_,_,_,_,_,_⟩:=x; rfl
theorem sX:∀ (N:Nat) (x:Wb.Expr),SizeOf.sizeOf x≤N→aW x≤4096→aO Pg Fn105.n [x.av] (row ((cI x).map Expr.cells)):=by
 intro N
 induction N with
 | zero=>intro x hx; obtain ⟨_,_,_,_,_,_⟩:=x; simp at hx
 | succ N ih=>
  rintro x hx hnr ⟨h0,c0⟩
  refine ACalls.small fun hsm=>?_
  obtain ⟨op,n,form,array,subs,args⟩:=x
  rw [Expr.av_mk] at hsm ⊢
  have hlen:args.length≤68719476736:=by simp at hsm; omega
  refine Fn105.calls .frz ?_
  unfold Fn105.ac
  by_cases h3:op=3
  ·subst h3
   simp [bsI,az,cI,Expr.cells_mk]
  simp [h3]
  have hspec:cI (.mk op n form array subs args)=bn args:=by simp [cI,h3]
  rw [hspec]
  have hnr3:bg args≤4096:=by simpa [aW,h3] using hnr
  obtain ⟨Inv,hInv⟩:∃ Inv:Nat→List Wb.Expr→Slots→St→Prop,Inv=fun i r sl s'=>∃ go,sl 3=.row go 7 0 (bn (args.take i)).length∧c0<go∧go<s'.c∧s'.h go=some (.row 7 ((bn (args.take i)).map Expr.cells) .live none)∧∀ k,k<c0→s'.h k=h0 k:=⟨_,rfl⟩
  refine bq 14 Fn105.W0 args Inv (by rfl) (by rfl) ?_ ?_ ?_
  ·rw [hInv]
   refine ⟨by simp,c0+1,by simp [bn],by omega,by show c0+1<c0+1+1; omega,by simp [bn],fun k hk=>?_⟩
   show upd (upd h0 c0 _) (c0+1) _ k=_
   rw [ad (by omega),ad (by omega)]
  ·intro v s' hv hI
   rw [hInv,List.take_length] at hI
   obtain ⟨go,h9,i1,i2,i3,i4⟩:=hI
   obtain ⟨h,c⟩:=s'
   simp at h9 i3
   simp only at i2 i4
   have htk:List.take (bn args).length ((bn args).map Expr.cells)=(bn args).map Expr.cells:=by rw [←List.length_map (f:=Expr.cells),List.take_length]
   simp [hv,h9,i3,htk]
   exact aE fun k hk=>by rw [ad (by omega)]; exact i4 k hk
  ·intro i x xs v s' hi hx2 hl2 hv hI
   rw [hInv] at hI
   obtain ⟨go,h9,i1,i2,i3,i4⟩:=hI
   obtain ⟨h,c⟩:=s'
   simp at h9
   simp only at i2 i3 i4
   have hw:=ae (x:=(i:Int)+1) (by omega) (by omega)
   have hmx:x∈args:=ba hl2
   have hsz:SizeOf.sizeOf x≤N:=by
    have:=List.sizeOf_lt_of_mem hmx
    simp at hx; omega
   have hnr2:bg args=bg (args.take i)+(aW x+bg xs):=by
    conv=>lhs; rw [hl2]
    rw [iR]; rfl
   have hsl:(bn (args.take i)).length=bg (args.take i):=iU _
   have htake:args.take (i+1)=args.take i++[x]:=by rw [List.take_add_one,List.getElem?_eq_getElem hi,hx2]; rfl
   have hce:=ih x hsz (by omega)
   have hrl:=hH x
   obtain ⟨op2,n2,form2,array2,subs2,args2⟩:=x
   rw [Expr.av_mk] at hce
   simp [hv,hi,hx2,Expr.cells_mk]
   refine ACalls.pure hce fun c2 hc2=>?_
   obtain ⟨h2,hh2⟩:∃ h2,h2=upd h c (some (.row 7 [[.int op2,.int n2,.int form2.const,row (form2.terms.map Term.cells),.str array2,row (subs2.map Form.cells),row (args2.map Expr.cells)]] .live none)):=⟨_,rfl⟩
   rw [←hh2]
   have hgo2:h2 go=some (.row 7 ((bn (args.take i)).map Expr.cells) .live none):=by rw [hh2,ad (by omega)]; exact i3
   have hap:=jc (sz:=7) (bytes:=112) (md:=.plain) (es:=(bn (args.take i)).map Expr.cells) (xs:=(cI (.mk op2 n2 form2 array2 subs2 args2)).map Expr.cells) (b:=false) (len:=(bn (args.take i)).length) (s:=⟨h2,c2⟩) (by simp) hgo2 (by simp) (by decide) (by decide) (by decide) (fun y hy=>by obtain ⟨t,_,rfl⟩:=List.mem_map.1 hy; exact sS t) (by simp only [List.length_map]; omega)
   simp only [row] at hap ⊢
   simp [h9,hap,hw,hv]
   rw [hInv]
   refine ⟨c2,?_,by omega,by show c2<c2+1; omega,?_,fun k hk=>?_⟩
   ·rw [htake,iT]; simp [bn]
   ·rw [htake,iT]
    show upd (upd h2 go _) c2 _ c2=_
    rw [ah]; simp [bn]
   ·show upd (upd h2 go _) c2 _ k=_
    rw [ad (by omega),ad (by omega),hh2,ad (by omega)]; exact i4 k hk
end Go.Proofs.YtocppbmmfklbmaaGreat
set_option maxRecDepth 20000
set_option maxHeartbeats 4000000
namespace Go.Proofs.YtocppbmmfklbmaaGreat
open Go.AM Go.Wb
mutual
def fc (around:List Wb.Step):Wb.Step→List (Wb.Step×List Wb.Step)
 | .mk kind name low high conds body array subs expr=>(.mk kind name low high conds body array subs expr,around)::bM (around++[.mk kind name low high conds body array subs expr]) body
def bM (around:List Wb.Step):List Wb.Step→List (Wb.Step×List Wb.Step)
 | []=>[]
 | s::ss=>fc around s++bM around ss
end
theorem lf (around:List Wb.Step):∀ a b:List Wb.Step,bM around (a++b)=bM around a++bM around b
 | [],b=>by simp [bM]
 | x::a,b=>by simp [bM,lf around a b]
def oV (h:Heap) (k:Nat):Prop:=∀ sz es st p,h k≠some (.row sz es st (some p))
structure Sees (fn:Nat) (a b:List AV) (I:List (Wb.Step×List Wb.Step)→(Nat→Prop)→Heap→Prop) (M:Nat) (ok:Wb.Step→Prop):Prop where
 frame:∀ {v F h h'},I v F h→(∀ k,F k→h' k=h k)→I v F h'
 par:∀ {v F h},I v F h→∀ k,F k→oV h k
 call:∀ v F X (around:List Wb.Step) x h c,v.length<M→ok X→I v F h→(∀ k,F k→k<c)→fk h x around→around.length≤1000 →
  ACalls Pg fn (a++[Wb.Step.av X,x]++b) ⟨h,c⟩ fun av s'=>∃ F',I (v++[(X,around)]) F' s'.h∧(∀ k,F' k→F k∨(c≤k∧k<s'.c))∧(∀ k,k<c→¬F k→s'.h k=h k)∧∀ k,c≤k→oV s'.h k
def ArAt (h:Heap) (F:Nat→Prop) (c0:Nat) (x:AV) (l:List Wb.Step):Prop:=(l=[]∧x=.sl [] true)∨∃ ga par,x=.row ga 15 0 l.length∧h ga=some (.row 15 (l.map Step.cells) .live par)∧¬F ga∧ga<c0
def ArSt (h0 h:Heap) (F:Nat→Prop) (c0 c:Nat) (x:AV):Prop:=∀ ga sz es st par,aq x ga→h0 ga=some (.row sz es st par)→∃ st',h ga=some (.row sz es st' par) ∧
 (st'=.live∨∃ k,st'=.lent k∧c0≤k∧k<c∧¬F k∧(h k=none∨∃ sz es st p,h k=some (.row sz es st (some p))∧(st=.live∨∃ j,st=.lent j∧j<c∧¬F j∧h j=none)))
theorem oP:∀ (around:List Wb.Step) (x:Wb.Step),(fc around x).length=count x
 | around,.mk kind name low high conds body array subs expr=>by
  have:=fun ar=>walkL_len' ar body
  simp [fc,count,this]; omega
where
 walkL_len':∀ (around:List Wb.Step) (l:List Wb.Step),(bM around l).length=aA l
  | around,[]=>rfl
  | around,s::ss=>by simp [bM,aA,oP around s,walkL_len' around ss]
theorem sR (around:List Wb.Step) (l:List Wb.Step):(bM around l).length=aA l:=oP.walkL_len' around l
@[simp] theorem _root_.Go.AM.finW_fork_re {P:Program} {d:Option Nat} {q:Nat×Option (Nat×Bool)×I} {re:List (Nat×Option (Nat×Bool)×I)} {r:List AO} {K:Slots→St→Prop} {sl:Slots} {v:AV} {s:St} :
  aU P d .fork (q::re) r K sl v s=(eS q sl s∧aU P d .fork re r K sl v s):=by simp [aU,cY,and_assoc]
theorem pa {fn:Nat} {a b:List AV} {I:List (Wb.Step×List Wb.Step)→(Nat→Prop)→Heap→Prop} {M:Nat} {ok:Wb.Step→Prop} (S:Sees fn a b I M ok):∀ (N:Nat) (l:List Wb.Step),aA l≤N→∀ (v:List (Wb.Step×List Wb.Step)) (F:Nat→Prop) (around:List Wb.Step) (x:AV) (h0:Heap) (c0:Nat),
  v.length+aA l≤M→(∀ y∈bM around l,ok y.1)→I v F h0→(∀ k,F k→k<c0)→ArAt h0 F c0 x around→around.length+N≤1000 →
  ACalls Pg Fn102.n [row (l.map Step.cells),x,.fn (.func fn) a b] ⟨h0,c0⟩ fun av s'=>∃ F',I (v++bM around l) F' s'.h∧(∀ k,F' k→F k∨(c0≤k∧k<s'.c))∧(∀ k,k<c0→¬F k→¬aq x k→s'.h k=h0 k)∧(∀ k,c0≤k→oV s'.h k) ∧
   (∀ ga sz es st par,aq x ga→h0 ga=some (.row sz es st par)→∃ st',s'.h ga=some (.row sz es st' par)∧(st'=.live∨∃ k,st'=.lent k∧c0≤k∧k<s'.c∧¬F' k∧s'.h k=none)):=by
 intro N
 induction N using Nat.strongRecOn with
 | _ N ih=>
  intro l hl v F around x h0 c0 hM hok hI hF hx har
  refine ACalls.small fun hsm=>?_
  have hlen:l.length≤68719476736:=by simp at hsm; omega
  refine ACalls.dropF c0 (R:=fun av s'=>∃ F',I (v++bM around l) F' s'.h∧(∀ k,F' k→F k∨(c0≤k∧k<s'.c))∧(∀ k,k<c0→¬F k→¬aq x k→s'.h k=h0 k)∧ArSt h0 s'.h F' c0 s'.c x) ?_ ?_
  ·refine Fn102.calls .keep ?_
   unfold Fn102.ac
   simp
   obtain ⟨Inv,hInv⟩:∃ Inv:Nat→List Wb.Step→Slots→St→Prop,Inv=fun i r sl s'=>∃ F1,I (v++bM around (l.take i)) F1 s'.h∧(∀ k,F1 k→F k∨(c0≤k∧k<s'.c))∧ArSt h0 s'.h F1 c0 s'.c x∧c0≤s'.c∧(∀ k,k<c0→¬F k→¬aq x k→s'.h k=h0 k):=⟨_,rfl⟩
   refine bq 10 Fn102.W0 l Inv (by rfl) (by rfl) ?_ ?_ ?_
   ·rw [hInv]
    refine ⟨by simp,F,by simpa [bM] using hI,fun k hk=>.inl hk,?_,Nat.le_refl _,fun _ _ _ _=>rfl⟩
    intro ga sz es st par hga hh
    rcases hx with ⟨_,rfl⟩ | ⟨ga',par',rfl,h2,_⟩
    ·exact absurd hga aL
    ·have:=an.1 hga; subst this
     rw [h2] at hh; injection hh with hh; injection hh with e1 e2 e3 e4
     subst e3
     exact ⟨.live,by show h0 ga=_; rw [h2,e1,e2,e4],.inl rfl⟩
   ·intro v1 s' hv hI1
    rw [hInv,List.take_length] at hI1
    obtain ⟨F1,i1,i2,i3,i4,i5⟩:=hI1
    simp [hv]
    exact ⟨F1,i1,i2,i5,i3⟩
   ·intro i X xs v1 s' hi hx2 hl2 hv hI1
    rw [hInv] at hI1
    obtain ⟨F1,i1,i2,i3,i4,i5⟩:=hI1
    obtain ⟨h,c⟩:=s'
    simp only at i1 i2 i3 i4 i5
    have hw:=ae (x:=(i:Int)+1) (by omega) (by omega)
    have hcut:=d7 hl2
    have hwl:=sR around (l.take i)
    have hcx:1≤count X:=by obtain ⟨_,_,_,_,_,_,_,_,_⟩:=X; simp [count]
    have htake:l.take (i+1)=l.take i++[X]:=by rw [List.take_add_one,List.getElem?_eq_getElem hi,hx2]; rfl
    have hF1c:∀ k,F1 k→k<c:=fun k hk=>by
     rcases i2 k hk with h | h
     ·have:=hF k h; omega
     ·omega
    have hax:fk h (norm x) around∧(∀ k,aq x k→k<c0∧¬F1 k):=by
     rcases hx with ⟨rfl,rfl⟩ | ⟨ga,par,rfl,h2,h3,h4⟩
     ·exact ⟨.inl ⟨rfl,false,rfl⟩,fun k hk=>absurd hk aL⟩
     ·obtain ⟨st',q1,_⟩:=i3 ga _ _ _ _ (an.2 rfl) h2
      refine ⟨.inr ⟨ga,st',par,rfl,q1⟩,fun k hk=>?_⟩
      have:=an.1 hk; subst this
      refine ⟨h4,fun hf=>?_⟩
      rcases i2 _ hf with h | h
      ·exact h3 h
      ·omega
    obtain ⟨h1,hh1⟩:∃ h1,h1=upd h c (some (.row 15 [X.cells] .live none)):=⟨_,rfl⟩
    have hlow1:∀ k,k<c→h1 k=h k:=fun k hk=>by rw [hh1,ad (by omega)]
    have hst1:fk h1 (norm x) around:=by
     rcases hx with ⟨rfl,rfl⟩ | ⟨ga,par,rfl,h2,h3,h4⟩
     ·exact .inl ⟨rfl,false,rfl⟩
     ·obtain ⟨st',q1,_⟩:=i3 ga _ _ _ _ (an.2 rfl) h2
      exact .inr ⟨ga,st',par,rfl,(hlow1 ga (by omega)).trans q1⟩
    have hlw:bM around l=bM around (l.take i)++(fc around X++bM around xs):=by
     conv=>lhs; rw [hl2]
     rw [lf]; rfl
    have hokX:ok X:=by
     refine hok (X,around) ?_
     rw [hlw]
     obtain ⟨_,_,_,_,_,_,_,_,_⟩:=X
     simp [fc]
    have hcb:=S.call (v++bM around (l.take i)) F1 X around (norm x) h1 (c+1) (by simp [hwl]; omega) hokX (S.frame i1 fun k hk=>hlow1 k (hF1c k hk)) (fun k hk=>by have:=hF1c k hk; omega) hst1 (by omega)
    have hb15:∀ y∈X.cells,AV.cell y=true:=fun y hy=>by
     have:=kZ X
     simp only [aC,Bool.and_eq_true,List.all_eq_true] at this
     exact this.2 y hy
    obtain ⟨kind,name,low,high,conds,body,array,subs,⟨op,n2,form,ea,es2,args⟩⟩:=X
    have hbody:aA body<aA l:=by simp [count] at hcut; omega
    rw [Step.av_mk] at hcb
    simp only [List.append_assoc,List.singleton_append,List.cons_append,List.nil_append] at hcb
    simp [hv,hi,hx2,Step.cells_mk]
    rw [Step.cells_mk] at hh1
    rw [←hh1]
    refine hcb.mono ?_
    rintro av ⟨h2,c2⟩ hc2 ⟨F2,j1,j2,j3,j4⟩
    simp only at hc2 j1 j2 j3 j4
    have hnF1c:¬F1 c:=fun hk=>by have:=hF1c c hk; omega
    have hbox2:h2 c=some (.row 15 [[.int kind,.str name,row (low.map Bound.cells),row (high.map Bound.cells),row (conds.map Form.cells),row (body.map Step.cells),.str array,row (subs.map Form.cells),.int op,.int n2,.int form.const,row (form.terms.map Term.cells),.str ea,row (es2.map Form.cells),row (args.map Expr.cells)]] .live none):=(j3 c (by omega) hnF1c).trans (by rw [hh1,ah])
    have hF2c:∀ k,F2 k→k<c2:=fun k hk=>by
     rcases j2 k hk with h | h
     ·have:=hF1c k h; omega
     ·omega
    obtain ⟨X,hX⟩:∃ X:Wb.Step,X=.mk kind name low high conds body array subs (.mk op n2 form ea es2 args):=⟨_,rfl⟩
    have hXc:X.cells=[.int kind,.str name,row (low.map Bound.cells),row (high.map Bound.cells),row (conds.map Form.cells),row (body.map Step.cells),.str array,row (subs.map Form.cells),.int op,.int n2,.int form.const,row (form.terms.map Term.cells),.str ea,row (es2.map Form.cells),row (args.map Expr.cells)]:=by rw [hX,Step.cells_mk]
    rw [←hX] at j1 htake hcut hlw
    have hcX:count X=1+aA body:=by rw [hX]; rfl
    have hwX:fc around X=(X,around)::bM (around++[X]) body:=by rw [hX]; rfl
    rw [←hXc] at hbox2
    have hXok:=kZ X
    have hc2c:¬c=c2:=by omega
    have hnext:∀ (h3:Heap) (x1:AV),ArAt h3 F2 (c2+1) x1 (around++[X])→(∀ k,aq x1 k→k=c2)→(∀ k,F2 k→h3 k=h2 k)→(∀ k,k<c0→¬aq x k→h3 k=h2 k) →
      (∀ ga sz es st par,aq x ga→h0 ga=some (.row sz es st par)→h3 ga=some (.row sz es (.lent c2) par))→(∀ sz es st par,h3 c2=some (.row sz es st par)→(∃ ga,aq x ga)→∃ p,par=some p) →
      ACalls Pg Fn102.n [row (body.map Step.cells),x1,.fn (.func fn) a b] ⟨h3,c2+1⟩ fun av s'=>c2+1≤s'.c∧∀ sl',Inv (i+1) xs sl' s':=by
     intro h3 x1 hx1 hx1c hf3 hlow3 hga3 hpar3
     have hokb:∀ y∈bM (around++[X]) body,ok y.1:=fun y hy=>hok y (by
      rw [hlw,hwX]; simp [hy])
     have hrec:=ih (aA body) (by omega) body (Nat.le_refl _) (v++(bM around (l.take i)++[(X,around)])) F2 (around++[X]) x1 h3 (c2+1) (by simp [hwl]; omega) hokb (S.frame j1 hf3) (fun k hk=>by have:=hF2c k hk; omega) hx1 (by simp; omega)
     refine hrec.mono ?_
     rintro av ⟨h4,c4⟩ hc4 ⟨F3,r1,r2,r3,r4,r5⟩
     refine ⟨hc4,fun sl'=>?_⟩
     simp only at hc4 r1 r2 r3 r4 r5
     rw [hInv]
     refine ⟨F3,?_,fun k hk=>?_,?_,by show c0≤c4; omega,fun k hk hkF hkx=>?_⟩
     ·rw [htake,lf]
      simpa [bM,hwX] using r1
     ·rcases r2 k hk with h | h
      ·rcases j2 k h with h | h
       ·rcases i2 k h with h | h
        ·exact .inl h
        ·exact .inr (by show c0≤k∧k<c4; omega)
       ·exact .inr (by show c0≤k∧k<c4; omega)
      ·exact .inr (by show c0≤k∧k<c4; omega)
     ·intro ga sz es st par hga hh
      have hgc:=(hax.2 ga hga).1
      have hgF1:=(hax.2 ga hga).2
      have hgF2:¬F2 ga:=fun hf=>by
       rcases j2 ga hf with h | h
       ·exact hgF1 h
       ·omega
      have hg4:h4 ga=some (.row sz es (.lent c2) par):=(r3 ga (by omega) hgF2 fun hr=>by have:=hx1c ga hr; omega).trans (hga3 ga sz es st par hga hh)
      refine ⟨.lent c2,hg4,.inr ⟨c2,rfl,by omega,by show c2<c4; omega,fun hf=>?_,?_⟩⟩
      ·rcases r2 c2 hf with h | h
       ·have:=hF2c c2 h; omega
       ·omega
      ·right
       rcases hx1 with ⟨_,rfl⟩ | ⟨g1,par1,rfl,q1,_⟩
       ·rename_i e; simp at e
       ·have:=hx1c g1 (an.2 rfl)
        subst this
        obtain ⟨p,rfl⟩:=hpar3 _ _ _ _ q1 ⟨ga,hga⟩
        obtain ⟨st',t1,t2⟩:=r5 g1 _ _ _ _ (an.2 rfl) q1
        refine ⟨_,_,st',p,t1,t2.imp id ?_⟩
        rintro ⟨j,e,k1,k2,k3,k4⟩
        exact ⟨j,e,k2,k3,k4⟩
     ·have hkF1:¬F1 k:=fun hf=>by
       rcases i2 k hf with h | h
       ·exact hkF h
       ·omega
      have hkF2:¬F2 k:=fun hf=>by
       rcases j2 k hf with h | h
       ·exact hkF1 h
       ·omega
      show h4 k=h0 k
      rw [r3 k (by omega) hkF2 (fun hr=>by have:=hx1c k hr; omega),hlow3 k hk hkx,j3 k (by omega) hkF1,hlow1 k (by omega)]
      exact i5 k hk hkF hkx
    rcases hx with ⟨rfl,rfl⟩ | ⟨ga,par,rfl,hx2',hx3,hx4⟩
    ·have hbs:=dy (sz:=15) (zs:=[.int 0,.str ⟨#[]⟩,.nil,.nil,.nil,.nil,.str ⟨#[]⟩,.nil,.int 0,.int 0,.int 0,.nil,.str ⟨#[]⟩,.nil,.nil]) (by rfl) (by decide) hXok ⟨h2,c2⟩
     have hap:=cR (sz:=15) (bytes:=272) (md:=.fork) (es:=[]) (xs:=[X.cells]) (b:=true) (s:=⟨h2,c2⟩) (by decide) (by decide) (by decide) (by simp) (fun e he=>by rw [List.mem_singleton.1 he]; exact hXok) (by simp) (.inr rfl)
     simp at hap
     have hnx:=hnext (upd h2 c2 (some (.row 15 [X.cells] .live none))) (.row c2 15 0 1) (.inr ⟨c2,none,rfl,by simp,fun hf=>by have:=hF2c c2 hf; omega,by omega⟩) (fun k hk=>an.1 hk) (fun k hk=>ad (by have:=hF2c k hk; omega)) (fun k hk _=>ad (by omega)) (fun ga _ _ _ _ hr=>absurd hr aL) (fun _ _ _ _ _ ⟨ga,hr⟩=>absurd hr aL)
     rw [hXc] at hbs hap hnx
     simp [hbox2,hXc,hbs,hap,hc2c]
     refine hnx.mono ?_
     rintro av s' hc' ⟨hc4,hfin⟩
     simp [hv,hw]
     exact hfin _
    ·obtain ⟨st',q1,q2⟩:=i3 ga _ _ _ _ (an.2 rfl) hx2'
     have hgaF1:=(hax.2 ga (an.2 rfl)).2
     have hgaF2:¬F2 ga:=fun hf=>by
      rcases j2 ga hf with h | h
      ·exact hgaF1 h
      ·omega
     have hga2:h2 ga=some (.row 15 (around.map Step.cells) st' par):=(j3 ga (by omega) hgaF1).trans ((hlow1 ga (by omega)).trans q1)
     have hbs:=dy (sz:=15) (zs:=[.int 0,.str ⟨#[]⟩,.nil,.nil,.nil,.nil,.str ⟨#[]⟩,.nil,.int 0,.int 0,.int 0,.nil,.str ⟨#[]⟩,.nil,.nil]) (by rfl) (by decide) hXok ⟨h2,c2⟩
     have hap:∃ h2':Heap,apI 15 272 .fork (.row ga 15 0 around.length) (.sl [X.cells] true) ⟨h2,c2⟩=some (.row c2 15 0 (around.length+1),⟨upd (upd h2' ga (some (.row 15 (around.map Step.cells) (.lent c2) par))) c2 (some (.row 15 (around.map Step.cells++[X.cells]) .live (some ga))),c2+1⟩)∧(∀ k,F2 k→h2' k=h2 k)∧(∀ k,k<c0→h2' k=h2 k)∧h2' c=h2 c:=by
      have hall:[X.cells].all (aC 15)=true:=by simp only [List.all_cons,hXok,List.all_nil]; rfl
      have hle:around.length+[X.cells].length≤68719476736:=by simp; omega
      rcases q2 with rfl | ⟨k,rfl,k1,k2,k3,k4⟩
      ·refine ⟨h2,?_,fun _ _=>rfl,fun _ _=>rfl,rfl⟩
       simp only [apI,St.show_,hall,dR,hga2,oY]
       simp
       omega
      ·have hkF2:¬F2 k:=fun hf=>by
        rcases j2 k hf with h | h
        ·exact k3 h
        ·omega
       have hk2:h2 k=h k:=(j3 k (by omega) k3).trans (hlow1 k k2)
       have hgone:Heap.gone h2 k=true:=by
        unfold Heap.gone
        rw [hk2]
        rcases k4 with k4 | ⟨sz,es,st,p,k4,k5⟩
        ·rw [k4]
        ·rw [k4]
         rcases k5 with rfl | ⟨j,rfl,m1,m2,m3⟩
         ·rfl
         ·have:h2 j=none:=(j3 j (by omega) m2).trans ((hlow1 j m1).trans m3)
          simp [this]
       refine ⟨upd h2 k none,?_,fun k' hk'=>ad fun e=>hkF2 (e▸hk'),fun k' hk'=>ad (by omega),ad (by omega)⟩
       simp only [apI,St.show_,hall,dR,hga2,oY,hgone]
       simp
       omega
     obtain ⟨h2',hap,hp1,hp2,hp3⟩:=hap
     have hnx:=hnext (upd (upd h2' ga (some (.row 15 (around.map Step.cells) (.lent c2) par))) c2 (some (.row 15 (around.map Step.cells++[X.cells]) .live (some ga)))) (.row c2 15 0 (around.length+1)) (.inr ⟨c2,some ga,by simp,by rw [ah]; simp,fun hf=>by have:=hF2c c2 hf; omega,by omega⟩) (fun k hk=>an.1 hk) (fun k hk=>by rw [ad (by have:=hF2c k hk; omega),ad (show k≠ga from fun e=>hgaF2 (e▸hk))]; exact hp1 k hk) (fun k hk hkx=>by rw [ad (by omega),ad (show k≠ga from fun e=>hkx (an.2 e))]; exact hp2 k hk)
      (fun ga' sz es st par' hr hh=>by
       have:=an.1 hr; subst this
       rw [hx2'] at hh; injection hh with hh; injection hh with e1 e2 e3 e4
       rw [ad (by omega),ah,e1,e2,e4]) (fun sz es st par' hh _=>by rw [ah] at hh; injection hh with hh; injection hh with e1 e2 e3 e4; exact ⟨ga,e4.symm⟩)
     have hcga:¬c=ga:=by omega
     rw [hXc] at hbs hap hnx
     simp [hbox2,hXc,hbs,hap,hc2c,hcga,hp3]
     refine hnx.mono ?_
     rintro av s' hc' ⟨hc4,hfin⟩
     simp [hv,hw]
     exact hfin _
  ·rintro av s' hc ⟨F',i1,i2,i3,i4⟩
   refine ⟨F',S.frame i1 fun k hk=>jF (S.par i1 k hk),i2,fun k hk a b=>(fp hk).trans (i3 k hk a b),fun k hk sz es st p hh=>?_,?_⟩
   ·obtain ⟨q1,q2⟩:=d8 hh
    rcases q2 with q2 | q2
    ·omega
    ·exact q2 _ _ _ _ rfl
   ·intro ga sz es st par hga hh
    obtain ⟨st',q1,q2⟩:=i4 ga sz es st par hga hh
    have hgc:ga<c0:=by
     rcases hx with ⟨_,rfl⟩ | ⟨ga',par',rfl,_,_,h4⟩
     ·exact absurd hga aL
     ·have:=an.1 hga; omega
    refine ⟨st',(fp hgc).trans q1,?_⟩
    rcases q2 with q2 | ⟨k,e,hk1,hk2,hkF,hk3⟩
    ·exact .inl q2
    ·refine .inr ⟨k,e,hk1,hk2,hkF,?_⟩
     rcases hk3 with hk3 | ⟨sz2,es2,st2,p2,hk3,_⟩
     ·show AM.dropF c0 s'.h k=none
      rw [jF (fun sz es st p h=>by rw [hk3] at h; cases h)]; exact hk3
     ·exact rn hk1 hk3
end Go.Proofs.YtocppbmmfklbmaaGreat
set_option maxRecDepth 20000
set_option maxHeartbeats 4000000
namespace Go.Proofs.YtocppbmmfklbmaaGreat
open Go.AM Go.Wb
def ec (y:Wb.Step×List Wb.Step):Bool:=decide (Step.kind y.1=3)
theorem iY:∀ (around:List Wb.Step) (x:Wb.Step),gI around x=((fc around x).filter ec).map fun y=>(y.1,y.2.filter isLoop)
 | around,.mk kind name low high conds body array subs expr=>by
  have ih:=stmts_walkL' (around++[.mk kind name low high conds body array subs expr]) body
  simp only [gI,fc,List.filter_cons,ec,Step.kind]
  split
  ·rename_i h
   subst h
   simp [ih]
  ·rename_i h
   simp [h,ih]
where
 stmts_walkL':∀ (around:List Wb.Step) (l:List Wb.Step),bv around l=((bM around l).filter ec).map fun y=>(y.1,y.2.filter isLoop)
  | around,[]=>rfl
  | around,s::ss=>by simp only [bv,bM,List.filter_append,List.map_append,iY around s,stmts_walkL' around ss]
theorem iX (around:List Wb.Step) (l:List Wb.Step):bv around l=((bM around l).filter ec).map fun y=>(y.1,y.2.filter isLoop):=iY.stmts_walkL' around l
theorem tH (X:Wb.Step) (x:AV) (hx:x.val=true) (gb:Nat) (n:Int) (hn:0≤n) (hn2:n≤1000000) (h0:Heap) (c0:Nat) (hg:h0 gb=some (.row 1 [[.int n]] .live none)) (hgc:gb<c0) :
  ACalls Pg Fn194.n [X.av,x,.ptr gb 0 0] ⟨h0,c0⟩ fun av s'=>s'.h gb=some (.row 1 [[.int (if Step.kind X=3 then n+1 else n)]] .live none)∧∀ k,k≠gb→s'.h k=h0 k:=by
 obtain ⟨kind,name,low,high,conds,body,array,subs,⟨op,n2,form,ea,es,args⟩⟩:=X
 rw [Step.av_mk]
 refine Fn194.calls .frz ?_
 unfold Fn194.ac
 have h1:¬gb=c0:=by omega
 have hw:=ae (x:=n+1) (by omega) (by omega)
 by_cases h3:kind=3
 ·simp [h3,hg,h1,hw,Step.kind]
  refine ⟨by rw [retH_at hgc,ah],retH_out fun k hk hkg=>by rw [ad hkg,ad (by omega)]⟩
 ·simp [h3,hg,h1,hw,Step.kind]
theorem pi (l:List Wb.Step) (hl:aA l≤900):aO Pg Fn162.n [row (l.map Step.cells)] (.int (fK l)):=by
 rintro ⟨h0,c0⟩
 refine Fn162.calls .frz ?_
 unfold Fn162.ac
 simp
 have hS:Sees Fn194.n [] [.ptr c0 0 0] (fun v F h=>(∀ k,F k↔k=c0)∧h c0=some (.row 1 [[.int ((v.filter ec).length:Nat)]] .live none)) 1000 (fun _=>True):=by
  refine ⟨fun {v F h h'} hI hh=>⟨hI.1,(hh c0 ((hI.1 c0).2 rfl)).trans hI.2⟩,fun {v F h} hI k hk sz es st p e=>?_,fun v F X around x h c hv _ hI hF hx har=>?_⟩
  ·have:=(hI.1 k).1 hk
   subst this
   rw [hI.2] at e; cases e
  ·have hlen:(v.filter ec).length≤v.length:=List.length_filter_le _ _
   have hxv:x.val=true:=by
    rcases hx with ⟨_,b,rfl⟩ | ⟨_,_,_,rfl,_⟩ <;> rfl
   refine ACalls.clean fun hcl=>?_
   refine (tH X x hxv c0 _ (by omega) (by omega) h c hI.2 (hF c0 ((hI.1 c0).2 rfl))).mono ?_
   rintro av ⟨h2,c2⟩ hc2 ⟨q1,q2⟩
   simp only at q1 q2 hc2
   refine ⟨F,⟨hI.1,?_⟩,fun k hk=>.inl hk,fun k hk hkF=>q2 k fun e=>hkF ((hI.1 k).2 e),fun k hk sz es st p e=>?_⟩
   ·show h2 c0=_
    rw [q1,List.filter_append]
    by_cases h3:Step.kind X=3
    ·simp [h3,ec]
    ·simp [h3,ec]
   ·have:=hF c0 ((hI.1 c0).2 rfl)
    have e':h2 k=some (.row sz es st (some p)):=e
    have hn:h k=none:=hcl k hk
    rw [q2 k (by omega),hn] at e'
    cases e'
 have hw:=pa hS (aA l) l (Nat.le_refl _) [] (fun k=>k=c0) [] (.sl [] true) (upd h0 c0 (some (.row 1 [[.int 0]] .live none))) (c0+1) (by simp; omega) (fun _ _=>trivial) ⟨fun k=>Iff.rfl,ah⟩ (fun k hk=>by omega) (.inl ⟨rfl,rfl⟩) (by simp; omega)
 refine hw.mono ?_
 rintro av ⟨h2,c2⟩ hc2 ⟨F',⟨i1,i2⟩,i3,i4,i5,i6⟩
 simp only at hc2 i2 i4
 have hlen:((bM [] l).filter ec).length=fK l:=by
  rw [←jZ [] l,iX]; simp
 rw [List.nil_append,hlen] at i2
 simp [i2]
 exact aE fun k hk=>by rw [i4 k (by omega) (by omega) aL,ad (by omega)]
end Go.Proofs.YtocppbmmfklbmaaGreat
set_option maxRecDepth 20000
set_option maxHeartbeats 4000000
namespace Go.Proofs.YtocppbmmfklbmaaGreat
open Go.AM Go.Wb
def fA (y:Wb.Step×List Wb.Step):List AV:=y.1.cells++[row ((y.2.filter isLoop).map Step.cells),row ((cI (Step.expr y.1)).map Expr.cells)]
theorem la (y:Wb.Step×List Wb.Step):aC 17 (fA y)=true:=by
 obtain ⟨⟨_,_,_,_,_,_,_,_,⟨_,_,_,_,_,_⟩⟩,_⟩:=y; rfl
def mg (gb gp:Nat) (v:List (Wb.Step×List Wb.Step)) (F:Nat→Prop) (h:Heap):Prop:=
 h gb=some (.row 1 [[.ptr gp 0 0]] .live none)∧∃ stm,h gp=some (.row 6 [[stm,.sl [] true,.sl [] true,.int 0,.sl [] true,.sl [] true]] .live none)∧RowAt h 17 stm ((v.filter ec).map fA)∧∀ k,F k↔k=gb∨k=gp∨aq stm k
theorem sV (y:Wb.Step×List Wb.Step) (hr:Step.kind y.1=3→aW (Step.expr y.1)≤4096) (hy:y.2.length≤1000) (x:AV) (gb gp:Nat) (hgg:gb≠gp) (v:List (Wb.Step×List Wb.Step)) (hv:v.length≤1000000) (F:Nat→Prop) (h0:Heap) (c0:Nat) (hI:mg gb gp v F h0) (hF:∀ k,F k→k<c0) (hx:fk h0 x y.2) :
  ACalls Pg Fn103.n [y.1.av,x,.ptr gb 0 0] ⟨h0,c0⟩ fun av s'=>∃ F',mg gb gp (v++[y]) F' s'.h∧(∀ k,F' k→F k∨(c0≤k∧k<s'.c))∧∀ k,k<c0→¬F k→s'.h k=h0 k:=by
 obtain ⟨⟨kind,name,low,high,conds,body,array,subs,⟨op,n2,form,ea,es,args⟩⟩,ar⟩:=y
 obtain ⟨i1,stm,i2,i3,i4⟩:=hI
 have hgb:=hF gb ((i4 gb).2 (.inl rfl))
 have hgp:=hF gp ((i4 gp).2 (.inr (.inl rfl)))
 have hsm:=fun k hk=>hF k ((i4 k).2 (.inr (.inr hk)))
 refine ACalls.clean fun hcl=>?_
 have hcl:∀ k,c0≤k→h0 k=none:=fun k hk=>hcl k hk
 rw [Step.av_mk]
 refine Fn103.calls .keep ?_
 unfold Fn103.ac
 have h1:¬gb=c0:=by omega
 have h2:¬gp=c0:=by omega
 by_cases h3:kind=3
 ·subst h3
  simp [i1,i2,h1,h2]
  obtain ⟨hb,hhb⟩:∃ hb,hb=upd h0 c0 (some (.row 15 [(Wb.Step.mk 3 name low high conds body array subs (.mk op n2 form ea es args)).cells] .live none)):=⟨_,rfl⟩
  rw [Step.cells_mk] at hhb
  rw [←hhb]
  have hlow:∀ k,k<c0→hb k=h0 k:=fun k hk=>by rw [hhb,ad (by omega)]
  have hbx:hb c0=_:=(congrFun hhb c0).trans ah
  have hx2:fk hb (norm x) ar:=by
   rcases hx with ⟨e1,b,rfl⟩ | ⟨ga,st,par,rfl,hga⟩
   ·exact .inl ⟨e1,_,rfl⟩
   ·refine .inr ⟨ga,st,par,rfl,(hlow ga ?_).trans hga⟩
    refine Classical.byContradiction fun hn=>?_
    have:=hcl ga (by omega)
    simp only at hga
    rw [this] at hga; cases hga
  refine ACalls.at (sW ar (by simp at hy; omega) (norm x) hb (c0+1) hx2) fun c1 hc1=>?_
  have b1:=(hlow gb hgb).trans i1
  have b2:=(hlow gp hgp).trans i2
  have hrd:=sX _ (.mk op n2 form ea es args) (Nat.le_refl _) (hr rfl)
  rw [Expr.av_mk] at hrd
  simp [b1,b2,hbx]
  refine ACalls.pure hrd fun c2 hc2=>?_
  have i3':RowAt hb 17 stm ((v.filter ec).map fA):=i3.frame fun k hk=>hlow k (hsm k hk)
  have hfl:(v.filter ec).length≤v.length:=List.length_filter_le _ _
  obtain ⟨h4,hap,hap1,hap2,hap3⟩:=i3'.push (c:=c2) (bytes:=320) (md:=.plain) (b:=true) (by decide) (by decide) (by decide) (by decide) (la (.mk 3 name low high conds body array subs (.mk op n2 form ea es args),ar)) (fun e he=>by obtain ⟨t,_,rfl⟩:=List.mem_map.1 he; exact la t) (by simp; omega) (fun k hk=>by have:=hsm k hk; omega)
  have hne:¬gp=c2:=by omega
  have hst:fA (.mk 3 name low high conds body array subs (.mk op n2 form ea es args),ar)=[.int 3,.str name,row (low.map Bound.cells),row (high.map Bound.cells),row (conds.map Form.cells),row (body.map Step.cells),.str array,row (subs.map Form.cells),.int op,.int n2,.int form.const,row (form.terms.map Term.cells),.str ea,row (es.map Form.cells),row (args.map Expr.cells),row ((ar.filter isLoop).map Step.cells),row ((cI (.mk op n2 form ea es args)).map Expr.cells)]:=by
   simp [fA,Step.cells_mk,Step.expr]
  rw [hst] at hap hap1 hap2
  have nsm:¬aq stm gp:=fun hr=>by
   rcases i3 with ⟨e,_⟩ | ⟨g,e,hg⟩
   ·rw [e] at hr; exact aL hr
   ·rw [e] at hr; have:=an.1 hr; subst this; rw [i2] at hg; cases hg
  have nsb:¬aq stm gb:=fun hr=>by
   rcases i3 with ⟨e,_⟩ | ⟨g,e,hg⟩
   ·rw [e] at hr; exact aL hr
   ·rw [e] at hr; have:=an.1 hr; subst this; rw [i1] at hg; cases hg
  have b4:=(hap3 gp (by omega) nsm).trans b2
  have b5:=(hap3 gb (by omega) nsb).trans b1
  simp [b1,b2,hbx,bsI,az,aJ,hap,b4,b5]
  refine ⟨fun k=>k=gb∨k=gp∨k=c2,⟨by rw [ad hgg]; exact b5,_,ah,?_,fun k=>by rw [an]⟩,fun k hk=>?_,fun k hk hkF=>?_⟩
  ·rw [List.filter_append]
   simp [ec,Step.kind,hst]
   refine .inr ⟨c2,by simp,?_⟩
   rw [ad (by omega)]; exact hap1
  ·rcases hk with rfl | rfl | rfl
   ·exact .inl ((i4 _).2 (.inl rfl))
   ·exact .inl ((i4 _).2 (.inr (.inl rfl)))
   ·exact .inr ⟨by omega,by simp⟩
  ·have hkF':k≠gb∧k≠gp∧¬aq stm k:=⟨fun e=>hkF ((i4 k).2 (.inl e)),fun e=>hkF ((i4 k).2 (.inr (.inl e))),fun e=>hkF ((i4 k).2 (.inr (.inr e)))⟩
   rw [ad hkF'.2.1,hap3 k (by omega) hkF'.2.2]
   exact hlow k hk
 ·simp [h3]
  refine ⟨F,⟨by rw [ad h1]; exact i1,stm,by rw [ad h2]; exact i2,?_,i4⟩,fun k hk=>.inl hk,fun k hk _=>by rw [ad (by omega)]⟩
  rw [List.filter_append]
  simp [ec,Step.kind,h3]
  exact i3.frame fun k hk=>ad (by have:=hsm k hk; omega)
end Go.Proofs.YtocppbmmfklbmaaGreat
set_option maxRecDepth 20000
set_option maxHeartbeats 4000000
namespace Go.Proofs.YtocppbmmfklbmaaGreat
open Go.AM Go.Wb
@[simp] theorem _root_.Go.AM.finW_fz_reP {P:Program} {d:Option Nat} {q:Nat×Option (Nat×Bool)×I} {re:List (Nat×Option (Nat×Bool)×I)} {r:List AO} {K:Slots→St→Prop} {sl:Slots} {v:AV} {s:St} :
  aU P d .fz (q::re) r K sl v s=@di (fzI v s) ⟨fun v' s'=>(∀ x∈q::re,eS x sl s')∧aM P r K (put sl d v') s'⟩:=Eq.trans rfl rfl
structure RR where
 names:AV
 now:AV
 which:AV
 vals:AV
def RR.own (r:RR) (gr go k:Nat):Prop:=k=gr∨k=go∨aq r.names k∨aq r.now k∨aq r.which k∨aq r.vals k
structure RI (h:Heap) (c gr go:Nat) (stm:AV) (e:Env) (r:RR) (s:RS):Prop where
 now:NowAt h c gr e go 0 r.names r.now
 obj:h go=some (.row 6 [[stm,r.which,r.vals,.int s.rounds,.sl [] true,.sl [] true]] .live none)
 which:RowAt h 1 r.which (ak (s.l.map fun i=>(i.num:Int)))
 vals:RowAt h 1 r.vals (s.l.map fun i=>[row (ak (i.env.map (·.2)))])
 lt:∀ k,r.own gr go k→k<c
 d1:∀ k,aq r.names k→k≠gr∧k≠go∧¬aq r.now k∧¬aq r.which k∧¬aq r.vals k
 d2:∀ k,aq r.now k→k≠gr∧k≠go∧¬aq r.which k∧¬aq r.vals k
 d3:∀ k,aq r.which k→k≠gr∧k≠go∧¬aq r.vals k
 d4:∀ k,aq r.vals k→k≠gr∧k≠go
 gg:gr≠go
 len:s.l.length≤50000
 rounds:0≤s.rounds∧s.rounds≤200000
theorem RI.frame {h h':Heap} {c c' gr go:Nat} {stm:AV} {e:Env} {r:RR} {s:RS} (x:RI h c gr go stm e r s) (hc:c≤c') (hh:∀ k,r.own gr go k→h' k=h k):RI h' c' gr go stm e r s:=by
 have hgr:r.own gr go gr:=.inl rfl
 have hgo:r.own gr go go:=.inr (.inl rfl)
 have hn:∀ k,aq r.names k→r.own gr go k:=fun k hk=>.inr (.inr (.inl hk))
 have hw:∀ k,aq r.now k→r.own gr go k:=fun k hk=>.inr (.inr (.inr (.inl hk)))
 refine ⟨⟨(hh gr hgr).trans x.now.at_,x.now.hnames.frame fun k hk=>hh k (hn k hk),x.now.hnow.frame fun k hk=>hh k (hw k hk),by have:=x.now.gr; omega,fun k hk=>by have:=x.lt k (hn k hk); omega,fun k hk=>by have:=x.lt k (hw k hk); omega⟩,(hh go hgo).trans x.obj,x.which.frame fun k hk=>hh k (.inr (.inr (.inr (.inr (.inl hk))))),x.vals.frame fun k hk=>hh k (.inr (.inr (.inr (.inr (.inr hk))))),fun k hk=>by have:=x.lt k hk; omega,x.d1,x.d2,x.d3,x.d4,x.gg,x.len,x.rounds⟩
theorem RI.fr {h h':Heap} {c c' gr go:Nat} {stm:AV} {e:Env} {r:RR} {s:RS} (x:RI h c gr go stm e r s) (hF:Fr c h h' c'):RI h' c' gr go stm e r s:=x.frame hF.c fun k hk=>hF.h k (x.lt k hk)
structure RFp (c0:Nat) (a b:Nat→Prop) (h0 h:Heap):Prop where
 same:∀ k,k<c0→¬a k→h k=h0 k
 rows:∀ k,b k→a k∨c0≤k
theorem RFp.trans {c0 c1:Nat} {a b d:Nat→Prop} {h0 h1 h2:Heap} (x:RFp c0 a b h0 h1) (y:RFp c1 b d h1 h2) (hc:c0≤c1):RFp c0 a d h0 h2:=
 ⟨fun k hk hka=>by
  rw [y.same k (by omega) fun hb=>(x.rows k hb).elim hka fun h=>by omega]; exact x.same k hk hka,
  fun k hk=>(y.rows k hk).elim (x.rows k) fun h=>.inr (by omega)⟩
theorem RFp.refl {c0:Nat} {a:Nat→Prop} {h:Heap}:RFp c0 a a h h:=⟨fun _ _ _=>rfl,fun _ h=>.inl h⟩
theorem RFp.ext {c0 c1:Nat} {a b:Nat→Prop} {h0 h1 h2:Heap} (x:RFp c0 a b h0 h1) (hh:∀ k,k<c1→h2 k=h1 k) (hc:c0≤c1):RFp c0 a b h0 h2:=
 ⟨fun k hk hka=>by rw [hh k (by omega)]; exact x.same k hk hka,x.rows⟩
theorem _root_.Go.AM.RowPre.show_ {h:Heap} {c sz:Nat} {x:AV} {es:List (List AV)} (r:RowPre h sz x es) (hx:∀ k,aq x k→k<c):(St.mk h c).show_ x=some es∧dR x sz=true:=by
 rcases r with ⟨rfl,rfl⟩ | ⟨g,full,rfl,hg⟩
 ·exact ⟨rfl,rfl⟩
 ·simp [St.show_,hg,dR]
theorem lF (L:List Int):(ak L).all (aC 1)=true:=List.all_eq_true.2 fun e he=>by obtain ⟨t,_,rfl⟩:=List.mem_map.1 he; rfl
theorem tP {h:Heap} {c:Nat} {x:AV} {L:List Int} (r:RowPre h 1 x (ak L)) (hx:∀ k,aq x k→k<c) (hl:L.length≤1000000) {md:Md}:apI 1 8 md (.sl [] true) x ⟨h,c⟩=some (.row c 1 0 L.length,⟨upd h c (some (.row 1 (ak L) .live none)),c+1⟩):=by
 obtain ⟨h1,h2⟩:=r.show_ hx
 have h3:(ak L).length≤68719476736:=by simp [ak]; omega
 simp only [apI,h1,lF,h2,h3]
 simp [ak,newRow]
 omega
theorem tA (num:Nat) (hn:(num:Int)≤1000000) (X:Wb.Step) (way:List Int) (e:Env) (hel:e.length≤100000) (gr go:Nat) (stm:AV) (r:RR) (s:RS) (h0:Heap) (c0:Nat) (hr:RI h0 c0 gr go stm e r s) :
  ACalls Pg Fn165.n [.ptr gr 0 0,.int num] ⟨h0,c0⟩ fun av s'=>if s.l.length=50000 then av=.int 12∧s'.h=h0 else av=.int 0∧∃ r':RR,RI s'.h s'.c gr go stm e r' ⟨s.rounds,s.l++[⟨num,X,e,way⟩]⟩∧RFp c0 (r.own gr go) (r'.own gr go) h0 s'.h:=by
 refine Fn165.calls .keep ?_
 unfold Fn165.ac
 have hat:=hr.now.at_
 have hgo:=hr.obj
 have hwl:=hr.which.len ⟨h0,c0⟩
 have hlen:=hr.len
 have e1:(ak (s.l.map fun i=>(i.num:Int))).length=s.l.length:=by simp [ak]
 rw [e1] at hwl
 by_cases hfull:s.l.length=50000
 ·rw [hfull] at hwl
  simp [hat,hgo,hwl,hfull]
 have hfull':¬((s.l.length:Int)=50000):=by omega
 have hnow:=hr.now.hnow
 have lgr:=hr.lt gr (.inl rfl)
 have lgo:=hr.lt go (.inr (.inl rfl))
 have lw:∀ k,aq r.which k→k<c0:=fun k hk=>hr.lt k (.inr (.inr (.inr (.inr (.inl hk)))))
 have lv:∀ k,aq r.vals k→k<c0:=fun k hk=>hr.lt k (.inr (.inr (.inr (.inr (.inr hk)))))
 obtain ⟨h1,p1,p2,p3,p4⟩:=hr.which.push (c:=c0) (bytes:=8) (md:=.plain) (b:=true) (e:=[.int num]) (by decide) (by decide) (by decide) (by decide) rfl (fun e he=>List.all_eq_true.1 (lF _) e he) (by rw [e1]; omega) lw
 rw [e1] at p1 p3
 have hgo1:=(p4 go (by omega) (fun h=>(hr.d3 go h).2.1 rfl)).trans hgo
 have hgr1:=(p4 gr (by omega) (fun h=>(hr.d3 gr h).1 rfl)).trans hat
 obtain ⟨h2,hh2⟩:∃ h2,h2=upd h1 go (some (.row 6 [[stm,.row c0 1 0 (s.l.length+1),r.vals,.int s.rounds,.sl [] true,.sl [] true]] .live none)):=⟨_,rfl⟩
 have hgr2:h2 gr=_:=(congrFun hh2 gr).trans ((ad hr.gg).trans hgr1)
 have hgo2:h2 go=_:=(congrFun hh2 go).trans ah
 have hk2':∀ k,k≠c0→k≠go→¬aq r.which k→h2 k=h0 k:=fun k a b d=>by rw [hh2,ad b]; exact p4 k a d
 have hnow2:RowPre h2 1 r.now (ak (e.map (·.2))):=hnow.frame fun k hk=>hk2' k (by have:=hr.now.wb k hk; omega) (hr.d2 k hk).2.1 (hr.d2 k hk).2.2.1
 have hcp:=tP (md:=.fz) (c:=c0+1) hnow2 (fun k hk=>by have:=hr.now.wb k hk; omega) (by simp; omega)
 simp [hat,hgo,hwl,hfull,hfull',bsI,az,p1,hgo1,hgr1,hr.gg,←hh2]
 have e2:(s.l.map fun i=>[row (ak (i.env.map (·.2)))]).length=s.l.length:=by simp
 have e3:(ak (e.map (·.2))).length=(e.map (·.2)).length:=by simp [ak]
 obtain ⟨ha,hha⟩:∃ ha,ha=upd h2 (c0+1) (some (.row 1 (ak (e.map (·.2))) .live none)):=⟨_,rfl⟩
 rw [←hha] at hcp
 have hfz:=cP (s:=⟨ha,c0+1+1⟩) (z:=1) ((congrFun hha _).trans ah) e3
 obtain ⟨h3,hh3⟩:∃ h3,h3=upd ha (c0+1) (some (.row 1 (ak (e.map (·.2))) .frz none)):=⟨_,rfl⟩
 simp only [List.length_map] at hfz
 rw [←hh3] at hfz
 have hgr3:h3 gr=_:=(congrFun hh3 gr).trans ((ad (by omega)).trans ((congrFun hha _).trans ((ad (by omega)).trans hgr2)))
 have hgo3:h3 go=_:=(congrFun hh3 go).trans ((ad (by omega)).trans ((congrFun hha _).trans ((ad (by omega)).trans hgo2)))
 have hvals3:RowAt h3 1 r.vals (s.l.map fun i=>[row (ak (i.env.map (·.2)))]):=hr.vals.frame fun k hk=>by
  have:=lv k hk
  rw [hh3,ad (by omega),hha,ad (by omega)]
  exact hk2' k (by omega) (hr.d4 k hk).2 fun h=>(hr.d3 k h).2.2 hk
 obtain ⟨h4,v1,v2,v3,v4⟩:=hvals3.push (c:=c0+1+1) (bytes:=24) (md:=.plain) (b:=true) (e:=[row (ak (e.map (·.2)))]) (by decide) (by decide) (by decide) (by decide) rfl (fun e he=>by obtain ⟨t,_,rfl⟩:=List.mem_map.1 he; rfl) (by rw [e2]; omega) (fun k hk=>by have:=lv k hk; omega)
 rw [e2] at v1 v3
 have hgo4:=(v4 go (by omega) (fun h=>(hr.d4 go h).2 rfl)).trans hgo3
 have hgr4:=(v4 gr (by omega) (fun h=>(hr.d4 gr h).1 rfl)).trans hgr3
 simp [hgr2,hgo2,bsI,az,hcp,hfz,-dz,hgr3,hgo3,v1,hgo4,hgr4]
 obtain ⟨h5,hh5⟩:∃ h5,h5=upd h4 go (some (.row 6 [[stm,.row c0 1 0 (s.l.length+1),.row (c0+1+1) 1 0 (s.l.length+1),.int s.rounds,.sl [] true,.sl [] true]] .live none)):=⟨_,rfl⟩
 rw [←hh5]
 have hlow:∀ k,k<c0→k≠go→¬aq r.which k→¬aq r.vals k→h5 k=h0 k:=fun k hk n1 n2 n3=>by
  rw [hh5,ad n1,v4 k (by omega) n3,hh3,ad (by omega),hha,ad (by omega),hk2' k (by omega) n1 n2]
 have ln:=hr.now.nb
 have lx:=hr.now.wb
 have nv0:¬aq r.vals c0:=fun h=>by have:=lv _ h; omega
 have hc05:h5 c0=some (.row 1 (ak (s.l.map fun i=>(i.num:Int))++[[.int num]]) .live none):=by
  rw [hh5,ad (by omega),v4 c0 (by omega) nv0,hh3,ad (by omega),hha,ad (by omega),hh2,ad (by omega),p2]
 have hc25:h5 (c0+1+1)=_:=(congrFun hh5 _).trans ((ad (by omega)).trans v2)
 refine ⟨⟨r.names,r.now,.row c0 1 0 (s.l.length+1),.row (c0+1+1) 1 0 (s.l.length+1)⟩,⟨⟨?_,?_,?_,?_,?_,?_⟩,?_,?_,?_,?_,?_,?_,?_,?_,hr.gg,?_,hr.rounds⟩,?_⟩
 ·exact (congrFun hh5 gr).trans ((ad hr.gg).trans hgr4)
 ·exact hr.now.hnames.frame fun k hk=>hlow k (ln k hk) (hr.d1 k hk).2.1 (hr.d1 k hk).2.2.2.1 (hr.d1 k hk).2.2.2.2
 ·exact hr.now.hnow.frame fun k hk=>hlow k (lx k hk) (hr.d2 k hk).2.1 (hr.d2 k hk).2.2.1 (hr.d2 k hk).2.2.2
 ·omega
 ·intro k hk; have:=ln k hk; omega
 ·intro k hk; have:=lx k hk; omega
 ·exact (congrFun hh5 go).trans ah
 ·exact .inr ⟨c0,by simp [ak],by rw [hc05]; simp [ak]⟩
 ·exact .inr ⟨c0+1+1,by simp,by rw [hc25]; simp⟩
 ·rintro k (h | h | h | h | h | h)
  ·omega
  ·omega
  ·have:=ln k h; omega
  ·have:=lx k h; omega
  ·have:=an.1 h; omega
  ·have:=an.1 h; omega
 ·intro k hk
  have:=ln k hk
  have d:=hr.d1 k hk
  exact ⟨d.1,d.2.1,d.2.2.1,fun h=>by have:=an.1 h; omega,fun h=>by have:=an.1 h; omega⟩
 ·intro k hk
  have:=lx k hk
  have d:=hr.d2 k hk
  exact ⟨d.1,d.2.1,fun h=>by have:=an.1 h; omega,fun h=>by have:=an.1 h; omega⟩
 ·intro k hk
  have:=an.1 hk
  exact ⟨by omega,by omega,fun h=>by have:=an.1 h; omega⟩
 ·intro k hk
  have:=an.1 hk
  exact ⟨by omega,by omega⟩
 ·simp; omega
 ·refine ⟨fun k hk hk2=>hlow k hk (fun h=>hk2 (.inr (.inl h))) (fun h=>hk2 (.inr (.inr (.inr (.inr (.inl h)))))) (fun h=>hk2 (.inr (.inr (.inr (.inr (.inr h)))))),?_⟩
  rintro k (h | h | h | h | h | h)
  ·exact .inl (.inl h)
  ·exact .inl (.inr (.inl h))
  ·exact .inl (.inr (.inr (.inl h)))
  ·exact .inl (.inr (.inr (.inr (.inl h))))
  ·have:=an.1 h; exact .inr (by omega)
  ·have:=an.1 h; exact .inr (by omega)
end Go.Proofs.YtocppbmmfklbmaaGreat
set_option maxRecDepth 20000
set_option maxHeartbeats 4000000
namespace Go.Proofs.YtocppbmmfklbmaaGreat
open Go.AM Go.Wb
def rk (gr go:Nat) (stm:AV) (e:Env) (r:RR) (o:Int×RS) (c0:Nat) (h0:Heap) (av:AV) (s':St):Prop:=
 av=.int o.1∧∃ r':RR,RFp c0 (r.own gr go) (r'.own gr go) h0 s'.h∧(o.1=0→RI s'.h s'.c gr go stm e r' o.2)
theorem RI.re {h h':Heap} {c c' gr go:Nat} {stm:AV} {e e':Env} {r:RR} {s:RS} {names now:AV} (x:RI h c gr go stm e r s) (hgr:h' gr=some (.row 4 [[.ptr go 0 0,.int 0,names,now]] .live none))
  (hN:RowPre h' 1 names (ay (e'.map (·.1)))) (hW:RowPre h' 1 now (ak (e'.map (·.2)))) (hk:∀ k,k=go∨aq r.which k∨aq r.vals k→h' k=h k) (hc:c≤c')
  (nN:∀ k,aq names k→aq r.names k∨(c≤k∧k<c')) (nW:∀ k,aq now k→aq r.now k∨(c≤k∧k<c')) (nd:∀ k,aq names k→¬aq now k):RI h' c' gr go stm e' ⟨names,now,r.which,r.vals⟩ s:=by
 have lgr:=x.lt gr (.inl rfl)
 have lgo:=x.lt go (.inr (.inl rfl))
 have lw:∀ k,aq r.which k→k<c:=fun k hk=>x.lt k (.inr (.inr (.inr (.inr (.inl hk)))))
 have lv:∀ k,aq r.vals k→k<c:=fun k hk=>x.lt k (.inr (.inr (.inr (.inr (.inr hk)))))
 have bN:∀ k,aq names k→k<c':=fun k hk=>(nN k hk).elim (fun h=>by have:=x.now.nb k h; omega) fun h=>h.2
 have bW:∀ k,aq now k→k<c':=fun k hk=>(nW k hk).elim (fun h=>by have:=x.now.wb k h; omega) fun h=>h.2
 refine ⟨⟨hgr,hN,hW,by omega,bN,bW⟩,(hk go (.inl rfl)).trans x.obj,x.which.frame fun k h=>hk k (.inr (.inl h)),x.vals.frame fun k h=>hk k (.inr (.inr h)),?_,?_,?_,x.d3,x.d4,x.gg,x.len,x.rounds⟩
 ·rintro k (h | h | h | h | h | h)
  ·omega
  ·omega
  ·exact bN k h
  ·exact bW k h
  ·have:=lw k h; omega
  ·have:=lv k h; omega
 ·intro k hk
  rcases nN k hk with h | h
  ·have d:=x.d1 k h
   exact ⟨d.1,d.2.1,nd k hk,d.2.2.2.1,d.2.2.2.2⟩
  ·exact ⟨by omega,by omega,nd k hk,fun h=>by have:=lw k h; omega,fun h=>by have:=lv k h; omega⟩
 ·intro k hk
  rcases nW k hk with h | h
  ·have d:=x.d2 k h
   exact ⟨d.1,d.2.1,d.2.2.1,d.2.2.2⟩
  ·exact ⟨by omega,by omega,fun h=>by have:=lw k h; omega,fun h=>by have:=lv k h; omega⟩
theorem RI.setRounds {h:Heap} {c gr go:Nat} {stm:AV} {e:Env} {r:RR} {s:RS} (x:RI h c gr go stm e r s) (n:Int) (hn:0≤n∧n≤200000) :
  RI (AM.upd h go (some (.row 6 [[stm,r.which,r.vals,.int n,.sl [] true,.sl [] true]] .live none))) c gr go stm e r ⟨n,s.l⟩:=by
 have hne:∀ k,k≠go→AM.upd h go (some (.row 6 [[stm,r.which,r.vals,.int n,.sl [] true,.sl [] true]] .live none)) k=h k:=fun k hk=>ad hk
 exact ⟨⟨(hne gr x.gg).trans x.now.at_,x.now.hnames.frame fun k hk=>hne k (x.d1 k hk).2.1,x.now.hnow.frame fun k hk=>hne k (x.d2 k hk).2.1,x.now.gr,x.now.nb,x.now.wb⟩,ah,x.which.frame fun k hk=>hne k (x.d3 k hk).2.1,x.vals.frame fun k hk=>hne k (x.d4 k hk).2,x.lt,x.d1,x.d2,x.d3,x.d4,x.gg,x.len,hn⟩
theorem RI.setLast {h:Heap} {c gr go:Nat} {stm:AV} {e:Env} {name:ByteArray} {u:Int} {r:RR} {s:RS} (x:RI h c gr go stm (e++[(name,u)]) r s) (v:Int) :
  ∃ g full,r.now=.row g 1 0 (e.length+1)∧h g=some (.row 1 (ak (e.map (·.2))++[.int u]::full) .live none)∧RI (AM.upd h g (some (.row 1 (ak (e.map (·.2))++[.int v]::full) .live none))) c gr go stm (e++[(name,v)]) r s∧r.own gr go g∧gr≠g∧go≠g:=by
 have hw:=x.now.hnow
 have e1:ak ((e++[(name,u)]).map (·.2))=ak (e.map (·.2))++[[.int u]]:=by simp [ak]
 have e2:ak ((e++[(name,v)]).map (·.2))=ak (e.map (·.2))++[[.int v]]:=by simp [ak]
 have e3:(ak (e.map (·.2))).length=e.length:=by simp [ak]
 rw [e1] at hw
 obtain ⟨g,full,h1,h2⟩:=hw.last
 rw [e3] at h1
 have hg:aq r.now g:=by rw [h1]; exact an.2 rfl
 have d:=x.d2 g hg
 have hne:∀ k,k≠g→AM.upd h g (some (.row 1 (ak (e.map (·.2))++[.int v]::full) .live none)) k=h k:=fun k hk=>ad hk
 refine ⟨g,full,h1,h2,?_,.inr (.inr (.inr (.inl hg))),Ne.symm d.1,Ne.symm d.2.1⟩
 have hn:=x.now.hnames
 rw [List.map_append] at hn
 refine x.re (c':=c) (names:=r.names) (now:=r.now) ((hne gr (Ne.symm d.1)).trans x.now.at_) ?_ ?_ ?_ (Nat.le_refl _) (fun k hk=>.inl hk) (fun k hk=>.inl hk) (fun k hk=>(x.d1 k hk).2.2.1)
 ·rw [List.map_append]
  exact hn.frame fun k hk=>hne k fun h=>(x.d1 k hk).2.2.1 (h▸hg)
 ·rw [e2]
  exact .inr ⟨g,full,by rw [h1]; simp [ak],by rw [ah]; simp⟩
 ·intro k hk
  refine hne k fun h=>?_
  subst h
  rcases hk with hk | hk | hk
  ·exact d.2.1 hk
  ·exact d.2.2.1 hk
  ·exact d.2.2.2 hk
theorem oI:∀ x:Wb.Step,cQ x≤count x
 | .mk kind name low high conds body array subs expr=>by
  have:=setsL_le' body
  simp only [cQ,count]; split <;> omega
where
 setsL_le':∀ l:List Wb.Step,fK l≤aA l
  | []=>Nat.le_refl _
  | x::xs=>by simp only [fK,aA]; have:=oI x; have:=setsL_le' xs; omega
def rM (A:List Wb.Array) (gr go:Nat) (stm:AV) (N:Nat):Prop:=∀ (l:List Wb.Step),aA l≤N→∀ (num:Nat) (e:Env) (way:List Int) (r:RR) (s:RS) (h0:Heap) (c0:Nat),
  cO A (e.map (·.1)) l→d5 e→(e.map (·.1)).Nodup→e.length+N≤900→num+aA l≤100000→RI h0 c0 gr go stm e r s →
  ACalls Pg Fn106.n [.ptr gr 0 0,row (l.map Step.cells),.int num] ⟨h0,c0⟩ (rk gr go stm e r (aP num e way 0 l s) c0 h0)
theorem tw (A:List Wb.Array) (gr go:Nat) (stm:AV) (N:Nat) (ih:rM A gr go stm N) (name:ByteArray) (low high:List Wb.Bound) (conds:List Wb.Form) (body:List Wb.Step) (hb:aA body≤N) (array:ByteArray) (subs:List Wb.Form) (expr:Wb.Expr)
  (num:Nat) (e:Env) (way:List Int) (r:RR) (s:RS) (h0:Heap) (c0:Nat) (hnm:inL name (e.map (·.1))=false) (hl0:low≠[]) (hh0:high≠[]) (hlb:∀ b∈low,ct b) (hhb:∀ b∈high,ct b) (hbd:cO A (e.map (·.1)++[name]) body)
  (he:d5 e) (hnd:(e.map (·.1)).Nodup) (hel:e.length+N+1≤900) (hnl:num+aA body≤100000) (hr:RI h0 c0 gr go stm e r s) :
  ACalls Pg Fn163.n [.ptr gr 0 0,.zp (Wb.Step.mk 1 name low high conds body array subs expr).cells 0,.int num] ⟨h0,c0⟩ (rk gr go stm e r (bE num e way (.mk 1 name low high conds body array subs expr) s) c0 h0):=by
 obtain ⟨op,n,form,ea,es,args⟩:=expr
 refine Fn163.calls .keep ?_
 unfold Fn163.ac
 have hends:=tI (.mk 1 name low high conds body array subs (.mk op n form ea es args)) low high ⟨_,_,_,_,_,_,_,rfl⟩ hlb hhb hl0 hh0 Fn196.n [.ptr gr 0 0] [] (aB e) (co he) h0 c0
  (fun x hx h c hF=>pq x hx e he hnd (by omega) gr go 0 r.names r.now h c (hr.now.fr hF))
 rw [Step.av_mk] at hends
 simp [Step.cells_mk]
 refine ACalls.at hends fun c1 hc1=>?_
 have hlo:=lT (co he) hlb
 have hhi:=kL (co he) hhb
 obtain ⟨lo,hlo'⟩:∃ lo,lo=ee (aB e) low:=⟨_,rfl⟩
 obtain ⟨hi',hhi'⟩:∃ hi',hi'=ej (aB e) high:=⟨_,rfl⟩
 obtain ⟨F,hF⟩:∃ F:Int→RS→Int×RS,F=fun v s=>aP num (e++[(name,v)]) way 0 body s:=⟨_,rfl⟩
 have hrun:bE num e way (.mk 1 name low high conds body array subs (.mk op n form ea es args)) s=ce F (hi'-lo+1).toNat lo s:=by rw [hlo',hhi',hF]; simp [bE]
 rw [←hlo'] at hlo
 rw [←hhi'] at hhi
 rw [hrun]
 have hat:=hr.now.at_
 have ln:=hr.now.nb
 have lx:=hr.now.wb
 have lgr:=hr.lt gr (.inl rfl)
 have lgo:=hr.lt go (.inr (.inl rfl))
 have lw:∀ k,aq r.which k→k<c0:=fun k hk=>hr.lt k (.inr (.inr (.inr (.inr (.inl hk)))))
 have lv:∀ k,aq r.vals k→k<c0:=fun k hk=>hr.lt k (.inr (.inr (.inr (.inr (.inr hk)))))
 have e1:(ay (e.map (·.1))).length=e.length:=by simp [ay]
 have e2:(ak (e.map (·.2))).length=e.length:=by simp [ak]
 obtain ⟨n',h2,c2,p1,p2,p3,p4,p5,p6,gn,p7⟩:=hr.now.hnames.push (c:=c1) (bytes:=16) (md:=.plain) (b:=true) (e:=[.str name]) (by decide) (by decide) (by decide) (by decide) rfl (fun e he=>by obtain ⟨t,_,rfl⟩:=List.mem_map.1 he; rfl) (by rw [e1]; omega) (fun k hk=>by have:=ln k hk; omega)
 have hgr2:=(p5 gr (by omega) (fun h=>(hr.d1 gr h).1 rfl)).trans hat
 have hnow2:RowPre h2 1 r.now (ak (e.map (·.2))):=hr.now.hnow.frame fun k hk=>p5 k (by have:=lx k hk; omega) fun h=>(hr.d1 k h).2.2.1 hk
 obtain ⟨w',h3,c3,q1,q2,q3,q4,q5,q6,gw,q7⟩:=hnow2.push (c:=c2) (bytes:=8) (md:=.plain) (b:=true) (e:=[.int 0]) (by decide) (by decide) (by decide) (by decide) rfl (fun e he=>List.all_eq_true.1 (lF _) e he) (by rw [e2]; omega) (fun k hk=>by have:=lx k hk; omega)
 have hgr3:=(q5 gr (by omega) (fun h=>(hr.d2 gr h).1 rfl)).trans hgr2
 rw [e1] at p7
 rw [e2] at q7
 subst p7
 subst q7
 simp [←hlo',←hhi',hat,bsI,az,p1,hgr2,q1,hgr3]
 obtain ⟨h4,hh4⟩:∃ h4,h4=upd h3 gr (some (.row 4 [[.ptr go 0 0,.int 0,.row gn 1 0 (e.length+1),.row gw 1 0 (e.length+1)]] .live none)):=⟨_,rfl⟩
 rw [←hh4]
 have hgr4:h4 gr=_:=(congrFun hh4 gr).trans ah
 have hk4:∀ k,k≠gr→h4 k=h3 k:=fun k hk=>by rw [hh4,ad hk]
 have lgn:gn<c2∧gn≠gr∧gn≠go∧¬aq r.now gn∧¬aq r.which gn∧¬aq r.vals gn:=by
  rcases p4 gn (an.2 rfl) with h | ⟨h,h'⟩
  ·have d:=hr.d1 gn h
   exact ⟨by have:=ln gn h; omega,d⟩
  ·exact ⟨by omega,by omega,by omega,fun h=>by have:=lx gn h; omega,fun h=>by have:=lw gn h; omega,fun h=>by have:=lv gn h; omega⟩
 have lgw:gw<c3∧gw≠gr∧gw≠gn:=by
  rcases q4 gw (an.2 rfl) with h | ⟨h,h'⟩
  ·exact ⟨by have:=lx gw h; omega,(hr.d2 gw h).1,fun h2=>lgn.2.2.2.1 (h2▸h)⟩
  ·exact ⟨by omega,by omega,by omega⟩
 have hlow4:∀ k,k<c0→k≠gr→¬aq r.names k→¬aq r.now k→h4 k=h0 k:=fun k a b d f=>by rw [hk4 k b,q5 k (by omega) f,p5 k (by omega) d]
 have hr4:RI h4 c3 gr go stm (e++[(name,0)]) ⟨.row gn 1 0 (e.length+1),.row gw 1 0 (e.length+1),r.which,r.vals⟩ s:=by
  refine hr.re hgr4 ?_ ?_ ?_ (by omega) ?_ ?_ ?_
  ·rw [show ay ((e++[(name,(0:Int))]).map (·.1))=ay (e.map (·.1))++[[.str name]] by simp [ay]]
   refine p2.frame fun k hk=>?_
   have:=an.1 hk
   subst this
   rw [hk4 _ lgn.2.1,q5 _ (by omega) lgn.2.2.2.1]
  ·rw [show ak ((e++[(name,(0:Int))]).map (·.2))=ak (e.map (·.2))++[[.int 0]] by simp [ak]]
   refine q2.frame fun k hk=>?_
   have:=an.1 hk
   subst this
   exact hk4 _ lgw.2.1
  ·rintro k (rfl | hk | hk)
   ·exact hlow4 _ lgo (Ne.symm hr.gg) (fun h=>(hr.d1 _ h).2.1 rfl) fun h=>(hr.d2 _ h).2.1 rfl
   ·have d:=hr.d3 k hk
    exact hlow4 _ (lw k hk) d.1 (fun h=>(hr.d1 _ h).2.2.2.1 hk) fun h=>(hr.d2 _ h).2.2.1 hk
   ·have d:=hr.d4 k hk
    exact hlow4 _ (lv k hk) d.1 (fun h=>(hr.d1 _ h).2.2.2.2 hk) fun h=>(hr.d2 _ h).2.2.2 hk
  ·intro k hk
   rcases p4 k hk with h | ⟨h,h'⟩
   ·exact .inl h
   ·exact .inr ⟨by omega,by omega⟩
  ·intro k hk
   rcases q4 k hk with h | ⟨h,h'⟩
   ·exact .inl h
   ·exact .inr ⟨by omega,by omega⟩
  ·intro k hk hk2
   have:=an.1 hk
   have:=an.1 hk2
   omega
 have hf4:RFp c0 (r.own gr go) (RR.own ⟨.row gn 1 0 (e.length+1),.row gw 1 0 (e.length+1),r.which,r.vals⟩ gr go) h0 h4:=by
  refine ⟨fun k hk hk2=>hlow4 k hk (fun h=>hk2 (.inl h)) (fun h=>hk2 (.inr (.inr (.inl h)))) (fun h=>hk2 (.inr (.inr (.inr (.inl h))))),?_⟩
  rintro k (h | h | h | h | h | h)
  ·exact .inl (.inl h)
  ·exact .inl (.inr (.inl h))
  ·rcases p4 k h with h | ⟨h,_⟩
   ·exact .inl (.inr (.inr (.inl h)))
   ·exact .inr (by omega)
  ·rcases q4 k h with h | ⟨h,_⟩
   ·exact .inl (.inr (.inr (.inr (.inl h))))
   ·exact .inr (by omega)
  ·exact .inl (.inr (.inr (.inr (.inr (.inl h)))))
  ·exact .inl (.inr (.inr (.inr (.inr (.inr h)))))
 obtain ⟨Inv,hInv⟩:∃ Inv:Nat→Slots→St→Prop,Inv=fun (m:Nat) sl s'=>∃ (v:Int) (s2:RS) (r2:RR) (u:Int),sl 9=.int v∧m=(hi'-v+1).toNat ∧ -12001000000≤v∧v≤12001000001∧RI s'.h s'.c gr go stm (e++[(name,u)]) r2 s2∧RFp c0 (r.own gr go) (r2.own gr go) h0 s'.h∧c0≤s'.c∧ce F (hi'-lo+1).toNat lo s=ce F m v s2:=⟨_,rfl⟩
 refine cH Fn163.W0 (by rfl) Inv (hi'-lo+1).toNat ?_ ?_
 ·rw [hInv]
  exact ⟨lo,s,_,0,by simp,rfl,by omega,by omega,hr4,hf4,by show c0≤c3; omega,rfl⟩
 ·intro m v' s' hI
  rw [hInv] at hI
  obtain ⟨vv,s2,r2,u,z1,z2,z3,z4,z5,z6,z7,z8⟩:=hI
  obtain ⟨h5,c5⟩:=s'
  simp at z1
  simp only at z5 z6 z7
  rw [z8]
  have hat5:=z5.now.at_
  have hgo5:=z5.obj
  by_cases hle:vv≤hi'
  case neg=>
   have hm0:m=0:=by omega
   subst hm0
   have hN5:=z5.now.hnames
   have hW5:=z5.now.hnow
   rw [show ay ((e++[(name,u)]).map (·.1))=ay (e.map (·.1))++[[.str name]] by simp [ay]] at hN5
   rw [show ak ((e++[(name,u)]).map (·.2))=ak (e.map (·.2))++[[.int u]] by simp [ak]] at hW5
   obtain ⟨gN,n1,n2,n3⟩:=hN5.pop
   obtain ⟨gW,m1,m2,m3⟩:=hW5.pop
   rw [e1] at n1 n2 n3
   rw [e2] at m1 m2 m3
   rw [n1] at n2
   rw [m1] at m2
   have dN:=z5.d1 gN (by rw [n1]; exact an.2 rfl)
   have dW:=z5.d2 gW (by rw [m1]; exact an.2 rfl)
   have hwe:=ae (x:=(e.length:Int)) (by omega) (by omega)
   rw [n1,m1] at hat5
   simp [z1,hle,hat5,hwe,n2,m2]
   obtain ⟨h6,hh6⟩:∃ h6,h6=upd h5 gr (some (.row 4 [[.ptr go 0 0,.int 0,.row gN 1 0 e.length,.row gW 1 0 e.length]] .live none)):=⟨_,rfl⟩
   rw [←hh6]
   have hk6:∀ k,k≠gr→h6 k=h5 k:=fun k hk=>by rw [hh6,ad hk]
   have oN:∀ k,aq (.row gN 1 0 e.length) k→aq r2.names k:=fun k hk=>by rw [n1]; exact an.2 (an.1 hk)
   have oW:∀ k,aq (.row gW 1 0 e.length) k→aq r2.now k:=fun k hk=>by rw [m1]; exact an.2 (an.1 hk)
   refine ⟨rfl,⟨.row gN 1 0 e.length,.row gW 1 0 e.length,r2.which,r2.vals⟩,⟨fun k hk hk2=>?_,?_⟩,fun _=>?_⟩
   ·show h6 k=h0 k
    rw [hk6 k fun h=>hk2 (.inl h)]
    exact z6.same k hk hk2
   ·rintro k (h | h | h | h | h | h)
    ·exact .inl (.inl h)
    ·exact .inl (.inr (.inl h))
    ·exact z6.rows k (.inr (.inr (.inl (oN k h))))
    ·exact z6.rows k (.inr (.inr (.inr (.inl (oW k h)))))
    ·exact z6.rows k (.inr (.inr (.inr (.inr (.inl h)))))
    ·exact z6.rows k (.inr (.inr (.inr (.inr (.inr h)))))
   ·refine z5.re ((congrFun hh6 gr).trans ah) (n3.frame fun k hk=>hk6 k (by have:=an.1 hk; subst this; exact dN.1)) (m3.frame fun k hk=>hk6 k (by have:=an.1 hk; subst this; exact dW.1)) ?_ (Nat.le_refl _) (fun k hk=>.inl (oN k hk)) (fun k hk=>.inl (oW k hk)) fun k hk hk2=>(z5.d1 k (oN k hk)).2.2.1 (oW k hk2)
    rintro k (rfl | hk | hk)
    ·exact hk6 _ (Ne.symm z5.gg)
    ·exact hk6 _ (z5.d3 k hk).1
    ·exact hk6 _ (z5.d4 k hk).1
  obtain ⟨m',rfl⟩:∃ m',m=m'+1:=⟨m-1,by omega⟩
  have hrd:=z5.rounds
  simp [z1,hle]
  refine ACalls.pure (eF _ _ _) fun c6 hc6=>?_
  by_cases hin:-1000000≤vv∧vv≤1000000
  case neg=>
   simp [hin]
   have hF1:ce F (m'+1) vv s2=(1,s2):=by simp only [ce]; rw [if_pos hin]
   rw [hF1]
   exact ⟨rfl,r2,z6,fun h=>by cases h⟩
  have hw1:=ae (x:=s2.rounds+1) (by omega) (by omega)
  simp [hin,hat5,hgo5,hw1]
  obtain ⟨h6,hh6⟩:∃ h6,h6=upd h5 go (some (.row 6 [[stm,r2.which,r2.vals,.int (s2.rounds+1),.sl [] true,.sl [] true]] .live none)):=⟨_,rfl⟩
  have hf6:RFp c0 (r.own gr go) (r2.own gr go) h0 h6:=⟨fun k hk hk2=>by
   have:k≠go:=fun h=>hk2 (.inr (.inl h))
   rw [hh6,ad this]; exact z6.same k hk hk2,z6.rows⟩
  have hgr6:h6 gr=_:=(congrFun hh6 gr).trans ((ad z5.gg).trans hat5)
  have hgo6:h6 go=_:=(congrFun hh6 go).trans ah
  have hgg:=z5.gg
  simp [←hh6,hgr6,hgo6]
  by_cases hr2:200000<s2.rounds+1
  ·simp [hr2]
   have hF1:ce F (m'+1) vv s2=(12,⟨s2.rounds+1,s2.l⟩):=by simp only [ce]; rw [if_neg (not_not_intro hin),if_pos hr2]
   rw [hF1]
   exact ⟨rfl,r2,hf6,fun h=>by cases h⟩
  have hr6:=z5.setRounds (s2.rounds+1) ⟨by omega,by omega⟩
  rw [←hh6] at hr6
  obtain ⟨g,full,l1,l2,l3,l4,l5,l6⟩:=hr6.setLast vv
  have hwe:=ae (x:=(e.length:Int)) (by omega) (by omega)
  rw [l1] at hgr6
  have hlt:(e.length:Int)<(e.length:Int)+1:=by omega
  have hge:(ak (e.map (·.2))++[AV.int u]::full)[e.length]?=some [.int u]:=by
   rw [List.getElem?_append_right (by omega),e2,Nat.sub_self]; rfl
  have hset:(ak (e.map (·.2))++[AV.int u]::full).set e.length [.int vv]=ak (e.map (·.2))++[.int vv]::full:=by
   have:=vF (es:=ak (e.map (·.2))) (full:=full) (b:=[AV.int u]) (x:=[AV.int vv])
   rwa [e2] at this
  have hget:(ak (e.map (·.2))++[AV.int u]::full)[(ak (e.map (·.2))).length]?=some [.int u]:=by rw [e2]; exact hge
  obtain ⟨h7,hh7⟩:∃ h7,h7=upd h6 g (some (.row 1 (ak (e.map (·.2))++[.int vv]::full) .live none)):=⟨_,rfl⟩
  rw [←hh7] at l3
  have heok:d5 (e++[(name,vv)]):=fun p hp=>by
   rcases List.mem_append.1 hp with hp | hp
   ·exact he p hp
   ·simp at hp; subst hp; exact hin
  have hndp:((e++[(name,vv)]).map (·.1)).Nodup:=by
   rw [List.map_append,List.nodup_append]
   refine ⟨hnd,by simp,fun a ha b hb2=>?_⟩
   simp at hb2
   subst hb2
   exact fun h=>qX hnm (h▸ha)
  have hstep:=ih body hb num (e++[(name,vv)]) way r2 ⟨s2.rounds+1,s2.l⟩ h7 c6 (by rw [List.map_append]; exact hbd) heok hndp (by simp; omega) (by omega) (l3.frame hc6 fun _ _=>rfl)
  simp [z1,hr2,hgr6,hwe,hlt,l2,hge,hset,←hh7]
  refine hstep.mono ?_
  rintro av ⟨h8,c8⟩ hc8 ⟨rfl,r8,j1,j2⟩
  simp only at hc8 j1 j2
  have hFv:F vv ⟨s2.rounds+1,s2.l⟩=aP num (e++[(name,vv)]) way 0 body ⟨s2.rounds+1,s2.l⟩:=by rw [hF]
  rw [←hFv] at j2 ⊢
  have hf7:RFp c0 (r.own gr go) (r2.own gr go) h0 h7:=⟨fun k hk hk2=>by
   have:k≠g:=fun h=>(hf6.rows g l4).elim (fun h2=>hk2 (h▸h2)) fun h2=>by omega
   rw [hh7,ad this]; exact hf6.same k hk hk2,hf6.rows⟩
  have hf8:RFp c0 (r.own gr go) (r8.own gr go) h0 h8:=hf7.trans j1 (by omega)
  by_cases hz:(F vv ⟨s2.rounds+1,s2.l⟩).1=0
  ·have hwv:=ae (x:=vv+1) (by omega) (by omega)
   simp [hz,z1,hwv]
   refine ⟨m',by omega,?_⟩
   rw [hInv]
   refine ⟨vv+1,(F vv ⟨s2.rounds+1,s2.l⟩).2,r8,vv,by simp,by omega,by omega,by omega,j2 hz,hf8,by show c0≤c8; omega,?_⟩
   rw [z8]; simp only [ce]; rw [if_neg (not_not_intro hin),if_neg hr2,if_pos hz]
  ·simp [hz]
   have hF1:ce F (m'+1) vv s2=F vv ⟨s2.rounds+1,s2.l⟩:=by simp only [ce]; rw [if_neg (not_not_intro hin),if_neg hr2,if_neg hz]
   rw [hF1]
   exact ⟨rfl,r8,hf8,fun h=>absurd h hz⟩
theorem sY (A:List Wb.Array) (gr go:Nat) (stm:AV):∀ (N:Nat),rM A gr go stm N:=by
 intro N
 induction N with
 | zero=>
  intro l hl
  have:l=[]:=by
   cases l with
   | nil=>rfl
   | cons x xs=>obtain ⟨_,_,_,_,_,body,_,_,_⟩:=x; simp [aA,count] at hl
  subst this
  intro num e way r s h0 c0 hok he hnd hel hnl hr
  refine Fn106.calls .keep ?_
  unfold Fn106.ac
  simp
  refine bq 13 Fn106.W0 ([]:List Wb.Step) (fun (i:Nat) r sl s'=>s'=⟨h0,c0⟩) (by rfl) (by rfl) ?_ ?_ ?_
  ·simp
  ·intro v s' hv hI
   simp at hv
   subst hI
   simp [hv,aP]
   exact ⟨rfl,r,RFp.refl,fun _=>hr⟩
  ·intro i x xs v s' hi; simp at hi
 | succ N ih=>
  intro l hl num e way r s h0 c0 hok he hnd hel hnl hr
  have hlc:l.length≤1000000:=by
   have:l.length≤aA l:=by
    clear hl hok hnl
    induction l with
    | nil=>simp
    | cons x xs ih=>obtain ⟨_,_,_,_,_,body,_,_,_⟩:=x; simp [aA,count]; omega
   omega
  refine Fn106.calls .keep ?_
  unfold Fn106.ac
  simp
  obtain ⟨Inv,hInv⟩:∃ Inv:Nat→List Wb.Step→Slots→St→Prop,Inv=fun i rs sl s'=>∃ (s1:RS) (r1:RR) (num1:Nat),sl 2=.int num1∧num1+aA rs≤num+aA l∧RI s'.h s'.c gr go stm e r1 s1∧RFp c0 (r.own gr go) (r1.own gr go) h0 s'.h∧c0≤s'.c∧aP num e way 0 l s=aP num1 e way i rs s1:=⟨_,rfl⟩
  refine bq 13 Fn106.W0 l Inv (by rfl) (by rfl) ?_ ?_ ?_
  ·rw [hInv]
   exact ⟨by simp,s,r,num,by simp,Nat.le_refl _,hr,RFp.refl,Nat.le_refl _,rfl⟩
  ·intro v s' hv hI
   rw [hInv] at hI
   obtain ⟨s1,r1,num1,i0,i00,i1,i2,i3,i6⟩:=hI
   have hrr:aP num e way 0 l s=(0,s1):=by rw [i6]; rfl
   simp [hv,hrr]
   exact ⟨rfl,r1,i2,fun _=>i1⟩
  ·intro i x xs v s' hi hx hl2 hv hI
   rw [hInv] at hI
   obtain ⟨s1,r1,num1,i0,i00,i1,i2,i3,i6⟩:=hI
   obtain ⟨h,c⟩:=s'
   simp only at i1 i2 i3
   simp at i0
   have hwi:=ae (x:=(i:Int)+1) (by omega) (by omega)
   have hxok:=iS hok x (ba hl2)
   have hcut:=d7 hl2
   obtain ⟨X,hX⟩:∃ X,X=x:=⟨_,rfl⟩
   have hsc:cQ X≤count X:=oI X
   have hcx:aA (x::xs)=count X+aA xs:=by rw [hX]; rfl
   obtain ⟨kind,name,low,high,conds,body,array,subs,⟨op,n,form,ea,es,args⟩⟩:=x
   have hbody:aA body≤N:=by simp [count] at hcut; omega
   have hbx:aA body+1≤count X:=by rw [hX]; simp [count]; omega
   have hws:=ae (x:=(num1:Int)+cQ X) (by omega) (by omega)
   have hcont:∀ h5 c5 (r5:RR) s5,c≤c5→RI h5 c5 gr go stm e r5 s5→RFp c (r1.own gr go) (r5.own gr go) h h5→bE num1 e (way++[(i:Int)]) X s1=(0,s5)→∀ sl',sl' 2=.int ((num1:Int)+cQ X)→Inv (i+1) xs sl' ⟨h5,c5⟩:=by
    intro h5 c5 r5 s5 hc5 hr5 hf5 hrun sl' hsl
    rw [hInv]
    refine ⟨s5,r5,num1+cQ X,by rw [hsl]; push_cast; rfl,by omega,hr5,i2.trans hf5 i3,by show c0≤c5; omega,?_⟩
    rw [i6,hX]; rw [hX] at hrun; simp only [aP,hrun,if_true]
   have hfail:∀ h5 c5 (r5:RR) f s5,f≠0→RFp c (r1.own gr go) (r5.own gr go) h h5→bE num1 e (way++[(i:Int)]) X s1=(f,s5)→rk gr go stm e r (aP num e way 0 l s) c0 h0 (.int f) ⟨h5,c5⟩:=by
    intro h5 c5 r5 f s5 hf0 hf5 hrun
    have hrr:aP num e way 0 l s=(f,s5):=by rw [i6]; rw [hX] at hrun; simp [aP,hrun,hf0]
    rw [hrr]
    exact ⟨rfl,r5,i2.trans hf5 i3,fun h=>absurd h hf0⟩
   have hgo:∀ {o:Int×RS} {av:AV} {s5:St},bE num1 e (way++[(i:Int)]) X s1=o→rk gr go stm e r1 o c h av s5→c≤s5.c→True:=fun _ _ _=>trivial
   simp [hv,hi,hx,Step.cells_mk]
   by_cases k1:kind=1
   ·subst k1
    have hpc:=pi body (by omega)
    have hok1:inL name (e.map (·.1))=false∧low≠[]∧high≠[]∧(∀ b∈low,ct b)∧(∀ b∈high,ct b)∧cO A (e.map (·.1)++[name]) body:=by
     simp only [dU] at hxok
     rcases hxok with hx | hx | hx
     ·exact hx.2
     ·exact absurd hx.1 (by decide)
     ·exact absurd hx.1 (by decide)
    obtain ⟨hnm,hl0,hh0,hlb,hhb,hbd⟩:=hok1
    have hsX:cQ X=fK body:=by rw [hX]; simp [cQ]
    rw [hsX] at hcont hws
    simp
    refine ACalls.pure hpc fun c2 hc2=>?_
    have hlp:=tw A gr go stm N ih name low high conds body hbody array subs (.mk op n form ea es args) num1 e (way++[(i:Int)]) r1 s1 h c2 hnm hl0 hh0 hlb hhb hbd he hnd (by omega) (by omega) (i1.frame hc2 fun _ _=>rfl)
    rw [Step.cells_mk,←hX] at hlp
    simp [i0]
    refine hlp.mono ?_
    rintro av ⟨h5,c5⟩ hc5 ⟨rfl,r5,j1,j2⟩
    have j1':RFp c (r1.own gr go) (r5.own gr go) h h5:=⟨fun k hk a=>j1.same k (by omega) a,fun k hk=>(j1.rows k hk).imp id fun h=>by omega⟩
    simp only at hc5 j1 j2
    by_cases hz:(bE num1 e (way++[(i:Int)]) X s1).1=0
    ·simp [hz,hv,hwi,hws,i0]
     exact hcont h5 c5 r5 _ (by omega) (j2 hz) j1' (Prod.ext hz rfl) _ (by simp)
    ·simp [hz]
     exact hfail h5 c5 r5 _ _ hz j1' rfl
   by_cases k2:kind=2
   ·subst k2
    have hpc:=pi body (by omega)
    have hok2:(∀ f∈conds,OkForm f)∧cO A (e.map (·.1)) body:=by
     simp only [dU] at hxok
     rcases hxok with hx | hx | hx
     ·exact absurd hx.1 (by decide)
     ·exact hx.2
     ·exact absurd hx.1 (by decide)
    have hrun:bE num1 e (way++[(i:Int)]) X s1=if conds.all (fun f=>decide (0≤aG (aB e) f))=true then aP num1 e (way++[(i:Int)]) 0 body s1 else (0,s1):=by rw [hX]; simp [bE]
    have hsX:cQ X=fK body:=by rw [hX]; simp [cQ]
    rw [hsX] at hcont hws
    simp
    refine ACalls.pure hpc fun c2 hc2=>?_
    have i1':=i1.frame hc2 fun _ _=>rfl
    simp
    refine ACalls.at (tz conds hok2.1 e he hnd (by omega) gr go 0 r1.names r1.now h c2 i1'.now) fun c3 hc3=>?_
    by_cases hall:conds.all (fun f=>decide (0≤aG (aB e) f))=true
    ·rw [if_pos hall] at hrun
     simp [hall,i0]
     refine (ih body hbody num1 e (way++[(i:Int)]) r1 s1 h c3 hok2.2 he hnd (by omega) (by omega) (i1'.frame hc3 fun _ _=>rfl)).mono ?_
     rintro av ⟨h5,c5⟩ hc5 ⟨rfl,r5,j1,j2⟩
     have j1':RFp c (r1.own gr go) (r5.own gr go) h h5:=⟨fun k hk a=>j1.same k (by omega) a,fun k hk=>(j1.rows k hk).imp id fun h=>by omega⟩
     simp only at hc5 j1 j2
     rw [←hrun] at j2 ⊢
     by_cases hz:(bE num1 e (way++[(i:Int)]) X s1).1=0
     ·simp [hz,hv,hwi,hws,i0]
      exact hcont h5 c5 r5 _ (by omega) (j2 hz) j1' (Prod.ext hz rfl) _ (by simp)
     ·simp [hz]
      exact hfail h5 c5 r5 _ _ hz j1' rfl
    ·rw [if_neg hall] at hrun
     simp [hall,hv,hwi,hws,i0]
     exact hcont h c3 r1 s1 (by omega) (i1'.frame hc3 fun _ _=>rfl) RFp.refl hrun _ (by simp)
   have hok3:kind=3∧body=[]:=by
    simp only [dU] at hxok
    rcases hxok with hx | hx | hx
    ·exact absurd hx.1 k1
    ·exact absurd hx.1 k2
    ·exact ⟨hx.1,hx.2.1⟩
   obtain ⟨rfl,rfl⟩:=hok3
   have hsX:cQ X=1:=by rw [hX]; simp [cQ,fK]
   rw [hsX] at hcont
   have hws:=ae (x:=(num1:Int)+1) (by omega) (by omega)
   have hset:=tA num1 (by omega) X (way++[(i:Int)]) e (by omega) gr go stm r1 s1 h c i1
   simp [i0]
   refine hset.mono ?_
   rintro av ⟨h5,c5⟩ hc5 hq
   simp only at hc5 hq
   by_cases hfull:s1.l.length=50000
   ·rw [if_pos hfull] at hq
    obtain ⟨rfl,rfl⟩:=hq
    simp
    exact hfail h5 c5 r1 12 s1 (by decide) RFp.refl (by rw [hX]; simp [bE,hfull])
   ·rw [if_neg hfull] at hq
    obtain ⟨rfl,r5,j1,j2⟩:=hq
    simp [hv,hwi,hws,i0]
    exact hcont h5 c5 r5 _ hc5 j1 j2 (by rw [hX]; simp [bE,hfull]) _ (by simp)
end Go.Proofs.YtocppbmmfklbmaaGreat
set_option maxRecDepth 20000
set_option maxHeartbeats 4000000
namespace Go.Proofs.YtocppbmmfklbmaaGreat
open Go.AM Go.Wb
def stCells (y:Wb.Step×List Wb.Step):List AV:=y.1.cells++[row (y.2.map Step.cells),row ((cI (Step.expr y.1)).map Expr.cells)]
theorem qk (around:List Wb.Step) (l:List Wb.Step):((bM around l).filter ec).map fA=(bv around l).map stCells:=by
 rw [iX,List.map_map]; rfl
structure PlayAt (h:Heap) (c0 c go:Nat) (p:Wb.Prog) (stm which vals acc frm:AV):Prop where
 obj:h go=some (.row 6 [[stm,which,vals,.int (au p).2.rounds,acc,frm]] .live none)
 hstm:RowAt h 17 stm ((bv [] p.steps).map stCells)
 hwhich:RowAt h 1 which (ak ((au p).2.l.map fun i=>(i.num:Int)))
 hvals:RowAt h 1 vals ((au p).2.l.map fun i=>[row (ak (i.env.map (·.2)))])
 goc:c0≤go∧go<c
 sc:∀ k,aq stm k→c0≤k∧k<c∧k≠go
 wc:∀ k,aq which k→c0≤k∧k<c∧k≠go
 vc:∀ k,aq vals k→c0≤k∧k<c∧k≠go
 len:(au p).2.l.length≤50000
 rounds:0≤(au p).2.rounds∧(au p).2.rounds≤200000
 d:∀ k,(aq stm k→¬aq which k∧¬aq vals k)∧(aq which k→¬aq vals k)
theorem nD {A:List Wb.Array}:∀ (around:List Wb.Step) (x:Wb.Step) (L:List ByteArray),dU A L x→∀ y∈fc around x,Step.kind y.1=3→aW (Step.expr y.1)≤4096
 | around,.mk kind name low high conds body array subs expr,L,h=>by
  intro y hy hk
  simp only [fc,List.mem_cons] at hy
  rcases hy with rfl | hy
  ·simp only [Step.kind] at hk
   simp only [dU] at h
   rcases h with h | h | h
   ·exact absurd (h.1.symm.trans hk) (by decide)
   ·exact absurd (h.1.symm.trans hk) (by decide)
   ·exact h.2.2.2.2
  ·simp only [dU] at h
   rcases h with h | h | h
   ·exact walk_readsL _ body _ h.2.2.2.2.2.2 y hy hk
   ·exact walk_readsL _ body _ h.2.2 y hy hk
   ·rw [h.2.1] at hy; simp [bM] at hy
where
 walk_readsL:∀ (around:List Wb.Step) (l:List Wb.Step) (L:List ByteArray),cO A L l→∀ y∈bM around l,Step.kind y.1=3→aW (Step.expr y.1)≤4096
  | around,[],L,_,y,hy,_=>by simp [bM] at hy
  | around,s::ss,L,h,y,hy,hk=>by
   simp only [bM,List.mem_append] at hy
   rcases hy with hy | hy
   ·exact nD around s L h.1 y hy hk
   ·exact walk_readsL around ss L h.2 y hy hk
theorem uv (gb gp:Nat) (hgg:gb≠gp):Sees Fn103.n [] [.ptr gb 0 0] (mg gb gp) 1000 (fun X=>Step.kind X=3→aW (Step.expr X)≤4096):=by
 have hfr:∀ {v F h h'},mg gb gp v F h→(∀ k,F k→h' k=h k)→mg gb gp v F h':=by
  rintro v F h h' ⟨i1,stm,i2,i3,i4⟩ hh
  exact ⟨(hh gb ((i4 gb).2 (.inl rfl))).trans i1,stm,(hh gp ((i4 gp).2 (.inr (.inl rfl)))).trans i2,i3.frame fun k hk=>hh k ((i4 k).2 (.inr (.inr hk))),i4⟩
 have hpar:∀ {v F h},mg gb gp v F h→∀ k,F k→oV h k:=by
  rintro v F h ⟨i1,stm,i2,i3,i4⟩ k hk sz es st p e
  rcases (i4 k).1 hk with rfl | rfl | hk
  ·rw [i1] at e; cases e
  ·rw [i2] at e; cases e
  ·rcases i3 with ⟨e1,_⟩ | ⟨g,e1,hg⟩
   ·rw [e1] at hk; exact aL hk
   ·rw [e1] at hk; have:=an.1 hk; subst this; rw [hg] at e; cases e
 refine ⟨hfr,hpar,fun v F X around x h c hv hok hI hF hx har=>?_⟩
 refine ACalls.dropF c (sV (X,around) hok har x gb gp hgg v (by omega) F h c hI hF hx) ?_
 rintro av ⟨h2,c2⟩ hc2 ⟨F',j1,j2,j3⟩
 refine ⟨F',hfr j1 fun k hk=>jF (hpar j1 k hk),j2,fun k hk hkF=>(fp hk).trans (j3 k hk hkF),fun k hk sz es st p e=>?_⟩
 obtain ⟨_,q⟩:=d8 e
 rcases q with q | q
 ·omega
 ·exact q _ _ _ _ rfl
theorem nK (p:Wb.Prog) (hp:Right p) (hc:aA p.steps≤300) (h0:Heap) (c0:Nat) :
  ACalls Pg Fn63.n [p.av] ⟨h0,c0⟩ fun av s'=>Fr c0 h0 s'.h s'.c∧if (au p).1=0 then ∃ go stm which vals,av=.tup [.ptr go 0 0,.int 0]∧PlayAt s'.h c0 s'.c go p stm which vals (.sl [] true) (.sl [] true) else av=.tup [.nilp,.int (au p).1]:=by
 refine Fn63.calls .keep ?_
 unfold Fn63.ac
 simp [Prog.av,aJ]
 obtain ⟨hA,hhA⟩:∃ hA,hA=upd (upd (upd h0 c0 (some (.row 2 [[row (p.arrays.map Array.cells),row (p.steps.map Step.cells)]] .live none))) (c0+1) (some (.row 6 [[AV.nil,AV.nil,AV.nil,AV.int 0,AV.nil,AV.nil]] .live none))) (c0+1+1) (some (.row 1 [[.ptr (c0+1) 0 0]] .live none)):=⟨_,rfl⟩
 rw [←hhA]
 have a0:hA c0=some (.row 2 [[row (p.arrays.map Array.cells),row (p.steps.map Step.cells)]] .live none):=by rw [hhA,ad (by omega),ad (by omega),ah]
 have a1:hA (c0+1)=some (.row 6 [[AV.nil,AV.nil,AV.nil,AV.int 0,AV.nil,AV.nil]] .live none):=by rw [hhA,ad (by omega),ah]
 have a2:hA (c0+1+1)=some (.row 1 [[.ptr (c0+1) 0 0]] .live none):=by rw [hhA,ah]
 have alow:∀ k,k<c0→hA k=h0 k:=fun k hk=>by rw [hhA,ad (by omega),ad (by omega),ad (by omega)]
 have hst:mg (c0+1+1) (c0+1) [] (fun k=>k=c0+1+1∨k=c0+1) hA:=⟨a2,.sl [] true,a1,.inl ⟨rfl,rfl⟩,fun k=>⟨fun h=>h.elim .inl fun h=>.inr (.inl h),fun h=>by
  rcases h with h | h | h
  ·exact .inl h
  ·exact .inr h
  ·exact absurd h aL⟩⟩
 have hw:=pa (uv (c0+1+1) (c0+1) (by omega)) (aA p.steps) p.steps (Nat.le_refl _) [] (fun k=>k=c0+1+1∨k=c0+1) [] (.sl [] true) hA (c0+1+1+1) (by simp; omega) (fun y hy=>nD.walk_readsL [] p.steps [] hp.steps y hy) hst (fun k hk=>by omega) (.inl ⟨rfl,rfl⟩) (by simp; omega)
 simp [a0]
 refine hw.mono ?_
 rintro av ⟨h2,c2⟩ hc2 ⟨F',⟨j1,stm,j2,j3,j4⟩,f1,f2,_,_⟩
 rw [List.nil_append,qk] at j3
 simp only at hc2 j1 j2 j3 f1 f2
 have g0:h2 c0=_:=(f2 c0 (by omega) (by omega) aL).trans a0
 have glow:∀ k,k<c0→h2 k=h0 k:=fun k hk=>(f2 k (by omega) (by omega) aL).trans (alow k hk)
 have gst:∀ k,aq stm k→c0≤k∧k<c2∧k≠c0+1:=fun k hk=>by
  have h1:k≠c0+1:=by
   rintro rfl
   rcases j3 with ⟨e,_⟩ | ⟨g,e,hg⟩
   ·rw [e] at hk; exact aL hk
   ·rw [e] at hk; have:=an.1 hk; subst this; rw [j2] at hg; cases hg
  rcases f1 k ((j4 k).2 (.inr (.inr hk))) with h | h
  ·omega
  ·omega
 obtain ⟨h3,hh3⟩:∃ h3,h3=upd h2 c2 (some (.row 4 [[.ptr (c0+1) 0 0,.int 0,.nil,.nil]] .live none)):=⟨_,rfl⟩
 have b3:h3 c2=_:=(congrFun hh3 c2).trans ah
 have k3:∀ k,k<c2→h3 k=h2 k:=fun k hk=>by rw [hh3,ad (by omega)]
 have hri:RI h3 (c2+1) c2 (c0+1) stm [] ⟨.sl [] true,.sl [] true,.sl [] true,.sl [] true⟩ ⟨0,[]⟩:=by
  refine ⟨⟨b3,.inl ⟨rfl,rfl⟩,.inl ⟨rfl,rfl⟩,by omega,fun k hk=>absurd hk aL,fun k hk=>absurd hk aL⟩,(k3 _ (by omega)).trans j2,.inl ⟨rfl,rfl⟩,.inl ⟨rfl,rfl⟩,?_,fun k hk=>absurd hk aL,fun k hk=>absurd hk aL,fun k hk=>absurd hk aL,fun k hk=>absurd hk aL,by omega,by simp,by simp⟩
  rintro k (h | h | h | h | h | h)
  ·omega
  ·omega
  all_goals exact absurd h aL
 have hrun:=sY p.arrays c2 (c0+1) stm (aA p.steps) p.steps (Nat.le_refl _) 0 [] [] _ ⟨0,[]⟩ h3 (c2+1) hp.steps (fun q hq=>by cases hq) (by simp) (by simp; omega) (by omega) hri
 have g3:h3 c0=_:=(k3 c0 (by omega)).trans g0
 simp [j1,aJ,←hh3,g3]
 refine hrun.mono ?_
 rintro av ⟨h4,c4⟩ hc4 ⟨rfl,r',q1,q2⟩
 simp only at hc4 q1 q2
 have hown:∀ k,RR.own ⟨.sl [] true,.sl [] true,.sl [] true,.sl [] true⟩ c2 (c0+1) k→k=c2∨k=c0+1:=by
  rintro k (h | h | h | h | h | h)
  ·exact .inl h
  ·exact .inr h
  all_goals exact absurd h aL
 have k4:∀ k,k<c2→k≠c0+1→h4 k=h2 k:=fun k hk hk2=>(q1.same k (by omega) fun h=>by have:=hown k h; omega).trans (k3 k hk)
 have b4:h4 (c0+1+1)=_:=(k4 _ (by omega) (by omega)).trans j1
 have hlow:∀ k,k<c0→h4 k=h0 k:=fun k hk=>(k4 k (by omega) (by omega)).trans (glow k hk)
 have hrp:aP 0 [] [] 0 p.steps ⟨0,[]⟩=au p:=rfl
 rw [hrp] at q2 ⊢
 by_cases hz:(au p).1=0
 ·have x:=q2 hz
  have lw:∀ k,aq r'.which k→c2+1≤k∧k<c4:=fun k hk=>by
   have d:=x.d3 k hk
   have hb:=x.lt k (.inr (.inr (.inr (.inr (.inl hk)))))
   rcases q1.rows k (.inr (.inr (.inr (.inr (.inl hk))))) with h | h
   ·have:=hown k h; omega
   ·omega
  have lv:∀ k,aq r'.vals k→c2+1≤k∧k<c4:=fun k hk=>by
   have d:=x.d4 k hk
   have hb:=x.lt k (.inr (.inr (.inr (.inr (.inr hk)))))
   rcases q1.rows k (.inr (.inr (.inr (.inr (.inr hk))))) with h | h
   ·have:=hown k h; omega
   ·omega
  simp [hz,b4]
  refine ⟨⟨by show c0≤c4; omega,hlow⟩,stm,r'.which,r'.vals,x.obj,j3.frame fun k hk=>k4 k (gst k hk).2.1 (gst k hk).2.2,x.which,x.vals,⟨by omega,by omega⟩,fun k hk=>by have:=gst k hk; omega,fun k hk=>by have:=lw k hk; have:=(x.d3 k hk).2.1; omega,fun k hk=>by have:=lv k hk; have:=(x.d4 k hk).2; omega,x.len,x.rounds,fun k=>⟨fun hk=>⟨fun h=>?_,fun h=>?_⟩,fun hk=>(x.d3 k hk).2.2⟩⟩
  ·have:=gst k hk; have:=lw k h; omega
  ·have:=gst k hk; have:=lv k h; omega
 ·simp [hz]
  exact ⟨by show c0≤c4; omega,hlow⟩
end Go.Proofs.YtocppbmmfklbmaaGreat
set_option maxRecDepth 20000
set_option maxHeartbeats 4000000
namespace Go.Proofs.YtocppbmmfklbmaaGreat
open Go.AM Go.Wb
structure PlO (h:Heap) (c go:Nat) (st:List (Wb.Step×List Wb.Step)) (l:List Inst) (stm which vals:AV):Prop where
 obj:∃ a b d,h go=some (.row 6 [[stm,which,vals,a,b,d]] .live none)
 hstm:RowAt h 17 stm (st.map stCells)
 hwhich:RowAt h 1 which (ak (l.map fun i=>(i.num:Int)))
 hvals:RowAt h 1 vals (l.map fun i=>[row (ak (i.env.map (·.2)))])
 goc:go<c
 sb:∀ k,aq stm k→k<c
 wb:∀ k,aq which k→k<c
 vb:∀ k,aq vals k→k<c
theorem PlO.fr {h h':Heap} {c c' go:Nat} {st:List (Wb.Step×List Wb.Step)} {l:List Inst} {stm which vals:AV} (x:PlO h c go st l stm which vals) (hF:Fr c h h' c'):PlO h' c' go st l stm which vals:=by
 obtain ⟨⟨a,b,d,x1⟩,x2,x3,x4,x5,x6,x7,x8⟩:=x
 have:=hF.c
 exact ⟨⟨a,b,d,(hF.h go x5).trans x1⟩,x2.frame fun k hk=>hF.h k (x6 k hk),x3.frame fun k hk=>hF.h k (x7 k hk),x4.frame fun k hk=>hF.h k (x8 k hk),by omega,fun k hk=>by have:=x6 k hk; omega,fun k hk=>by have:=x7 k hk; omega,fun k hk=>by have:=x8 k hk; omega⟩
theorem _root_.Go.AM.RowAt.at {h:Heap} {sz:Nat} {x:AV} {es:List (List AV)} (r:RowAt h sz x es) {i:Nat} (hi:i<es.length):∃ g,x=.row g sz 0 es.length∧h g=some (.row sz es .live none):=by
 rcases r with ⟨_,rfl⟩ | ⟨g,rfl,hg⟩
 ·simp at hi
 ·exact ⟨g,rfl,hg⟩
theorem tE (x:ByteArray) (st:List (Wb.Step×List Wb.Step)) (l:List Inst) (stm which vals:AV) (go i b7 b3 b4:Nat) (I:Inst) (lps:List Wb.Step) (h0:Heap) (c0:Nat) (hp:PlO h0 c0 go st l stm which vals) (hi:i<l.length) (hI:l[i]=I) (hl:lps.map Step.name=I.env.map (·.1)) (hlen:lps.length≤1000000)
  (g7:h0 b7=some (.row 1 [[row (lps.map Step.cells)]] .live none)) (g3:h0 b3=some (.row 1 [[.ptr go 0 0]] .live none)) (g4:h0 b4=some (.row 1 [[.int i]] .live none)) :
  ACalls Pg Fn187.n [.str x,.ptr b7 0 0,.ptr b3 0 0,.ptr b4 0 0] ⟨h0,c0⟩ fun av s'=>av=.int (aB I.env x)∧s'.h=h0:=by
 refine Fn187.calls .frz ?_
 unfold Fn187.ac
 obtain ⟨⟨a,b,d,o1⟩,o2,o3,o4,o5,o6,o7,o8⟩:=hp
 obtain ⟨gv,v1,v2⟩:=o4.at (i:=i) (by simpa using hi)
 rw [v1] at o1
 have hel:I.env.length=lps.length:=by have:=congrArg List.length hl; simpa using this.symm
 simp [g7]
 obtain ⟨Inv,hInv⟩:∃ Inv:Nat→List Wb.Step→Slots→St→Prop,Inv=fun i r sl s'=>s'=⟨h0,c0⟩∧bF I.env x=bF (I.env.drop i) x:=⟨_,rfl⟩
 refine bq 9 Fn187.W0 lps Inv (by rfl) (by rfl) ?_ ?_ ?_
 ·rw [hInv]; exact ⟨by simp,rfl,rfl⟩
 ·intro v s' hv hI2
  rw [hInv] at hI2
  obtain ⟨rfl,hI2⟩:=hI2
  rw [List.drop_of_length_le (by omega)] at hI2
  simp [hv,aB,hI2,bF]
 ·intro j X xs v s' hj hx hl2 hv hI2
  rw [hInv] at hI2
  obtain ⟨rfl,hI2⟩:=hI2
  have hw:=ae (x:=(j:Int)+1) (by omega) (by omega)
  have hje:j<I.env.length:=by omega
  have hnm:(I.env[j]).1=Step.name X:=by
   have h1:(lps.map Step.name)[j]?=(I.env.map (·.1))[j]?:=by rw [hl]
   simp [hj,hje,hx] at h1
   exact h1.symm
  rw [List.drop_eq_getElem_cons hje] at hI2
  obtain ⟨kind,name,low,high,conds,body,array,subs,⟨op,n2,form,ea,es,args⟩⟩:=X
  simp only [Step.name] at hnm
  have hgv:(l.map fun i=>[row (ak (i.env.map (·.2)))])[i]?=some [row (ak (I.env.map (·.2)))]:=by simp [hi,hI]
  have hge:(ak (I.env.map (·.2)))[j]?=some [.int (I.env[j]).2]:=by simp [ak,hje]
  have hve:l[i].env=I.env:=by rw [hI]
  simp [hv,hj,hx,g7,Step.cells_mk]
  by_cases hxn:name=x
  ·simp only [bF] at hI2
   rw [if_pos (hxn.symm.trans hnm.symm)] at hI2
   simp [hxn,g3,g4,o1,hi,v2,hv,hve,hge,hje,aB,hI2]
  ·simp only [bF] at hI2
   rw [if_neg (fun h=>hxn (h.trans hnm).symm)] at hI2
   simp [hxn,hv,hw]
   rw [hInv]
   exact ⟨rfl,hI2⟩
theorem pg (A:List Wb.Array) (st:List (Wb.Step×List Wb.Step)) (l:List Inst) (stm which vals:AV) (go i:Nat) (I:Inst) (hI:l[i]?=some I) (hok:InstOk A st I) (hst:∀ y∈st,y.2.length≤1000000) (f:Wb.Form) (hf:OkForm f) (h0:Heap) (c0:Nat) (hp:PlO h0 c0 go st l stm which vals) :
  ACalls Pg Fn152.n [.ptr go 0 0,.int i,f.av] ⟨h0,c0⟩ fun av s'=>av=.int (aG (aB I.env) f)∧s'.h=h0:=by
 refine Fn152.calls .frz ?_
 unfold Fn152.ac
 obtain ⟨hi,hIe⟩:=List.getElem?_eq_some_iff.1 hI
 obtain ⟨lps,hat,hnm⟩:=hok.at_
 obtain ⟨hn,hne⟩:=List.getElem?_eq_some_iff.1 hat
 have hlen:=hst _ (List.mem_of_getElem? hat)
 have hF0:Fr c0 h0 (upd (upd (upd h0 c0 (some (.row 1 [[.ptr go 0 0]] .live none))) (c0+1) (some (.row 1 [[.int i]] .live none))) (c0+1+1) (some (.row 2 [[.int f.const,row (f.terms.map Term.cells)]] .live none))) (c0+1+1+1):=⟨by omega,fun k hk=>by rw [ad (by omega),ad (by omega),ad (by omega)]⟩
 obtain ⟨h3,hh3⟩:∃ h3,h3=upd (upd (upd h0 c0 (some (.row 1 [[.ptr go 0 0]] .live none))) (c0+1) (some (.row 1 [[.int i]] .live none))) (c0+1+1) (some (.row 2 [[.int f.const,row (f.terms.map Term.cells)]] .live none)):=⟨_,rfl⟩
 have b3:h3 c0=some (.row 1 [[.ptr go 0 0]] .live none):=by rw [hh3,ad (by omega),ad (by omega),ah]
 have b4:h3 (c0+1)=some (.row 1 [[.int i]] .live none):=by rw [hh3,ad (by omega),ah]
 have b5:h3 (c0+1+1)=some (.row 2 [[.int f.const,row (f.terms.map Term.cells)]] .live none):=by rw [hh3,ah]
 rw [←hh3] at hF0
 have hp3:=hp.fr hF0
 have hp3':=hp3
 obtain ⟨⟨a,b,d,o1⟩,o2,o3,o4,o5,o6,o7,o8⟩:=hp3
 obtain ⟨gs,s1,s2⟩:=o2.at (i:=I.num) (by simpa using hn)
 obtain ⟨gw,w1,w2⟩:=o3.at (i:=i) (by simpa [ak] using hi)
 have el1:(st.map stCells).length=st.length:=by simp
 have el2:(ak (l.map fun i=>(i.num:Int))).length=l.length:=by simp [ak]
 rw [s1,w1,el1,el2] at o1
 have hgw:(ak (l.map fun i=>(i.num:Int)))[i]?=some [.int I.num]:=by simp [ak,hi,hIe]
 have hgs:(st.map stCells)[I.num]?=some (stCells (I.step,lps)):=by simp [hn,hne]
 have hst15:stCells (I.step,lps)=I.step.cells++[row (lps.map Step.cells),row ((cI (Step.expr I.step)).map Expr.cells)]:=rfl
 have hc15:(stCells (I.step,lps))[15]?=some (row (lps.map Step.cells)):=by rw [hst15,List.getElem?_append_right (by rw [dI]; omega),dI]; rfl
 have hnl:(I.num:Int)<st.length:=by omega
 simp [Form.av,Form.cells,←hh3]
 have hIn:l[i].num=I.num:=by rw [hIe]
 have lgs:=o6 gs (by rw [s1]; exact an.2 rfl)
 have lgw:=o7 gw (by rw [w1]; exact an.2 rfl)
 have n0:∀ {b:Option Body},upd h3 (c0+1+1+1) b c0=some (.row 1 [[.ptr go 0 0]] .live none):=fun {b}=>by rw [ad (by omega)]; exact b3
 have n1:∀ {b:Option Body},upd h3 (c0+1+1+1) b (c0+1)=some (.row 1 [[.int i]] .live none):=fun {b}=>by rw [ad (by omega)]; exact b4
 have n2:∀ {b:Option Body},upd h3 (c0+1+1+1) b (c0+1+1)=some (.row 2 [[.int f.const,row (f.terms.map Term.cells)]] .live none):=fun {b}=>by rw [ad (by omega)]; exact b5
 have n3:∀ {b:Option Body},upd h3 (c0+1+1+1) b go=_:=fun {b}=>by rw [ad (by omega)]
 have n4:∀ {b:Option Body},upd h3 (c0+1+1+1) b gs=_:=fun {b}=>by rw [ad (by omega)]
 have n5:∀ {b:Option Body},upd h3 (c0+1+1+1) b gw=_:=fun {b}=>by rw [ad (by omega)]
 have hF4:Fr (c0+1+1+1) h3 (upd h3 (c0+1+1+1) (some (.row 1 [[row (lps.map Step.cells)]] .live none))) (c0+1+1+1+1):=(Fr.refl _ _).upd (Nat.le_refl _) (Nat.le_succ _)
 have hsay:SaysI Fn187.n [] [.ptr (c0+1+1+1) 0 0,.ptr c0 0 0,.ptr (c0+1) 0 0] (upd h3 (c0+1+1+1) (some (.row 1 [[row (lps.map Step.cells)]] .live none))) (c0+1+1+1+1) (aB I.env):=fun x h c hF=>
  tE x st l stm which vals go i _ _ _ I lps h c ((hp3'.fr hF4).fr hF) hi hIe hnm hlen ((hF.h _ (by omega)).trans ah) ((hF.h _ (by omega)).trans n0) ((hF.h _ (by omega)).trans n1)
 have hlv:=po f hf Fn187.n [] [.ptr (c0+1+1+1) 0 0,.ptr c0 0 0,.ptr (c0+1) 0 0] (aB I.env) (co hok.env) _ _ hsay
 rw [Form.av,Form.cells] at hlv
 simp [b3,b4,b5,o1,hi,w2,hgw,hIn,hn,s2,hne,hc15,n0,n1,n2,n3,n4,n5]
 refine ACalls.at hlv fun c5 hc5=>?_
 simp
 exact aE fun k hk=>by rw [ad (by omega)]; exact hF0.h k hk
theorem gq {φ:ByteArray→Int}:∀ {zs:List Int} {fs:List Wb.Form} {n:Int},(cE φ zs fs n false).2=false
 | [],_,_=>by cases ‹List Wb.Form› <;> rfl
 | _::_,[],_=>rfl
 | z::zs,f::fs,n=>by simp only [cE,Bool.false_and]; exact gq
theorem th (A:List Wb.Array) (st:List (Wb.Step×List Wb.Step)) (l:List Inst) (stm which vals:AV) (go i:Nat) (I:Inst) (hI:l[i]?=some I) (hok:InstOk A st I) (hst:∀ y∈st,y.2.length≤1000000) (a:Wb.Array) (subs:List Wb.Form) (hsubs:∀ f∈subs,OkForm f) (hlen:a.sizes.length=subs.length) (h0:Heap) (c0:Nat) (hp:PlO h0 c0 go st l stm which vals) :
  ACalls Pg Fn147.n [.ptr go 0 0,.int i,.agg a.cells,row (subs.map Form.cells)] ⟨h0,c0⟩ fun av s'=>s'.h=h0∧∃ n:Int,av=.tup [.int n,.bool (cE (aB I.env) a.sizes subs 0 true).2]∧((cE (aB I.env) a.sizes subs 0 true).2=true→n=(cE (aB I.env) a.sizes subs 0 true).1):=by
 refine ACalls.small fun hsm=>?_
 have hsl:subs.length≤68719476736:=by simp at hsm; omega
 refine Fn147.calls .frz ?_
 unfold Fn147.ac
 have hφ:=co hok.env
 simp [Array.cells]
 obtain ⟨h1,hh1⟩:∃ h1,h1=upd h0 c0 (some (.row 2 [[.str a.key,row (ak a.sizes)]] .live none)):=⟨_,rfl⟩
 rw [←hh1]
 have hb:h1 c0=_:=(congrFun hh1 c0).trans ah
 have hF1:Fr c0 h0 h1 (c0+1):=by rw [hh1]; exact (Fr.refl _ _).upd (Nat.le_refl _) (Nat.le_succ _)
 obtain ⟨Inv,hInv⟩:∃ Inv:Nat→List Wb.Form→Slots→St→Prop,Inv=fun i r sl s'=>∃ n:Int,sl 10=.int n∧cE (aB I.env) (a.sizes.drop i) r n true=cE (aB I.env) a.sizes subs 0 true:=⟨_,rfl⟩
 refine bh 16 Fn147.W0 subs Inv (by rfl) (by rfl) ?_ ?_ ?_
 ·rw [hInv]; exact ⟨by simp,0,by simp,rfl⟩
 ·intro v h c hv hF hI2
  rw [hInv] at hI2
  obtain ⟨n,h10,hs⟩:=hI2
  rw [List.drop_of_length_le (by omega)] at hs
  simp only [cE] at hs
  simp at h10
  rw [←hs]
  simp [hv,h10]
  exact (hF1.trans hF).retH
 ·intro j f fs v h c hj hx hl2 hv hF hI2
  rw [hInv] at hI2
  obtain ⟨n,h10,hs⟩:=hI2
  simp at h10
  have hw:=ae (x:=(j:Int)+1) (by omega) (by omega)
  have hjz:j<a.sizes.length:=by omega
  rw [List.drop_eq_getElem_cons hjz] at hs
  simp only [cE] at hs
  have hcc:=hF.c
  have hzj:(ak a.sizes)[j]?=some [.int a.sizes[j]]:=by simp [ak,hjz]
  obtain ⟨h2,hh2⟩:∃ h2,h2=upd h c (some (.row 2 [[.int f.const,row (f.terms.map Term.cells)]] .live none)):=⟨_,rfl⟩
  have hF2:Fr (c0+1) h1 h2 (c+1):=by rw [hh2]; exact hF.upd hcc (Nat.le_succ _)
  have hb2:h2 c0=_:=(hF2.h c0 (by omega)).trans hb
  have hf2:h2 c=_:=(congrFun hh2 c).trans ah
  have hva:=pg A st l stm which vals go i I hI hok hst f (hsubs f (ba hl2)) h2 (c+1) (hp.fr (hF1.trans hF2))
  rw [Form.av,Form.cells] at hva
  obtain ⟨u,hu⟩:∃ u,u=aG (aB I.env) f:=⟨_,rfl⟩
  obtain ⟨z,hz⟩:∃ z,z=a.sizes[j]:=⟨_,rfl⟩
  rw [←hz] at hzj
  rw [←hu,←hz] at hs
  rw [←hu] at hva
  have hend:retH c0 h0 h2=h0:=(hF1.trans hF2).retH
  simp [hv,hj,hx,Form.cells,←hh2,hf2]
  refine ACalls.at hva fun c2 hc2=>?_
  by_cases hneg:u<0
  ·have hno:¬(0≤u∧u≤z-1):=by omega
   rw [decide_eq_false hno,Bool.and_false] at hs
   have hf:(cE (aB I.env) a.sizes subs 0 true).2=false:=by rw [←hs]; exact gq
   simp [hneg,hf]
   exact hend
  by_cases hbig:z≤u
  ·have hno:¬(0≤u∧u≤z-1):=by omega
   rw [decide_eq_false hno,Bool.and_false] at hs
   have hf:(cE (aB I.env) a.sizes subs 0 true).2=false:=by rw [←hs]; exact gq
   simp [hneg,hbig,hf,hb2,hjz,hzj]
   exact hend
  ·have hyes:0≤u∧u≤z-1:=by omega
   rw [decide_eq_true hyes,Bool.and_true] at hs
   simp [hneg,hbig,hb2,hjz,hzj,h10,hv,hw]
   refine ⟨⟨by show c0+1≤c2; omega,hF2.h⟩,?_⟩
   rw [hInv]
   exact ⟨_,by simp,hs⟩
end Go.Proofs.YtocppbmmfklbmaaGreat
set_option maxRecDepth 20000
set_option maxHeartbeats 4000000
namespace Go.Proofs.YtocppbmmfklbmaaGreat
open Go.AM Go.Wb
structure RunI (h:Heap) (c go b9:Nat) (st:List (Wb.Step×List Wb.Step)) (l:List Inst) (stm which vals rnd acc frm:AV) (n:Int) (es frs:List (List AV)):Prop where
 plo:PlO h c go st l stm which vals
 obj:h go=some (.row 6 [[stm,which,vals,rnd,acc,frm]] .live none)
 hacc:RowAt h 4 acc es
 hfrm:RowAt h 1 frm frs
 cnt:h b9=some (.row 1 [[.int n]] .live none)
 bc:b9<c
 ab:∀ k,aq acc k→k<c∧k≠go∧k≠b9∧¬aq frm k
 fb:∀ k,aq frm k→k<c∧k≠go∧k≠b9
 gb:go≠b9
 nd:∀ k,aq stm k∨aq which k∨aq vals k→k≠go∧k≠b9∧¬aq acc k∧¬aq frm k
 rc:rnd.cell=true
 esok:∀ e∈es,aC 4 e=true
 frok:∀ e∈frs,aC 1 e=true
 len:(es.length:Int)≤n∧es.length≤200000∧frs.length≤100000
 nb:0≤n∧n≤1000000000
def qb (go b9:Nat) (acc frm:AV) (k:Nat):Prop:=k=go∨k=b9∨aq acc k∨aq frm k
theorem RunI.frame {h h':Heap} {c c' go b9:Nat} {st:List (Wb.Step×List Wb.Step)} {l:List Inst} {stm which vals rnd acc frm:AV} {n:Int} {es frs:List (List AV)} (x:RunI h c go b9 st l stm which vals rnd acc frm n es frs) (hF:Fr c h h' c'):RunI h' c' go b9 st l stm which vals rnd acc frm n es frs:=by
 have hc:=hF.c
 exact ⟨x.plo.fr hF,(hF.h _ x.plo.goc).trans x.obj,x.hacc.frame fun k hk=>hF.h k (x.ab k hk).1,x.hfrm.frame fun k hk=>hF.h k (x.fb k hk).1,(hF.h _ x.bc).trans x.cnt,by have:=x.bc; omega,fun k hk=>⟨by have:=(x.ab k hk).1; omega,(x.ab k hk).2⟩,fun k hk=>⟨by have:=(x.fb k hk).1; omega,(x.fb k hk).2⟩,x.gb,x.nd,x.rc,x.esok,x.frok,x.len,x.nb⟩
theorem RunI.count {h:Heap} {c go b9:Nat} {st:List (Wb.Step×List Wb.Step)} {l:List Inst} {stm which vals rnd acc frm:AV} {n:Int} {es frs:List (List AV)} (x:RunI h c go b9 st l stm which vals rnd acc frm n es frs) (hn:n<1000000000):RunI (AM.upd h b9 (some (.row 1 [[.int (n+1)]] .live none))) c go b9 st l stm which vals rnd acc frm (n+1) es frs:=by
 have hne:∀ k,k≠b9→AM.upd h b9 (some (.row 1 [[.int (n+1)]] .live none)) k=h k:=fun k hk=>ad hk
 have p:=x.plo
 obtain ⟨a,b,d,o⟩:=p.obj
 exact ⟨⟨⟨a,b,d,(hne _ x.gb).trans o⟩,p.hstm.frame fun k hk=>hne k (x.nd k (.inl hk)).2.1,p.hwhich.frame fun k hk=>hne k (x.nd k (.inr (.inl hk))).2.1,p.hvals.frame fun k hk=>hne k (x.nd k (.inr (.inr hk))).2.1,p.goc,p.sb,p.wb,p.vb⟩,(hne _ x.gb).trans x.obj,x.hacc.frame fun k hk=>hne k (x.ab k hk).2.2.1,x.hfrm.frame fun k hk=>hne k (x.fb k hk).2.2,ah,x.bc,x.ab,x.fb,x.gb,x.nd,x.rc,x.esok,x.frok,by have:=x.len; omega,by have:=x.nb; omega⟩
theorem RunI.re {h h':Heap} {c c' go b9:Nat} {st:List (Wb.Step×List Wb.Step)} {l:List Inst} {stm which vals rnd acc frm acc' frm':AV} {n:Int} {es frs es' frs':List (List AV)} (x:RunI h c go b9 st l stm which vals rnd acc frm n es frs)
  (ho:h' go=some (.row 6 [[stm,which,vals,rnd,acc',frm']] .live none)) (ha:RowAt h' 4 acc' es') (hf:RowAt h' 1 frm' frs') (hk:∀ k,k<c→k≠go→¬aq acc k→¬aq frm k→h' k=h k) (hc:c≤c')
  (nA:∀ k,aq acc' k→aq acc k∨(c≤k∧k<c')) (nF:∀ k,aq frm' k→aq frm k∨(c≤k∧k<c')) (nd:∀ k,aq acc' k→¬aq frm' k)
  (he:∀ e∈es',aC 4 e=true) (hfe:∀ e∈frs',aC 1 e=true) (hl:(es'.length:Int)≤n∧es'.length≤200000∧frs'.length≤100000):RunI h' c' go b9 st l stm which vals rnd acc' frm' n es' frs':=by
 have p:=x.plo
 have bc:=x.bc
 have hs:∀ k,aq stm k∨aq which k∨aq vals k→h' k=h k:=fun k h=>by
  have d:=x.nd k h
  have:k<c:=h.elim (p.sb k) fun h=>h.elim (p.wb k) (p.vb k)
  exact hk k this d.1 d.2.2.1 d.2.2.2
 have hlt:∀ k,aq stm k∨aq which k∨aq vals k→k<c:=fun k h=>h.elim (p.sb k) fun h=>h.elim (p.wb k) (p.vb k)
 refine ⟨⟨⟨_,_,_,ho⟩,p.hstm.frame fun k h=>hs k (.inl h),p.hwhich.frame fun k h=>hs k (.inr (.inl h)),p.hvals.frame fun k h=>hs k (.inr (.inr h)),by have:=p.goc; omega,fun k h=>by have:=p.sb k h; omega,fun k h=>by have:=p.wb k h; omega,fun k h=>by have:=p.vb k h; omega⟩,ho,ha,hf,(hk b9 bc (Ne.symm x.gb) (fun h=>(x.ab b9 h).2.2.1 rfl) (fun h=>(x.fb b9 h).2.2 rfl)).trans x.cnt,by omega,?_,?_,x.gb,?_,x.rc,he,hfe,hl,x.nb⟩
 ·intro k h
  have goc:=p.goc
  rcases nA k h with h2 | h2
  ·have d:=x.ab k h2
   exact ⟨by omega,d.2.1,d.2.2.1,nd k h⟩
  ·exact ⟨by omega,by omega,by omega,nd k h⟩
 ·intro k h
  have goc:=p.goc
  rcases nF k h with h2 | h2
  ·have d:=x.fb k h2
   exact ⟨by omega,d.2.1,d.2.2⟩
  ·exact ⟨by omega,by omega,by omega⟩
 ·intro k h
  have d:=x.nd k h
  have:=hlt k h
  exact ⟨d.1,d.2.1,fun h2=>(nA k h2).elim d.2.2.1 fun h3=>by omega,fun h2=>(nF k h2).elim d.2.2.2 fun h3=>by omega⟩
def br (k:Nat) (w:Bool) (s:Wb.Spot):List AV:=[.int k,.bool w,.str s.array,.int s.cell]
theorem tg (A:List Wb.Array) (st:List (Wb.Step×List Wb.Step)) (l:List Inst) (stm which vals rnd acc frm:AV) (go b4 b6 b9 gm ver i:Nat) (I:Inst) (hI:l[i]?=some I) (hok:InstOk A st I) (hst:∀ y∈st,y.2.length≤1000000) (w:Bool) (key:ByteArray) (subs:List Wb.Form) (hsubs:ek A key subs) (n:Int) (es frs:List (List AV)) (hn:n<1000000000)
  (h0:Heap) (c0:Nat) (hr:RunI h0 c0 go b9 st l stm which vals rnd acc frm n es frs) (g4:h0 b4=some (.row 1 [[.ptr go 0 0]] .live none)) (g6:h0 b6=some (.row 1 [[.map gm]] .live none)) (b4c:b4<c0∧b4≠b9) (b6c:b6<c0∧b6≠b9) (gmc:gm<c0) (m:List (ByteArray×Wb.Array)) (hgm:h0 gm=some (.map (kvs AV.str (fun a=>AV.agg (Array.cells a)) m) ver)) (hm:∀ (j:Nat) (a:Wb.Array),A[j]?=some a→bF m a.key=some a) :
  ACalls Pg Fn146.n [.int i,.bool w,.str key,row (subs.map Form.cells),.ptr b4 0 0,.ptr b6 0 0,.ptr b9 0 0] ⟨h0,c0⟩ fun av s'=>av=.bool (bP A (aB I.env) key subs).2 ∧
   ((bP A (aB I.env) key subs).2=true→∃ acc',RunI s'.h s'.c go b9 st l stm which vals rnd acc' frm (n+1) (if n+1≤200000 then es++[br i w (bP A (aB I.env) key subs).1] else es) frs∧(∀ k,aq acc' k→aq acc k∨c0≤k))∧∀ k,k<c0→¬qb go b9 acc frm k→s'.h k=h0 k:=by
 obtain ⟨j,a,hj,hja,hak,hlen,hforms⟩:=hsubs
 have hsz:=jV hj hja
 have hmg:=hm j a hj
 rw [hak] at hmg
 have hspot:bP A (aB I.env) key subs=(⟨key,(cE (aB I.env) a.sizes subs 0 true).1⟩,(cE (aB I.env) a.sizes subs 0 true).2):=by unfold bP; rw [hsz]
 have hlk:=gB ep (f:=fun a:Wb.Array=>AV.agg (Array.cells a)) (z:=.agg [.str ⟨#[]⟩,.nil]) (ok:=false) (s:=⟨h0,c0⟩) hgm key
 rw [hmg] at hlk
 have hcell:=th A st l stm which vals go i I hI hok hst a subs hforms hlen h0 c0 hr.plo
 rw [hspot]
 refine Fn146.calls .keep ?_
 unfold Fn146.ac
 simp [g4,g6,hlk]
 refine hcell.mono ?_
 rintro av ⟨h1,c1⟩ hc1 ⟨hh,cell,rfl,hcn⟩
 simp only at hh hc1
 subst hh
 have hcnt:=hr.cnt
 have hnb:=hr.nb
 have hw:=ae (x:=n+1) (by omega) (by omega)
 have hr1:=(hr.count hn).frame (Fr.le hc1)
 obtain ⟨h2,hh2⟩:∃ h2,h2=upd h1 b9 (some (.row 1 [[.int (n+1)]] .live none)):=⟨_,rfl⟩
 rw [←hh2] at hr1
 have q9:h2 b9=_:=hr1.cnt
 have q4:h2 b4=_:=(congrFun hh2 b4).trans ((ad b4c.2).trans g4)
 simp [hcnt,hw,←hh2,q9]
 have hsame2:∀ k,k<c0→¬qb go b9 acc frm k→h2 k=h1 k:=fun k hk hk2=>by rw [hh2,ad fun h=>hk2 (.inr (.inl h))]
 by_cases hle:n+1≤200000
 ·have hlen2:=hr1.len
  obtain ⟨h3,p1,p2,p3,p4⟩:=hr1.hacc.push (c:=c1) (bytes:=40) (md:=.plain) (b:=true) (e:=[.int i,.bool w,.str key,.int cell]) (by decide) (by decide) (by decide) (by decide) rfl hr1.esok (by omega) (fun k hk=>(hr1.ab k hk).1)
  have o2:=hr1.obj
  have goc:=hr1.plo.goc
  have ngo:¬aq acc go:=fun h=>(hr1.ab go h).2.1 rfl
  have o3:=(p4 go (by omega) ngo).trans o2
  have nb4:¬aq acc b4:=fun h=>by
   rcases hr.hacc with ⟨e,_⟩ | ⟨g,e,hg⟩
   ·rw [e] at h; exact aL h
   ·rw [e] at h; have:=an.1 h; subst this; rw [g4] at hg; cases hg
  have q43:=(p4 b4 (by omega) nb4).trans q4
  simp [hle,q4,o2,aJ,bsI,az,p1,o3,q43]
  obtain ⟨h4,hh4⟩:∃ h4,h4=upd h3 go (some (.row 6 [[stm,which,vals,rnd,.row c1 4 0 (es.length+1),frm]] .live none)):=⟨_,rfl⟩
  have hk4:∀ k,k<c1→k≠go→¬aq acc k→h4 k=h2 k:=fun k a b d=>by rw [hh4,ad b,p4 k (by omega) d]
  rw [←hh4]
  refine ⟨fun hs=>⟨.row c1 4 0 (es.length+1),?_,fun k hk=>.inr (by have:=an.1 hk; omega)⟩,fun k hk hk2=>(hk4 k (by omega) (fun h=>hk2 (.inl h)) fun h=>hk2 (.inr (.inr (.inl h)))).trans (hsame2 k hk hk2)⟩
  refine hr1.re (acc':=.row c1 4 0 (es.length+1)) (frm':=frm) ((congrFun hh4 go).trans ah) ?_ (hr1.hfrm.frame fun k hk=>hk4 k (hr1.fb k hk).1 (hr1.fb k hk).2.1 fun h=>(hr1.ab k h).2.2.2 hk) (fun k a b d _=>hk4 k a b d) (Nat.le_succ _) (fun k hk=>.inr (by have:=an.1 hk; omega)) (fun k hk=>.inl hk) (fun k hk h=>by have:=an.1 hk; have:=(hr1.fb k h).1; omega) ?_ hr1.frok (by have:=hr.len; simp; omega)
  ·refine .inr ⟨c1,by simp,?_⟩
   rw [hh4,ad (by omega),p2,hcn hs]
   simp [br]
  ·intro e he
   rcases List.mem_append.1 he with he | he
   ·exact hr1.esok e he
   ·rw [List.mem_singleton.1 he]; rfl
 ·simp [hle]
  exact ⟨fun _=>⟨acc,hr1,fun k hk=>.inl hk⟩,hsame2⟩
def qt:Wb.Expr→ByteArray | .mk _ _ _ array _ _=>array
def nE:Wb.Expr→List Wb.Form | .mk _ _ _ _ subs _=>subs
def fN (A:List Wb.Array) (φ:ByteArray→Int) (x:Wb.Expr):Wb.Spot×Bool:=bP A φ (qt x) (nE x)
mutual
theorem jP (A:List Wb.Array) (φ:ByteArray→Int):∀ e:Wb.Expr,cB A φ e=((cI e).map fun x=>(fN A φ x).1,(cI e).all fun x=>(fN A φ x).2)
 | .mk op n form array subs args=>by
  simp only [cB,cI]
  split
  ·simp [fN,qt,nE]
  ·exact pY A φ args
theorem pY (A:List Wb.Array) (φ:ByteArray→Int):∀ l:List Wb.Expr,cz A φ l=((bn l).map fun x=>(fN A φ x).1,(bn l).all fun x=>(fN A φ x).2)
 | []=>rfl
 | e::es=>by simp [cz,bn,jP A φ e,pY A φ es]
end
mutual
theorem kV {A:List Wb.Array}:∀ e:Wb.Expr,cA A e→∀ x∈cI e,ek A (qt x) (nE x)
 | .mk op n form array subs args,h,x,hx=>by
  simp only [cI] at hx
  simp only [cA] at h
  split at hx
  ·rename_i h3
   rw [List.mem_singleton.1 hx]
   rcases h with h | h | h | h
   ·exact absurd (h.1.symm.trans h3) (by decide)
   ·exact absurd (h.1.symm.trans h3) (by decide)
   ·exact h.2.2
   ·omega
  ·rcases h with h | h | h | h
   ·rw [h.2.1] at hx; simp [bn] at hx
   ·rw [h.2.1] at hx; simp [bn] at hx
   ·rw [h.2.1] at hx; simp [bn] at hx
   ·exact ni args h.2.2.2 x hx
theorem ni {A:List Wb.Array}:∀ l:List Wb.Expr,cT A l→∀ x∈bn l,ek A (qt x) (nE x)
 | [],_,x,hx=>by simp [bn] at hx
 | e::es,h,x,hx=>by
  simp only [bn,List.mem_append] at hx
  simp only [cT] at h
  rcases hx with hx | hx
  ·exact kV e h.1 x hx
  ·exact ni es h.2 x hx
end
def fB (A:List Wb.Array) (k:Nat) (x:Inst):List (List AV):=(x.reads A).map (br k false)++[br k true (x.sets A)]
def ca (A:List Wb.Array):Nat→List Inst→List (List AV)
 | _,[]=>[]
 | k,x::xs=>fB A k x++ca A (k+1) xs
theorem jw (A:List Wb.Array):∀ (k:Nat) (a b:List Inst),ca A k (a++b)=ca A k a++ca A (k+a.length) b
 | k,[],b=>by simp [ca]
 | k,x::a,b=>by simp [ca,jw A (k+1) a b,Nat.add_assoc,Nat.add_comm 1]
theorem ky (A:List Wb.Array) (k:Nat) (x:Inst):(fB A k x).length=(x.reads A).length+1:=by simp [fB]
theorem jx (A:List Wb.Array):∀ (k:Nat) (l:List Inst),((ca A k l).length:Int)=cu A l
 | k,[]=>rfl
 | k,x::xs=>by
  have:=jx A (k+1) xs
  simp only [ca,List.length_append,ky,cu,List.map_cons,List.sum_cons] at this ⊢
  push_cast; omega
def eu (A:List Wb.Array):Nat→List Inst→List Int
 | _,[]=>[]
 | n,x::xs=>(n:Int)::eu A (n+(x.reads A).length+1) xs
theorem gA (A:List Wb.Array):∀ (n:Nat) (l:List Inst),(eu A n l).length=l.length
 | _,[]=>rfl
 | n,x::xs=>by simp [eu,gA A _ xs]
theorem kK (A:List Wb.Array):∀ (n k:Nat) (a b:List Inst),eu A n (a++b)=eu A n a++eu A (n+(ca A k a).length) b
 | n,k,[],b=>by simp [eu,ca]
 | n,k,x::a,b=>by
  simp only [List.cons_append,eu,kK A _ (k+1) a b,ca,List.length_append,ky]
  rw [show n+(x.reads A).length+1+(ca A (k+1) a).length=n+((x.reads A).length+1+(ca A (k+1) a).length) by omega]
theorem pS (A:List Wb.Array) (a b:List Inst):cu A (a++b)=cu A a+cu A b:=by simp [cu]
theorem pT (A:List Wb.Array) (x:Inst):cu A [x]=(x.reads A).length+1:=by simp [cu]
theorem qZ (A:List Wb.Array) (l:List Inst):0≤cu A l:=by rw [←jx A 0 l]; omega
theorem lV:∀ {A:List Wb.Array},(∀ (i j:Nat) (a b:Wb.Array),A[i]?=some a→A[j]?=some b→j<i→b.key≠a.key)→∀ (j:Nat) (a:Wb.Array),A[j]?=some a→bF (A.map fun a=>(a.key,a)) a.key=some a
 | [],_,j,a,h=>by simp at h
 | x::A,hA,0,a,h=>by
  simp at h; subst h
  simp [bF]
 | x::A,hA,j+1,a,h=>by
  have h':A[j]?=some a:=by simpa using h
  have hne:¬a.key=x.key:=fun e=>hA (j+1) 0 a x h rfl (by omega) e.symm
  simp only [List.map_cons,bF,if_neg hne]
  exact lV (fun i j a b h1 h2 h3=>hA (i+1) (j+1) a b (by simpa using h1) (by simpa using h2) (by omega)) j a h'
theorem oB {κ β:Type} [DecidableEq κ] {m:List (κ×β)} {k:κ} {v:β} (h:∀ p∈m,p.1≠k):cZ m k v=m++[(k,v)]:=by
 induction m with
 | nil=>rfl
 | cons p m ih=>
  have hne:¬k=p.1:=fun e=>h p List.mem_cons_self e.symm
  simp only [cZ,if_neg hne]
  rw [ih fun q hq=>h q (List.mem_cons_of_mem _ hq)]; rfl
end Go.Proofs.YtocppbmmfklbmaaGreat
set_option maxRecDepth 20000
set_option maxHeartbeats 4000000
namespace Go.Proofs.YtocppbmmfklbmaaGreat
open Go.AM Go.Wb
structure RanAt (h:Heap) (c go:Nat) (p:Wb.Prog) (stm which vals rnd acc frm:AV):Prop where
 plo:PlO h c go (bv [] p.steps) (au p).2.l stm which vals
 obj:h go=some (.row 6 [[stm,which,vals,rnd,acc,frm]] .live none)
 hacc:RowAt h 4 acc (ca p.arrays 0 (au p).2.l)
 hfrm:RowAt h 1 frm (ak (eu p.arrays 0 (au p).2.l))
 ab:∀ k,aq acc k→k<c
 fb:∀ k,aq frm k→k<c
def dZ (p:Wb.Prog):Int:=if (au p).1=0 then bV p.arrays (au p).2.l else (au p).1
theorem sO:∀ (around:List Wb.Step) (x:Wb.Step),∀ y∈gI around x,y.2.length≤around.length+count x
 | around,.mk kind name low high conds body array subs expr=>by
  intro y hy
  rw [iY] at hy
  obtain ⟨z,hz,rfl⟩:=List.mem_map.1 hy
  have h1:(z.2.filter isLoop).length≤z.2.length:=List.length_filter_le _ _
  have h2:=walk_around around (.mk kind name low high conds body array subs expr) z (List.mem_filter.1 hz).1
  show (z.2.filter isLoop).length≤_
  omega
where
 walk_around:∀ (around:List Wb.Step) (x:Wb.Step),∀ y∈fc around x,y.2.length≤around.length+count x
  | around,.mk kind name low high conds body array subs expr=>by
   intro y hy
   simp only [fc,List.mem_cons] at hy
   rcases hy with rfl | hy
   ·simp
   ·have:=walk_aroundL _ body y hy
    simp [count] at this ⊢; omega
 walk_aroundL:∀ (around:List Wb.Step) (l:List Wb.Step),∀ y∈bM around l,y.2.length≤around.length+aA l
  | around,[]=>by simp [bM]
  | around,s::ss=>by
   intro y hy
   simp only [bM,List.mem_append] at hy
   rcases hy with hy | hy
   ·have:=walk_around around s y hy; simp [aA]; omega
   ·have:=walk_aroundL around ss y hy; simp [aA]; omega
theorem ko (p:List Wb.Step) (y:Wb.Step×List Wb.Step) (hy:y∈bv [] p):y.2.length≤aA p:=by
 rw [iX] at hy
 obtain ⟨z,hz,rfl⟩:=List.mem_map.1 hy
 have h1:(z.2.filter isLoop).length≤z.2.length:=List.length_filter_le _ _
 have h2:=sO.walk_aroundL [] p z (List.mem_filter.1 hz).1
 show (z.2.filter isLoop).length≤_
 simp at h2; omega
theorem qY {A:List Wb.Array}:∀ {l:List Inst},(∀ x∈l,(x.reads A).length≤4096)→cu A l≤4097*l.length
 | [],_=>by simp [cu]
 | x::xs,h=>by
  have h1:=h x List.mem_cons_self
  have h2:=qY fun y hy=>h y (List.mem_cons_of_mem _ hy)
  simp only [cu,List.map_cons,List.sum_cons,List.length_cons] at h2 ⊢
  push_cast; omega
theorem vf (p:Wb.Prog) (hp:Right p) (hc:aA p.steps≤300) (h0:Heap) (c0:Nat) :
  ACalls Pg Fn87.n [p.av] ⟨h0,c0⟩ fun av s'=>Fr c0 h0 s'.h s'.c∧if dZ p=0 then ∃ go stm which vals rnd acc frm,av=.tup [.ptr go 0 0,.int 0]∧RanAt s'.h s'.c go p stm which vals rnd acc frm∧∀ k,aq acc k→c0≤k else av=.tup [.nilp,.int (dZ p)]:=by
 refine ACalls.small fun hsm=>?_
 have hal:p.arrays.length≤68719476736:=by simp [Prog.av] at hsm; omega
 refine Fn87.calls .keep ?_
 unfold Fn87.ac
 have hinst:=fun h c=>nK p hp hc h c
 simp only [Prog.av] at hinst
 simp [Prog.av]
 refine (hinst _ _).mono ?_
 rintro av ⟨h1,c1⟩ hc1 ⟨hF1,hq⟩
 simp only at hc1 hF1 hq
 have hF01:Fr c0 h0 h1 c1:=⟨by omega,fun k hk=>by rw [hF1.h k (by omega),ad (by omega)]⟩
 have hbox1:h1 c0=some (.row 2 [[row (p.arrays.map Array.cells),row (p.steps.map Step.cells)]] .live none):=by rw [hF1.h c0 (by omega),ah]
 by_cases hz:(au p).1=0
 case neg=>
  rw [if_neg hz] at hq
  subst hq
  have hpf:dZ p=(au p).1:=by simp [dZ,hz]
  rw [hpf]
  simp [hz]
  refine ⟨by show c0≤c1+1; omega,fun k hk=>?_⟩
  show upd h1 c1 _ k=_
  rw [ad (by omega)]; exact hF01.h k hk
 rw [if_pos hz] at hq
 obtain ⟨go,stm,which,vals,rfl,hPl⟩:=hq
 have hpf:dZ p=bV p.arrays (au p).2.l:=by simp [dZ,hz]
 rw [hpf]
 simp
 obtain ⟨hA,hhA⟩:∃ hA,hA=upd (upd (upd h1 c1 (some (.row 1 [[.ptr go 0 0]] .live none))) (c1+1) (some (.map [] (c1+1)))) (c1+1+1) (some (.row 1 [[.map (c1+1)]] .live none)):=⟨_,rfl⟩
 rw [←hhA]
 have a4:hA c1=some (.row 1 [[.ptr go 0 0]] .live none):=by rw [hhA,ad (by omega),ad (by omega),ah]
 have am:hA (c1+1)=some (.map [] (c1+1)):=by rw [hhA,ad (by omega),ah]
 have a6:hA (c1+1+1)=some (.row 1 [[.map (c1+1)]] .live none):=by rw [hhA,ah]
 have alow:∀ k,k<c1→hA k=h1 k:=fun k hk=>by rw [hhA,ad (by omega),ad (by omega),ad (by omega)]
 have abox:=(alow c0 (by omega)).trans hbox1
 simp [abox]
 obtain ⟨Inv,hInv⟩:∃ Inv:Nat→List Wb.Array→Slots→St→Prop,Inv=fun i r sl s'=>(∃ ver,s'.h (c1+1)=some (.map (kvs AV.str (fun a:Wb.Array=>AV.agg (Array.cells a)) ((p.arrays.take i).map fun a=>(a.key,a))) ver))∧(∀ k,k<c1+1+1+1→k≠c1+1→s'.h k=hA k)∧c1+1+1+1≤s'.c:=⟨_,rfl⟩
 refine bq 28 Fn87.W0 p.arrays Inv (by rfl) (by rfl) ?_ ?_ ?_
 ·rw [hInv]; exact ⟨by simp,⟨c1+1,am⟩,fun _ _ _=>rfl,Nat.le_refl _⟩
 ·intro v s' hv hI
  rw [hInv] at hI
  obtain ⟨⟨ver,m1⟩,m2,m3⟩:=hI
  obtain ⟨h2,c2⟩:=s'
  simp only at m1 m2 m3
  rw [List.take_length] at m1
  have q4:=(m2 c1 (by omega) (by omega)).trans a4
  have q6:=(m2 (c1+1+1) (by omega) (by omega)).trans a6
  have qlow:∀ k,k<c1→h2 k=h1 k:=fun k hk=>(m2 k (by omega) (by omega)).trans (alow k hk)
  obtain ⟨hB,hhB⟩:∃ hB,hB=upd h2 c2 (some (.row 1 [[.int 0]] .live none)):=⟨_,rfl⟩
  have blow:∀ k,k<c2→hB k=h2 k:=fun k hk=>by rw [hhB,ad (by omega)]
  have r4:=(blow c1 (by omega)).trans q4
  have r6:=(blow (c1+1+1) (by omega)).trans q6
  have rm:=(blow (c1+1) (by omega)).trans m1
  have r9:hB c2=_:=(congrFun hhB c2).trans ah
  have rlow:∀ k,k<c1→hB k=h1 k:=fun k hk=>(blow k (by omega)).trans (qlow k hk)
  have hgl:=hPl.goc
  have robj:=(rlow go (by omega)).trans hPl.obj
  obtain ⟨l,hl⟩:∃ l,l=(au p).2.l:=⟨_,rfl⟩
  have hlen:=hPl.len
  have hinv:=dL hp
  have hplo:PlO hB (c2+1) go (bv [] p.steps) l stm which vals:=⟨⟨_,_,_,robj⟩,hPl.hstm.frame fun k hk=>rlow k (hPl.sc k hk).2.1,by rw [hl]; exact hPl.hwhich.frame fun k hk=>rlow k (hPl.wc k hk).2.1,by rw [hl]; exact hPl.hvals.frame fun k hk=>rlow k (hPl.vc k hk).2.1,by omega,fun k hk=>by have:=hPl.sc k hk; omega,fun k hk=>by have:=hPl.wc k hk; omega,fun k hk=>by have:=hPl.vc k hk; omega⟩
  have hri:RunI hB (c2+1) go c2 (bv [] p.steps) l stm which vals (.int (au p).2.rounds) (.sl [] true) (.sl [] true) 0 [] []:=by
   refine ⟨hplo,robj,.inl ⟨rfl,rfl⟩,.inl ⟨rfl,rfl⟩,r9,by omega,fun k hk=>absurd hk aL,fun k hk=>absurd hk aL,by omega,?_,rfl,by simp,by simp,by simp,by omega⟩
   rintro k (h | h | h)
   ·have:=hPl.sc k h; exact ⟨by omega,by omega,aL,aL⟩
   ·have:=hPl.wc k h; exact ⟨by omega,by omega,aL,aL⟩
   ·have:=hPl.vc k h; exact ⟨by omega,by omega,aL,aL⟩
  have hwl:=hplo.hwhich.len ⟨hB,c2+1⟩
  have ewl:(ak (l.map fun i=>(i.num:Int))).length=l.length:=by simp [ak]
  rw [ewl] at hwl
  rw [←hl] at hinv hlen
  rw [←hl]
  simp [hv]
  rw [←hhB]
  simp [r4,robj,hwl]
  obtain ⟨rnd,hrnd⟩:∃ rnd,rnd=AV.int (au p).2.rounds:=⟨_,rfl⟩
  rw [←hrnd] at hri
  obtain ⟨Own,hOwn⟩:∃ Own:Heap→Nat→Prop,Own=fun h c=>h c1=some (.row 1 [[.ptr go 0 0]] .live none)∧h (c1+1+1)=some (.row 1 [[.map (c1+1)]] .live none)∧h (c1+1)=hB (c1+1)∧(∀ k,k<c0→h k=h0 k)∧c2+1≤c:=⟨_,rfl⟩
  obtain ⟨Inv,hInv⟩:∃ Inv:Nat→List Inst→Slots→St→Prop,Inv=fun i r sl s'=>∃ (acc frm:AV) (n:Int) (es frs:List (List AV)),RunI s'.h s'.c go c2 (bv [] p.steps) l stm which vals rnd acc frm n es frs∧n=cu p.arrays (l.take i)∧(n≤200000→es=ca p.arrays 0 (l.take i)∧frs=ak (eu p.arrays 0 (l.take i)))∧frs.length=i∧(∀ x∈l.take i,x.ok p.arrays=true)∧Own s'.h s'.c∧∀ k,aq acc k∨aq frm k→c2<k:=⟨_,rfl⟩
  refine bq 43 Fn87.W1 l Inv (by rfl) (by rfl) ?_ ?_ ?_
  ·rw [hInv]
   refine ⟨by simp,.sl [] true,.sl [] true,0,[],[],hri,rfl,fun _=>⟨rfl,rfl⟩,rfl,by simp,?_,fun k hk=>absurd hk (fun h=>h.elim aL aL)⟩
   rw [hOwn]
   exact ⟨r4,r6,rfl,fun k hk=>(rlow k (by omega)).trans (hF01.h k hk),Nat.le_refl _⟩
  ·intro v s' hv hI
   rw [hInv] at hI
   obtain ⟨acc,frm,n,es,frs,i1,i2,i3,i4,i5,i6,i7⟩:=hI
   obtain ⟨h3,c3⟩:=s'
   rw [List.take_length] at i2 i3 i5
   rw [hOwn] at i6
   obtain ⟨o1,o2,o3,o4,o5⟩:=i6
   simp only at i1 o1 o2 o3 o4 o5
   have hcnt:=i1.cnt
   have hno:(l.any fun i=>!i.ok p.arrays)=false:=by
    rw [List.any_eq_false]
    intro x hx
    simp [i5 x hx]
   have hFF:Fr c0 h0 h3 c3:=⟨by omega,o4⟩
   simp [hv,hcnt]
   by_cases hbig:200000<n
   ·have haf:bV p.arrays l=2:=by unfold bV; rw [hno,←i2]; simp [hbig]
    simp [hbig,haf]
    exact hFF
   ·have haf:bV p.arrays l=0:=by unfold bV; rw [hno,←i2]; simp [hbig]
    obtain ⟨e1,e2⟩:=i3 (by omega)
    simp [hbig,haf,o1]
    refine ⟨hFF,stm,which,vals,rnd,acc,⟨frm,by rw [hl] at i1; exact i1.plo,i1.obj,by rw [←hl,←e1]; exact i1.hacc,by rw [←hl,←e2]; exact i1.hfrm,fun k hk=>(i1.ab k hk).1,fun k hk=>(i1.fb k hk).1⟩,fun k hk=>by have:=i7 k (.inl hk); omega⟩
  ·intro i x xs v s' hi hx hl2 hv hI
   rw [hInv] at hI
   obtain ⟨acc,frm,n,es,frs,i1,i2,i3,i4,i5,i6,i7⟩:=hI
   obtain ⟨h3,c3⟩:=s'
   rw [hOwn] at i6
   obtain ⟨o1,o2,o3,o4,o5⟩:=i6
   simp only at i1 o1 o2 o3 o4 o5
   have hw:=ae (x:=(i:Int)+1) (by omega) (by omega)
   have hxI:l[i]?=some x:=by rw [List.getElem?_eq_getElem hi,hx]
   have hxok:=hinv x (ba hl2)
   obtain ⟨gw,w1,w2⟩:=i1.plo.hwhich.at (i:=i) (by rw [ewl]; exact hi)
   rw [ewl] at w1
   have hgw:(ak (l.map fun i=>(i.num:Int)))[i]?=some [.int x.num]:=by simp [ak,hi,hx]
   have iobj:=i1.obj
   have i1len:=i1.len
   have hel:=i1.hacc.len ⟨h3,c3⟩
   obtain ⟨h4,p1,p2,p3,p4⟩:=i1.hfrm.push (c:=c3) (bytes:=8) (md:=.plain) (b:=true) (e:=[.int es.length]) (by decide) (by decide) (by decide) (by decide) rfl i1.frok (by omega) (fun k hk=>(i1.fb k hk).1)
   have goc:=i1.plo.goc
   have ngo:¬aq frm go:=fun h=>(i1.fb go h).2.1 rfl
   have nb4:¬aq frm c1:=fun h=>by have:=i7 c1 (.inr h); omega
   have q4:=(p4 c1 (by omega) nb4).trans o1
   have qgo:=(p4 go (by omega) ngo).trans iobj
   obtain ⟨h5,hh5⟩:∃ h5,h5=upd h4 go (some (.row 6 [[stm,which,vals,rnd,acc,.row c3 1 0 (frs.length+1)]] .live none)):=⟨_,rfl⟩
   have hk5:∀ k,k<c3→k≠go→¬aq frm k→h5 k=h3 k:=fun k a b d=>by rw [hh5,ad b,p4 k (by omega) d]
   have hr5:RunI h5 (c3+1) go c2 (bv [] p.steps) l stm which vals rnd acc (.row c3 1 0 (frs.length+1)) n es (frs++[[.int es.length]]):=by
    refine i1.re (acc':=acc) (frm':=.row c3 1 0 (frs.length+1)) ((congrFun hh5 go).trans ah) (i1.hacc.frame fun k hk=>hk5 k (i1.ab k hk).1 (i1.ab k hk).2.1 (i1.ab k hk).2.2.2) ?_ (fun k a b _ d=>hk5 k a b d) (Nat.le_succ _) (fun k hk=>.inl hk) (fun k hk=>.inr (by have:=an.1 hk; omega)) (fun k hk h=>by have:=an.1 h; have:=(i1.ab k hk).1; omega) i1.esok ?_ (by simp; omega)
    ·refine .inr ⟨c3,by simp,?_⟩
     rw [hh5,ad (by omega),p2]
    ·intro e he
     rcases List.mem_append.1 he with he | he
     ·exact i1.frok e he
     ·rw [List.mem_singleton.1 he]; rfl
   have z1:=(hk5 c1 (by omega) (by omega) nb4).trans o1
   have hobj5:=hr5.obj
   obtain ⟨lps,hat,hnm⟩:=hxok.at_
   obtain ⟨hnl,hne⟩:=List.getElem?_eq_some_iff.1 hat
   obtain ⟨gs,s1,s2⟩:=hr5.plo.hstm.at (i:=x.num) (by simpa using hnl)
   have el1:((bv [] p.steps).map stCells).length=(bv [] p.steps).length:=by simp
   rw [el1] at s1
   have hgs:((bv [] p.steps).map stCells)[x.num]?=some (stCells (x.step,lps)):=by simp [hnl,hne]
   simp [hv,hi,w1,w2,hgw,o1,iobj,hel,bsI,az,p1,q4,qgo]
   rw [w1] at hh5
   rw [←hh5]
   obtain ⟨X,hX⟩:∃ X,X=x.step:=⟨_,rfl⟩
   rw [←hX] at hne hgs
   obtain ⟨kind,name,low,high,conds,body,array,subs,⟨op,n2,form,ea,es2,args⟩⟩:=X
   obtain ⟨rd,hrd⟩:∃ rd,rd=cI (.mk op n2 form ea es2 args):=⟨_,rfl⟩
   have hst:stCells (.mk kind name low high conds body array subs (.mk op n2 form ea es2 args),lps)=[.int kind,.str name,row (low.map Bound.cells),row (high.map Bound.cells),row (conds.map Form.cells),row (body.map Step.cells),.str array,row (subs.map Form.cells),.int op,.int n2,.int form.const,row (form.terms.map Term.cells),.str ea,row (es2.map Form.cells),row (args.map Expr.cells),row (lps.map Step.cells),row (rd.map Expr.cells)]:=by
    rw [hrd]; simp [stCells,Step.cells_mk,Step.expr]
   obtain ⟨h6,hh6⟩:∃ h6,h6=upd h5 (c3+1) (some (.row 17 [stCells (.mk kind name low high conds body array subs (.mk op n2 form ea es2 args),lps)] .live none)):=⟨_,rfl⟩
   have hF6:Fr (c3+1) h5 h6 (c3+1+1):=by rw [hh6]; exact (Fr.refl _ _).upd (Nat.le_refl _) (Nat.le_succ _)
   have hbx6:h6 (c3+1)=_:=(congrFun hh6 _).trans ah
   rw [hst] at hbx6 hh6
   simp [z1,hobj5,s1,hnl,s2,hne,hst]
   rw [←hh6]
   have hr6:=hr5.frame hF6
   have y1:=(hF6.h c1 (by omega)).trans z1
   have y6:=(hF6.h (c1+1+1) (by omega)).trans ((hk5 (c1+1+1) (by omega) (by omega) (fun h=>by have:=i7 _ (.inr h); omega)).trans o2)
   have ym:=(hF6.h (c1+1) (by omega)).trans ((hk5 (c1+1) (by omega) (by omega) (fun h=>by have:=i7 _ (.inr h); omega)).trans (o3.trans rm))
   obtain ⟨φ,hφ⟩:∃ φ,φ=aB x.env:=⟨_,rfl⟩
   have hsteq:x.step=.mk kind name low high conds body array subs (.mk op n2 form ea es2 args):=hX.symm
   have hexp:Step.expr x.step=.mk op n2 form ea es2 args:=by rw [hsteq]; rfl
   have hreads:x.reads p.arrays=rd.map fun y=>(fN p.arrays φ y).1:=by unfold Inst.reads; rw [jP,hexp,←hrd,←hφ]
   have hsetsp:x.sets p.arrays=(bP p.arrays φ array subs).1:=by unfold Inst.sets; rw [hsteq,←hφ]; rfl
   have hokx:x.ok p.arrays=((rd.all fun y=>(fN p.arrays φ y).2)&&(bP p.arrays φ array subs).2):=by unfold Inst.ok; rw [jP,hexp,←hrd,hsteq,←hφ]; rfl
   have hxe:=hxok.expr
   rw [hexp] at hxe
   have hrdok:=kV _ hxe
   rw [←hrd] at hrdok
   have hxs:=hxok.subs
   rw [hsteq] at hxs
   have hrdl:rd.length≤4096:=by have:=hxok.nr; rw [hexp,←hH,←hrd] at this; exact this
   have hnle:n≤4097*i:=by
    have:=qY (A:=p.arrays) (l:=l.take i) fun y hy=>by unfold Inst.reads; rw [eg]; exact (hinv y (List.mem_of_mem_take hy)).nr
    rw [←i2,List.length_take] at this; omega
   have hnn:=i1.nb.1
   obtain ⟨C,hC⟩:∃ C:Heap→Nat→Prop,C=fun h c=>h c1=some (.row 1 [[.ptr go 0 0]] .live none)∧h (c1+1+1)=some (.row 1 [[.map (c1+1)]] .live none)∧h (c1+1)=hB (c1+1)∧h (c3+1)=h6 (c3+1)∧(∀ k,k<c0→h k=h0 k)∧c3+1+1≤c:=⟨_,rfl⟩
   have hCF:∀ {h c h' c'},C h c→Fr c h h' c'→C h' c':=fun {h c h' c'} hc hf=>by
    rw [hC] at hc ⊢
    obtain ⟨k1,k2,k3,k4,k5,k6⟩:=hc
    have:=hf.c
    exact ⟨(hf.h _ (by omega)).trans k1,(hf.h _ (by omega)).trans k2,(hf.h _ (by omega)).trans k3,(hf.h _ (by omega)).trans k4,fun k hk=>(hf.h k (by omega)).trans (k5 k hk),by omega⟩
   have hC6:C h6 (c3+1+1):=by
    rw [hC]
    refine ⟨y1,y6,ym.trans rm.symm,rfl,fun k hk=>?_,Nat.le_refl _⟩
    rw [hF6.h k (by omega),hk5 k (by omega) (by omega) (fun h=>by have:=i7 k (.inr h); omega)]; exact o4 k hk
   obtain ⟨frm5,hfrm5⟩:∃ f,f=AV.row c3 1 0 (frs.length+1):=⟨_,rfl⟩
   obtain ⟨frs5,hfrs5⟩:∃ f,f=frs++[[AV.int es.length]]:=⟨_,rfl⟩
   rw [←hfrm5,←hfrs5] at hr6
   have htake:∀ (w:Bool) (key:ByteArray) (sb:List Wb.Form),ek p.arrays key sb→∀ (acc2:AV) (n3:Int) (es3:List (List AV)) (h7:Heap) (c7:Nat),RunI h7 c7 go c2 (bv [] p.steps) l stm which vals rnd acc2 frm5 n3 es3 frs5→C h7 c7→(∀ k,aq acc2 k→c2<k∧k≠c3+1)→n3<1000000000 →
     ACalls Pg Fn146.n [.int i,.bool w,.str key,row (sb.map Form.cells),.ptr c1 0 0,.ptr (c1+1+1) 0 0,.ptr c2 0 0] ⟨h7,c7⟩ fun av s'=>av=.bool (bP p.arrays φ key sb).2 ∧
      ((bP p.arrays φ key sb).2=true→∃ acc3,RunI s'.h s'.c go c2 (bv [] p.steps) l stm which vals rnd acc3 frm5 (n3+1) (if n3+1≤200000 then es3++[br i w (bP p.arrays φ key sb).1] else es3) frs5∧∀ k,aq acc3 k→c2<k∧k≠c3+1)∧C s'.h s'.c:=by
    intro w key sb hsb acc2 n3 es3 h7 c7 hr7 hC7 ha7 hn7
    rw [hC] at hC7
    obtain ⟨k1,k2,k3,k4,k5,k6⟩:=hC7
    have hcall:=tg p.arrays (bv [] p.steps) l stm which vals rnd acc2 frm5 go c1 (c1+1+1) c2 (c1+1) ver i x hxI hxok (fun y hy=>by have:=ko _ y hy; omega) w key sb hsb n3 es3 frs5 hn7 h7 c7 hr7 k1 k2 ⟨by omega,by omega⟩ ⟨by omega,by omega⟩ (by omega) _ (k3.trans rm) (lV hp.apart)
    rw [←hφ] at hcall
    refine hcall.mono ?_
    rintro av ⟨h8,c8⟩ hc8 ⟨t1,t2,t3⟩
    simp only at hc8 t3
    have hno:∀ k,k≠go→k≠c2→(k≤c2∨k=c3+1)→¬qb go c2 acc2 frm5 k:=by
     rintro k e1 e2 e3 (h | h | h | h)
     ·exact e1 h
     ·exact e2 h
     ·have:=ha7 k h; omega
     ·rw [hfrm5] at h; have:=an.1 h; omega
    refine ⟨t1,fun hk=>?_,?_⟩
    ·obtain ⟨acc3,u1,u2⟩:=t2 hk
     refine ⟨acc3,u1,fun k hk=>?_⟩
     rcases u2 k hk with h | h
     ·exact ha7 k h
     ·exact ⟨by omega,by omega⟩
    ·rw [hC]
     exact ⟨(t3 _ (by omega) (hno _ (by omega) (by omega) (by omega))).trans k1,(t3 _ (by omega) (hno _ (by omega) (by omega) (by omega))).trans k2,(t3 _ (by omega) (hno _ (by omega) (by omega) (by omega))).trans k3,(t3 _ (by omega) (hno _ (by omega) (by omega) (by omega))).trans k4,fun k hk=>(t3 k (by omega) (hno k (by omega) (by omega) (by omega))).trans (k5 k hk),by show _≤c8; omega⟩
   have hbad:x.ok p.arrays=false→∀ {h c},C h c→Fr c0 h0 h c∧(if bV p.arrays l=0 then False else AV.tup [AV.nilp,.int 16]=AV.tup [AV.nilp,.int (bV p.arrays l)]):=by
    intro hb h c hc
    rw [hC] at hc
    have hf:bV p.arrays l=16:=by
     unfold bV
     rw [if_pos]
     rw [List.any_eq_true]
     exact ⟨x,ba hl2,by simp [hb]⟩
    rw [hf]
    exact ⟨⟨by omega,hc.2.2.2.2.1⟩,by simp⟩
   obtain ⟨Inv2,hInv2⟩:∃ Inv:Nat→List Wb.Expr→Slots→St→Prop,Inv=fun (j:Nat) r sl s'=>∃ (acc2:AV) (es3:List (List AV)),RunI s'.h s'.c go c2 (bv [] p.steps) l stm which vals rnd acc2 frm5 (n+j) es3 frs5∧(n+j≤200000→es3=es++(rd.take j).map fun y=>br i false (fN p.arrays φ y).1)∧(∀ y∈rd.take j,(fN p.arrays φ y).2=true)∧C s'.h s'.c∧∀ k,aq acc2 k→c2<k∧k≠c3+1:=⟨_,rfl⟩
   refine bq 72 Fn87.W2 rd Inv2 (by rfl) (by rfl) ?_ ?_ ?_
   ·rw [hInv2]
    refine ⟨by simp,acc,es,by simpa using hr6,fun _=>by simp,by simp,hC6,fun k hk=>⟨i7 k (.inl hk),by have:=(i1.ab k hk).1; omega⟩⟩
   ·intro v2 s7 hv2 hI2
    rw [hInv2,List.take_length] at hI2
    obtain ⟨acc2,es3,j1,j2,j3,j4,j5⟩:=hI2
    obtain ⟨h7,c7⟩:=s7
    simp only at j1 j4
    have hall:(rd.all fun y=>(fN p.arrays φ y).2)=true:=List.all_eq_true.2 fun y hy=>j3 y hy
    have hb7:h7 (c3+1)=h6 (c3+1):=by rw [hC] at j4; exact j4.2.2.2.1
    rw [hbx6] at hb7
    rw [hall,Bool.true_and] at hokx
    have hlast:=htake true array subs hxs acc2 _ es3 h7 c7 j1 j4 j5 (by omega)
    simp [hv2,hb7]
    refine hlast.mono ?_
    rintro av ⟨h8,c8⟩ hc8 ⟨rfl,t2,t3⟩
    simp only at hc8 t3
    rw [←hokx] at t2 ⊢
    by_cases hk:x.ok p.arrays=true
    ·obtain ⟨acc3,u1,u2⟩:=t2 hk
     simp only at u1
     simp [hk,hv,hw]
     rw [hInv]
     have htk:l.take (i+1)=l.take i++[x]:=by rw [List.take_add_one,hxI]; rfl
     have hmany:n+(rd.length:Int)+1=cu p.arrays (l.take (i+1)):=by rw [htk,pS,pT,←i2,hreads]; simp; omega
     rw [hmany] at u1
     refine ⟨acc3,frm5,_,_,frs5,u1,rfl,fun hle=>?_,by rw [hfrs5]; simp [i4],?_,?_,fun k hk=>?_⟩
     ·rw [if_pos hle]
      have hle2:n+(rd.length:Int)≤200000:=by omega
      obtain ⟨e1,e2⟩:=i3 (by omega)
      have hlen0:(l.take i).length=i:=by rw [List.length_take]; omega
      refine ⟨?_,?_⟩
      ·rw [j2 hle2,e1,htk,jw,Nat.zero_add,hlen0]
       simp [ca,fB,hreads,hsetsp]
      ·rw [hfrs5,e2,e1,htk,kK p.arrays 0 0]
       simp [eu,ak]
     ·rw [htk]
      intro y hy
      rcases List.mem_append.1 hy with hy | hy
      ·exact i5 y hy
      ·rw [List.mem_singleton.1 hy]; exact hk
     ·rw [hC] at t3
      rw [hOwn]
      exact ⟨t3.1,t3.2.1,t3.2.2.1,t3.2.2.2.2.1,by show c2+1≤c8; have:=t3.2.2.2.2.2; omega⟩
     ·rcases hk with hk | hk
      ·exact (u2 k hk).1
      ·rw [hfrm5] at hk; have:=an.1 hk; omega
    ·have hkf:x.ok p.arrays=false:=by simpa using hk
     simp [hkf]
     simpa using hbad hkf t3
   ·intro j y ys v2 s7 hj hy hl3 hv2 hI2
    rw [hInv2] at hI2
    obtain ⟨acc2,es3,j1,j2,j3,j4,j5⟩:=hI2
    obtain ⟨h7,c7⟩:=s7
    simp only at j1 j4
    have hwj:=ae (x:=(j:Int)+1) (by omega) (by omega)
    obtain ⟨Y,hY⟩:∃ Y,Y=y:=⟨_,rfl⟩
    have hyok:=hrdok y (ba hl3)
    obtain ⟨yop,yn,yform,yarr,ysubs,yargs⟩:=y
    simp only [qt,nE] at hyok
    obtain ⟨h8,hh8⟩:∃ h8,h8=upd h7 c7 (some (.row 7 [[.int yop,.int yn,.int yform.const,row (yform.terms.map Term.cells),.str yarr,row (ysubs.map Form.cells),row (yargs.map Expr.cells)]] .live none)):=⟨_,rfl⟩
    have hF8:Fr c7 h7 h8 (c7+1):=by rw [hh8]; exact (Fr.refl _ _).upd (Nat.le_refl _) (Nat.le_succ _)
    have hb8:h8 c7=_:=(congrFun hh8 c7).trans ah
    have hone:=htake false yarr ysubs hyok acc2 _ es3 h8 (c7+1) (j1.frame hF8) (hCF j4 hF8) j5 (by omega)
    simp [hv2,hj,hy,Expr.cells_mk,←hh8,hb8]
    refine hone.mono ?_
    rintro av ⟨h9,c9⟩ hc9 ⟨rfl,t2,t3⟩
    simp only at hc9 t3
    have hysp:fN p.arrays φ (.mk yop yn yform yarr ysubs yargs)=bP p.arrays φ yarr ysubs:=rfl
    by_cases hk:(bP p.arrays φ yarr ysubs).2=true
    ·obtain ⟨acc3,u1,u2⟩:=t2 hk
     simp only at u1
     simp [hk,hv2,hwj]
     rw [hInv2]
     have htk:rd.take (j+1)=rd.take j++[.mk yop yn yform yarr ysubs yargs]:=by rw [List.take_add_one,List.getElem?_eq_getElem hj,hy]; rfl
     refine ⟨acc3,_,by rw [show n+((j+1:Nat):Int)=n+j+1 by push_cast; omega]; exact u1,fun hle=>?_,?_,t3,u2⟩
     ·rw [if_pos (by push_cast at hle; omega),htk,j2 (by push_cast at hle; omega)]
      simp [hysp]
     ·rw [htk]
      intro z hz
      rcases List.mem_append.1 hz with hz | hz
      ·exact j3 z hz
      ·rw [List.mem_singleton.1 hz]; exact hk
    ·have hkf:(bP p.arrays φ yarr ysubs).2=false:=by simpa using hk
     have hxf:x.ok p.arrays=false:=by
      rw [hokx,Bool.and_eq_false_iff]
      refine .inl ?_
      rw [List.all_eq_false]
      exact ⟨_,ba hl3,by rw [hysp,hkf]; decide⟩
     simp [hkf]
     simpa using hbad hxf t3
 ·intro i x xs v s' hi hx hl hv hI
  rw [hInv] at hI
  obtain ⟨⟨ver,m1⟩,m2,m3⟩:=hI
  obtain ⟨h2,c2⟩:=s'
  simp only at m1 m2 m3
  have hw:=ae (x:=(i:Int)+1) (by omega) (by omega)
  have q6:=(m2 (c1+1+1) (by omega) (by omega)).trans a6
  have hnew:cZ ((p.arrays.take i).map fun a=>(a.key,a)) x.key x=(p.arrays.take (i+1)).map fun a=>(a.key,a):=by
   rw [oB,List.take_add_one,List.getElem?_eq_getElem hi,hx,List.map_append]
   ·rfl
   ·intro q hq
    obtain ⟨a,ha,rfl⟩:=List.mem_map.1 hq
    obtain ⟨j,hj,hja⟩:=List.mem_iff_getElem.1 ha
    simp at hj hja
    exact hp.apart i j x a (by rw [List.getElem?_eq_getElem hi,hx]) (by rw [List.getElem?_eq_getElem (by omega),hja]) (by omega)
  have hmu:=jm ep (f:=fun a:Wb.Array=>AV.agg (Array.cells a)) (g:=c1+1) (s:=⟨upd h2 c2 (some (.row 2 [[.str x.key,row (ak x.sizes)]] .live none)),c2+1⟩) ((ad (by omega)).trans m1) x.key x
  rw [hnew] at hmu
  have hc16:¬c1+1+1=c2:=by omega
  simp only [Array.cells] at hmu
  simp [hv,hi,hx,Array.cells,q6,hc16,hmu,hw]
  rw [hInv]
  refine ⟨⟨c2+1,by show upd _ _ _ _=_; rw [ah,List.map_take]; rfl⟩,fun k hk hk2=>?_,by show _≤c2+1+1; omega⟩
  show upd (upd h2 c2 _) (c1+1) _ k=_
  rw [ad hk2,ad (by omega)]; exact m2 k hk hk2
end Go.Proofs.YtocppbmmfklbmaaGreat
namespace Go.Proofs.YtocppbmmfklbmaaGreat
open Go.AM Go.Wb
deriving instance DecidableEq for Wb.Spot
def UsesN (h:Heap) (c:Nat) (A:List Wb.Array) (x:AV) (l:List Inst):Prop:=
 ∃ es,(0<es.length→∃ g,x=.row g 22 0 es.length∧h g=some (.row 22 es .live none))∧es.length=l.length∧(∀ (k:Nat) (e:List AV) (i:Inst),es[k]?=some e→l[k]?=some i→∃ ge,ge<c∧cU h ge i.env∧e=dx A i ge)∧∀ s,er 1 x s=some (.int es.length)
theorem UsesAt.n {h:Heap} {c:Nat} {A:List Wb.Array} {x:AV} {l:List Inst} (u:UsesAt h c A x l):UsesN h c A (norm x) l:=by
 obtain ⟨es,h1,h2,h3⟩:=u
 refine ⟨es,fun h0=>?_,h2,h3,fun s=>?_⟩
 ·obtain ⟨g,rfl,hg⟩:=h1.at h0
  exact ⟨g,rfl,hg⟩
 ·rcases h1 with ⟨rfl,rfl⟩ | ⟨g,rfl,hg⟩ <;> rfl
theorem UsesN.at {h:Heap} {c:Nat} {A:List Wb.Array} {x:AV} {l:List Inst} (u:UsesN h c A x l) {i:Nat} (hi:i<l.length):∃ (es:List (List AV)) (g ge:Nat),x=.row g 22 0 l.length∧h g=some (.row 22 es .live none)∧es[i]?=some (dx A l[i] ge):=by
 obtain ⟨es,h1,h2,h3,_⟩:=u
 obtain ⟨g,e1,e2⟩:=h1 (by omega)
 have hx:es[i]?=some es[i]:=List.getElem?_eq_getElem (by omega)
 obtain ⟨ge,_,_,e3⟩:=h3 i _ _ hx (List.getElem?_eq_getElem hi)
 exact ⟨es,g,ge,by rw [e1,h2],e2,by rw [hx,e3]⟩
theorem UsesN.len {h:Heap} {c:Nat} {A:List Wb.Array} {x:AV} {l:List Inst} (u:UsesN h c A x l) (s:St):er 1 x s=some (.int l.length):=by
 obtain ⟨es,h1,h2,h3,h4⟩:=u
 rw [h4,h2]
theorem UsesN.fr {h h':Heap} {c c':Nat} {A:List Wb.Array} {x:AV} {l:List Inst} (u:UsesN h c A x l) (hx:∀ k,aq x k→k<c) (hF:Fr c h h' c'):UsesN h' c' A x l:=by
 obtain ⟨es,h1,h2,h3,h4⟩:=u
 refine ⟨es,fun h0=>?_,h2,fun k e i he hi=>?_,h4⟩
 ·obtain ⟨g,e1,e2⟩:=h1 h0
  exact ⟨g,e1,(hF.h g (hx g (by rw [e1]; exact an.2 rfl))).trans e2⟩
 ·obtain ⟨ge,g1,⟨ver,g2⟩,g3⟩:=h3 k e i he hi
  exact ⟨ge,Nat.lt_of_lt_of_le g1 hF.c,⟨ver,(hF.h ge g1).trans g2⟩,g3⟩
end Go.Proofs.YtocppbmmfklbmaaGreat
set_option maxRecDepth 20000
set_option maxHeartbeats 4000000
namespace Go.Proofs.YtocppbmmfklbmaaGreat
open Go.AM Go.Wb
abbrev Mem:=Wb.Spot→Int
def kS (op:Int):List Int→Int
 | [a,b]=>if op=4 then (a+b) % 1000003 else if op=5 then (a-b) % 1000003 else (a*b) % 1000003
 | _=>0
mutual
def cg (M:Mem) (φ:ByteArray→Int):Wb.Expr→List Wb.Spot→Int×List Wb.Spot
 | .mk op n form _ _ args,rs=>if op=1 then (n,rs) else if op=2 then (aG φ form % 1000003,rs) else if op=3 then (M (rs.headD ⟨⟨#[]⟩,0⟩),rs.tail) else (kS op (fF M φ args rs).1,(fF M φ args rs).2)
def fF (M:Mem) (φ:ByteArray→Int):List Wb.Expr→List Wb.Spot→List Int×List Wb.Spot
 | [],rs=>([],rs)
 | e::es,rs=>((cg M φ e rs).1::(fF M φ es (cg M φ e rs).2).1,(fF M φ es (cg M φ e rs).2).2)
end
def eG (M:Mem):Prop:=∀ s,0≤M s∧M s≤1000002
theorem kP (n:Int):0≤n % 1000003∧n % 1000003≤1000002:=by
 have h1:=Int.emod_nonneg n (b:=1000003) (by decide)
 have h2:=Int.emod_lt_of_pos n (b:=1000003) (by decide)
 omega
theorem rC (op:Int) (l:List Int):0≤kS op l∧kS op l≤1000002:=by
 unfold kS
 split
 ·split
  ·exact kP _
  ·split <;> exact kP _
 ·omega
theorem iP {M:Mem} (hM:eG M) (φ:ByteArray→Int) {A:List Wb.Array} {e:Wb.Expr} (he:cA A e) (rs:List Wb.Spot):0≤(cg M φ e rs).1∧(cg M φ e rs).1≤1000002:=by
 obtain ⟨op,n,form,array,subs,args⟩:=e
 simp only [cA] at he
 simp only [cg]
 split
 ·rename_i h1
  rcases he with h | h | h | h
  ·exact h.2.2
  ·omega
  ·omega
  ·omega
 ·split
  ·exact kP _
  ·split
   ·exact hM _
   ·exact rC _ _
mutual
theorem gV (M:Mem) (φ:ByteArray→Int) {A:List Wb.Array}:∀ (e:Wb.Expr) (rs:List Wb.Spot),cA A e→(cg M φ e rs).2=rs.drop (aW e)
 | .mk op n form array subs args,rs,h=>by
  simp only [cA] at h
  simp only [cg,aW]
  rcases h with h | h | h | h
  ·rw [if_pos h.1,if_neg (by omega),h.2.1]; simp [bg]
  ·rw [if_neg (by omega),if_pos h.1,if_neg (by omega),h.2.1]; simp [bg]
  ·rw [if_neg (by omega),if_neg (by omega),if_pos h.1,if_pos h.1]; cases rs <;> rfl
  ·rw [if_neg (by omega),if_neg (by omega),if_neg (by omega),if_neg (by omega)]
   exact mQ M φ args rs h.2.2.2
theorem mQ (M:Mem) (φ:ByteArray→Int) {A:List Wb.Array}:∀ (l:List Wb.Expr) (rs:List Wb.Spot),cT A l→(fF M φ l rs).2=rs.drop (bg l)
 | [],rs,_=>by simp [fF,bg]
 | e::es,rs,h=>by
  simp only [cT] at h
  simp only [fF,bg]
  rw [gV M φ e rs h.1,mQ M φ es _ h.2,List.drop_drop]
end
def iM (A:List Wb.Array) (M:Mem) (x:Inst):Mem:=fun s=>if s=x.sets A then (cg M (aB x.env) (Step.expr x.step) (x.reads A)).1 else M s
def fJ (A:List Wb.Array) (l:List Inst) (order:List Int) (M:Mem):Mem:=order.foldl (fun M k=>match l[k.toNat]? with | some x=>iM A M x | none=>M) M
def dr (M:Mem) (g:Wb.Grid):Mem:=fun s=>if s.array=g.key∧0≤s.cell∧s.cell<g.values.length then g.values.getD s.cell.toNat 0 else M s
def iH (gs:List Wb.Grid):Mem:=gs.foldl dr fun _=>0
def bw (M:Mem) (a:Wb.Array):List Int:=(List.range (bJ a.sizes).toNat).map fun (j:Nat)=>M ⟨a.key,j⟩
theorem uu {A:List Wb.Array} {M:Mem} (hM:eG M) {x:Inst} (hx:cA A (Step.expr x.step)):eG (iM A M x):=fun s=>by
 unfold iM
 split
 ·exact iP hM _ hx _
 ·exact hM s
def kw (A:List Wb.Array) (s:Wb.Spot):Prop:=∃ a∈A,a.key=s.array∧0≤s.cell∧s.cell<bJ a.sizes
theorem kI (l:List Int):∀ k:Int,l.foldl (·*·) k=k*l.foldl (·*·) 1:=by
 induction l with
 | nil=>intro k; simp
 | cons z l ih=>intro k; simp only [List.foldl_cons,Int.one_mul]; rw [ih (k*z),ih z,Int.mul_assoc]
theorem iE:∀ (l:List Int),(∀ z∈l,1≤z)→1≤l.foldl (·*·) 1
 | [],_=>by simp
 | z::l,h=>by
  simp only [List.foldl_cons,Int.one_mul]
  rw [kI]
  have h1:=h z List.mem_cons_self
  have h2:=iE l fun y hy=>h y (List.mem_cons_of_mem _ hy)
  exact Int.le_trans (by omega) (Int.mul_le_mul h1 h2 (by omega) (by omega))
theorem qf (φ:ByteArray→Int):∀ (zs:List Int) (fs:List Wb.Form) (n K:Int),(∀ z∈zs,1≤z∧z≤20000)→zs.length=fs.length→0≤n→n<K→K*zs.foldl (·*·) 1≤20000→(cE φ zs fs n true).2=true→0≤(cE φ zs fs n true).1∧(cE φ zs fs n true).1<K*zs.foldl (·*·) 1
 | [],[],n,K,_,_,h0,h1,h2,_=>by simp [cE]; omega
 | [],_::_,_,_,_,h,_,_,_,_=>by simp at h
 | _::_,[],_,_,_,h,_,_,_,_=>by simp at h
 | z::zs,f::fs,n,K,hz,hl,h0,h1,h2,hok=>by
  simp only [cE,Bool.true_and] at hok ⊢
  simp only [List.foldl_cons,Int.one_mul] at h2 ⊢
  rw [kI,←Int.mul_assoc] at h2 ⊢
  have hz1:=hz z List.mem_cons_self
  have hp:=iE zs fun y hy=>(hz y (List.mem_cons_of_mem _ hy)).1
  by_cases hin:0≤aG φ f∧aG φ f≤z-1
  ·rw [decide_eq_true hin] at hok ⊢
   have hKz:K*z≤20000:=by
    have:K*z*1≤K*z*zs.foldl (·*·) 1:=Int.mul_le_mul_of_nonneg_left hp (Int.mul_nonneg (by omega) (by omega))
    omega
   have hnz:0≤n*z:=Int.mul_nonneg h0 (by omega)
   have hnK:n*z+z≤K*z:=by
    have:(n+1)*z≤K*z:=Int.mul_le_mul_of_nonneg_right (by omega) (by omega)
    rw [Int.add_mul,Int.one_mul] at this; exact this
   have w1:=ae (x:=n*z) (by omega) (by omega)
   have w2:=ae (x:=n*z+aG φ f) (by omega) (by omega)
   rw [w1,w2] at hok ⊢
   exact qf φ zs fs _ (K*z) (fun y hy=>hz y (List.mem_cons_of_mem _ hy)) (by simpa using hl) (by omega) (by omega) h2 hok
  ·rw [decide_eq_false hin] at hok
   rw [gq] at hok; cases hok
theorem oL {A:List Wb.Array} (hA:∀ a∈A,OkArray a) {φ:ByteArray→Int} {key:ByteArray} {subs:List Wb.Form} (hs:ek A key subs) (hok:(bP A φ key subs).2=true):kw A (bP A φ key subs).1:=by
 obtain ⟨i,a,h1,h2,h3,h4,h5⟩:=hs
 have ha:=hA a (List.mem_of_getElem? h1)
 have hsz:=jV h1 h2
 unfold bP at hok ⊢
 rw [hsz] at hok ⊢
 have hc:=ha.cells
 have:=qf φ a.sizes subs 0 1 ha.sizes h4 (by omega) (by omega) (by unfold bJ at hc; omega) hok
 refine ⟨a,List.mem_of_getElem? h1,h3,this.1,?_⟩
 have h6:=this.2
 rw [Int.one_mul] at h6
 exact h6
theorem Inst.ok_in {A:List Wb.Array} (hA:∀ a∈A,OkArray a) {all:List (Wb.Step×List Wb.Step)} {x:Inst} (hx:InstOk A all x) (hok:x.ok A=true):(∀ s∈x.reads A,kw A s)∧kw A (x.sets A):=by
 unfold Inst.ok at hok
 rw [Bool.and_eq_true] at hok
 refine ⟨fun s hs=>?_,oL hA hx.subs hok.2⟩
 unfold Inst.reads at hs
 rw [jP] at hs hok
 obtain ⟨y,hy,rfl⟩:=List.mem_map.1 hs
 exact oL hA (kV _ hx.expr y hy) (List.all_eq_true.1 hok.1 y hy)
end Go.Proofs.YtocppbmmfklbmaaGreat
set_option maxRecDepth 20000
set_option maxHeartbeats 4000000
namespace Go.Proofs.YtocppbmmfklbmaaGreat
open Go.AM Go.Wb
def RdAt (h:Heap) (sz:Nat) (rv:AV) (es:List (List AV)):Prop:=∃ g all off st,rv=.row g sz off es.length∧h g=some (.row sz all st none)∧(all.drop off).take es.length=es∧off+es.length≤all.length
theorem RdAt.head {h:Heap} {sz:Nat} {rv:AV} {e:List AV} {es:List (List AV)} (r:RdAt h sz rv (e::es)):∃ g all off st,rv=.row g sz off (es.length+1)∧h g=some (.row sz all st none)∧all[off]?=some e∧RdAt h sz (.row g sz (off+1) es.length) es:=by
 obtain ⟨g,all,off,st,h1,h2,h3,h4⟩:=r
 simp only [List.length_cons] at h1 h3 h4
 have h0:off<all.length:=by omega
 rw [List.drop_eq_getElem_cons h0,List.take_succ_cons] at h3
 injection h3 with h5 h6
 exact ⟨g,all,off,st,h1,h2,by rw [List.getElem?_eq_getElem h0,h5],g,all,off+1,st,rfl,h2,h6,by omega⟩
theorem RdAt.cell {h:Heap} {sz:Nat} {rv:AV} {es:List (List AV)} (r:RdAt h sz rv es):rv.cell=true:=by
 obtain ⟨g,all,off,st,rfl,_⟩:=r; rfl
theorem RdAt.frame {h h':Heap} {sz:Nat} {rv:AV} {es:List (List AV)} (r:RdAt h sz rv es) (hh:∀ k,aq rv k→h' k=h k):RdAt h' sz rv es:=by
 obtain ⟨g,all,off,st,rfl,h2,h3,h4⟩:=r
 exact ⟨g,all,off,st,rfl,(hh g (an.2 rfl)).trans h2,h3,h4⟩
def RdN (h:Heap) (sz:Nat) (rv:AV) (es:List (List AV)):Prop:=(es=[]∧∃ b,rv=.sl [] b)∨RdAt h sz rv es
theorem RdN.head {h:Heap} {sz:Nat} {rv:AV} {e:List AV} {es:List (List AV)} (r:RdN h sz rv (e::es)):∃ g all off st,rv=.row g sz off (es.length+1)∧h g=some (.row sz all st none)∧all[off]?=some e∧RdAt h sz (.row g sz (off+1) es.length) es:=by
 rcases r with ⟨h,_⟩ | r
 ·cases h
 ·exact r.head
theorem RdN.frame {h h':Heap} {sz:Nat} {rv:AV} {es:List (List AV)} (r:RdN h sz rv es) (hh:∀ k,aq rv k→h' k=h k):RdN h' sz rv es:=r.imp id fun r=>r.frame hh
def gH (s:Wb.Spot):AV:=.agg (Spot.cells s)
theorem jJ:KeyOk (.agg [.str,.int]) gH where
 wf a:=rfl
 eq a b:=by
  obtain ⟨a1,a2⟩:=a
  obtain ⟨b1,b2⟩:=b
  simp [gH,Spot.cells,fH,bT,eA]
  rfl
end Go.Proofs.YtocppbmmfklbmaaGreat
set_option maxRecDepth 20000
set_option maxHeartbeats 4000000
namespace Go.Proofs.YtocppbmmfklbmaaGreat
open Go.AM Go.Wb
def cm (A:List Wb.Array) (G:List Nat):List (ByteArray×AV):=List.zipWith (fun a gi=>(a.key,AV.row gi 1 0 (bJ a.sizes).toNat)) A G
def gT (A:List Wb.Array):Prop:=∀ (i j:Nat) (a b:Wb.Array),A[i]?=some a→A[j]?=some b→j<i→b.key≠a.key
theorem my:∀ {A:List Wb.Array} {G:List Nat},gT A→∀ (j:Nat) (a:Wb.Array) (gi:Nat),A[j]?=some a→G[j]?=some gi→bF (cm A G) a.key=some (.row gi 1 0 (bJ a.sizes).toNat)
 | [],_,_,j,a,gi,h,_=>by simp at h
 | x::A,[],_,j,a,gi,_,h=>by simp at h
 | x::A,y::G,hA,0,a,gi,h,h'=>by
  simp at h h'; subst h; subst h'
  simp [cm,bF]
 | x::A,y::G,hA,j+1,a,gi,h,h'=>by
  have h2:A[j]?=some a:=by simpa using h
  have hne:¬a.key=x.key:=fun e=>hA (j+1) 0 a x h rfl (by omega) e.symm
  have:=my (A:=A) (G:=G) (fun i j a b h1 h2 h3=>hA (i+1) (j+1) a b (by simpa using h1) (by simpa using h2) (by omega)) j a gi h2 (by simpa using h')
  simp only [cm,List.zipWith_cons_cons,bF,if_neg hne]
  exact this
structure MemAt (h:Heap) (c g:Nat) (A:List Wb.Array) (M:Mem) (G:List Nat):Prop where
 len:G.length=A.length
 map:∃ ver,h g=some (.map (kvs AV.str (fun v:AV=>v) (cm A G)) ver)
 rows:∀ (i:Nat) (a:Wb.Array) (gi:Nat),A[i]?=some a→G[i]?=some gi→h gi=some (.row 1 (ak (bw M a)) .live none)
 lt:∀ gi∈G,gi<c∧gi≠g
 nd:G.Nodup
 gc:g<c
theorem MemAt.frame {h h':Heap} {c c' g:Nat} {A:List Wb.Array} {M:Mem} {G:List Nat} (x:MemAt h c g A M G) (hc:c≤c') (hh:∀ k,k=g∨k∈G→h' k=h k):MemAt h' c' g A M G:=by
 obtain ⟨ver,hm⟩:=x.map
 exact ⟨x.len,⟨ver,(hh g (.inl rfl)).trans hm⟩,fun i a gi h1 h2=>(hh gi (.inr (List.mem_of_getElem? h2))).trans (x.rows i a gi h1 h2),fun gi hg=>⟨by have:=(x.lt gi hg).1; omega,(x.lt gi hg).2⟩,x.nd,by have:=x.gc; omega⟩
theorem kb (M:Mem) (a:Wb.Array):(bw M a).length=(bJ a.sizes).toNat:=by simp [bw]
theorem MemAt.spot {h:Heap} {c g:Nat} {A:List Wb.Array} {M:Mem} {G:List Nat} (x:MemAt h c g A M G) (hA:gT A) {s:Wb.Spot} (hs:kw A s) :
  ∃ (i:Nat) (a:Wb.Array) (gi n:Nat),A[i]?=some a∧G[i]?=some gi∧a.key=s.array∧s.cell=n∧n<(bJ a.sizes).toNat∧bF (cm A G) s.array=some (.row gi 1 0 (bJ a.sizes).toNat)∧h gi=some (.row 1 (ak (bw M a)) .live none)∧(ak (bw M a))[n]?=some [.int (M s)]:=by
 obtain ⟨a,ha,h1,h2,h3⟩:=hs
 obtain ⟨i,hi,hia⟩:=List.mem_iff_getElem.1 ha
 have hia':A[i]?=some a:=by rw [List.getElem?_eq_getElem hi,hia]
 have hig:i<G.length:=by rw [x.len]; exact hi
 have hgi:G[i]?=some G[i]:=List.getElem?_eq_getElem hig
 refine ⟨i,a,G[i],s.cell.toNat,hia',hgi,h1,by omega,by omega,by rw [←h1]; exact my hA i a _ hia' hgi,x.rows i a _ hia' hgi,?_⟩
 have hn:s.cell.toNat<(bJ a.sizes).toNat:=by omega
 have:(⟨a.key,(s.cell.toNat:Int)⟩:Wb.Spot)=s:=by
  obtain ⟨sa,sc⟩:=s
  simp only at h1 h2
  simp [h1]; omega
 have hv:(bw M a)[s.cell.toNat]?=some (M ⟨a.key,(s.cell.toNat:Int)⟩):=by
  unfold bw
  rw [List.getElem?_map,List.getElem?_range hn]; rfl
 rw [this] at hv
 unfold ak
 rw [List.getElem?_map,hv]; rfl
theorem MemAt.set {h:Heap} {c g:Nat} {A:List Wb.Array} {M:Mem} {G:List Nat} (x:MemAt h c g A M G) (hA:gT A) {s:Wb.Spot} {i n gi:Nat} {a:Wb.Array} (h1:A[i]?=some a) (h2:G[i]?=some gi) (h3:a.key=s.array) (h4:s.cell=n) (h5:n<(bJ a.sizes).toNat) (v:Int) :
  MemAt (AM.upd h gi (some (.row 1 ((ak (bw M a)).set n [.int v]) .live none))) c g A (fun s'=>if s'=s then v else M s') G:=by
 obtain ⟨ver,hm⟩:=x.map
 have hg:=x.lt gi (List.mem_of_getElem? h2)
 refine ⟨x.len,⟨ver,(ad (Ne.symm hg.2)).trans hm⟩,fun j b gj e1 e2=>?_,x.lt,x.nd,x.gc⟩
 by_cases hij:j=i
 ·subst hij
  rw [h1] at e1; injection e1 with e1; subst e1
  rw [h2] at e2; injection e2 with e2; subst e2
  rw [ah]
  have:(ak (bw M a)).set n [.int v]=ak (bw (fun s'=>if s'=s then v else M s') a):=by
   refine List.ext_getElem? fun k=>?_
   by_cases hk:k<(bJ a.sizes).toNat
   ·by_cases hkn:k=n
    ·subst hkn
     have:(⟨a.key,(k:Int)⟩:Wb.Spot)=s:=by
      obtain ⟨sa,sc⟩:=s
      simp only at h3 h4
      simp [h3,h4]
     rw [List.getElem?_set_self (by rw [show (ak (bw M a)).length=(bJ a.sizes).toNat by simp [ak,bw]]; exact hk)]
     simp [ak,bw,hk,this]
    ·have:¬(⟨a.key,(k:Int)⟩:Wb.Spot)=s:=by
      obtain ⟨sa,sc⟩:=s
      simp only at h3 h4
      simp [h4]; omega
     rw [List.getElem?_set_ne (fun e=>hkn e.symm)]
     simp [ak,bw,hk,this]
   ·rw [List.getElem?_eq_none (by simp [ak,bw]; omega),List.getElem?_eq_none (by simp [ak,bw]; omega)]
  rw [this]
 ·have hne:gj≠gi:=fun e=>by
   subst e
   have hj1:=List.getElem?_eq_some_iff.1 e2
   have hi1:=List.getElem?_eq_some_iff.1 h2
   obtain ⟨hj2,hj3⟩:=hj1
   obtain ⟨hi2,hi3⟩:=hi1
   have:=List.pairwise_iff_getElem.1 x.nd
   rcases Nat.lt_trichotomy i j with h | h | h
   ·exact this i j hi2 hj2 h (by rw [hi3,hj3])
   ·exact hij h.symm
   ·exact this j i hj2 hi2 h (by rw [hi3,hj3])
  rw [ad hne,x.rows j b gj e1 e2]
  have hkey:b.key≠s.array:=by
   rw [←h3]
   rcases Nat.lt_trichotomy i j with h | h | h
   ·exact fun e=>hA j i b a e1 h1 h e.symm
   ·exact absurd h.symm hij
   ·exact fun e=>hA i j a b h1 e1 h e
  have:bw (fun s'=>if s'=s then v else M s') b=bw M b:=by
   unfold bw
   refine List.map_congr_left fun k _=>?_
   refine if_neg fun e=>?_
   exact hkey (by rw [←e])
  rw [this]
end Go.Proofs.YtocppbmmfklbmaaGreat
set_option maxRecDepth 20000
set_option maxHeartbeats 4000000
namespace Go.Proofs.YtocppbmmfklbmaaGreat
open Go.AM Go.Wb
def o0 (go:Nat) (stm which vals:AV) (k:Nat):Prop:=k=go∨aq stm k∨aq which k∨aq vals k
theorem PlO.re {h h':Heap} {c c' go:Nat} {st:List (Wb.Step×List Wb.Step)} {l:List Inst} {stm which vals:AV} (x:PlO h c go st l stm which vals) (hc:c≤c') (hh:∀ k,o0 go stm which vals k→h' k=h k):PlO h' c' go st l stm which vals:=by
 obtain ⟨⟨a,b,d,x1⟩,x2,x3,x4,x5,x6,x7,x8⟩:=x
 exact ⟨⟨a,b,d,(hh go (.inl rfl)).trans x1⟩,x2.frame fun k hk=>hh k (.inr (.inl hk)),x3.frame fun k hk=>hh k (.inr (.inr (.inl hk))),x4.frame fun k hk=>hh k (.inr (.inr (.inr hk))),by omega,fun k hk=>by have:=x6 k hk; omega,fun k hk=>by have:=x7 k hk; omega,fun k hk=>by have:=x8 k hk; omega⟩
theorem PlO.plt {h:Heap} {c go:Nat} {st:List (Wb.Step×List Wb.Step)} {l:List Inst} {stm which vals:AV} (x:PlO h c go st l stm which vals) {k:Nat} (hk:o0 go stm which vals k):k<c:=by
 rcases hk with rfl | hk | hk | hk
 ·exact x.goc
 ·exact x.sb k hk
 ·exact x.wb k hk
 ·exact x.vb k hk
def fM (i:Nat) (u:Bool×Wb.Spot):List AV:=br i u.1 u.2
theorem vi (A:List Wb.Array) (hA:gT A) (M:Mem) (hM:eG M) (st:List (Wb.Step×List Wb.Step)) (l:List Inst) (stm which vals:AV) (go i:Nat) (I:Inst) (hI:l[i]?=some I) (hIo:InstOk A st I) (hst:∀ y∈st,y.2.length≤1000000):∀ (N:Nat) (x:Wb.Expr),SizeOf.sizeOf x≤N→cA A x→∀ (us:List (Bool×Wb.Spot)) (g b:Nat) (G:List Nat) (rv:AV) (h0:Heap) (c0:Nat),aW x≤us.length→(∀ u∈us,kw A u.2)→MemAt h0 c0 g A M G→PlO h0 c0 go st l stm which vals→b<c0→b≠g→b∉G→¬o0 go stm which vals b→h0 b=some (.row 1 [[rv]] .live none)→RdAt h0 4 rv (us.map (fM i))→(∀ k,aq rv k→k<c0∧k≠b) →
  ACalls Pg Fn94.n [.ptr go 0 0,.int i,x.av,.map g,.ptr b 0 0] ⟨h0,c0⟩ fun av s'=>av=.int (cg M (aB I.env) x (us.map (·.2))).1∧∃ rv',s'.h b=some (.row 1 [[rv']] .live none)∧RdAt s'.h 4 rv' ((us.drop (aW x)).map (fM i))∧(∀ k,aq rv' k→aq rv k)∧∀ k,k<c0→k≠b→s'.h k=h0 k:=by
 intro N
 induction N with
 | zero=>intro x hx; obtain ⟨_,_,_,_,_,_⟩:=x; simp at hx
 | succ N ih=>
  intro x hx hok us g b G rv h0 c0 hnr hus hm hp hbc hbg hbG hbp hb hrd hrv
  obtain ⟨op,n,form,array,subs,args⟩:=x
  rw [Expr.av_mk]
  refine Fn94.calls .keep ?_
  unfold Fn94.ac
  have hbc0:¬b=c0:=by omega
  have hgc:=hm.gc
  obtain ⟨hb1,hhb1⟩:∃ hb1,hb1=upd h0 c0 (some (.row 7 [[.int op,.int n,.int form.const,row (form.terms.map Term.cells),.str array,row (subs.map Form.cells),row (args.map Expr.cells)]] .live none)):=⟨_,rfl⟩
  have hlow:∀ k,k<c0→hb1 k=h0 k:=fun k hk=>by rw [hhb1,ad (by omega)]
  have hbx:=(congrFun hhb1 c0).trans ah
  have b1:=(hlow b hbc).trans hb
  have m1:MemAt hb1 (c0+1) g A M G:=hm.frame (Nat.le_succ _) fun k hk=>hlow k (hk.elim (fun h=>by omega) fun h=>(hm.lt k h).1)
  have p1:PlO hb1 (c0+1) go st l stm which vals:=hp.re (Nat.le_succ _) fun k hk=>hlow k (hp.plt hk)
  have r1:RdAt hb1 4 rv (us.map (fM i)):=hrd.frame fun k hk=>hlow k (hrv k hk).1
  have hφ:=co hIo.env
  simp only [cA] at hok
  by_cases h1:op=1
  ·subst h1
   have hn0:aW (.mk 1 n form array subs args)=0:=by
    rcases hok with h | h | h | h
    ·rw [h.2.1]; simp [aW,bg]
    ·omega
    ·omega
    ·omega
   simp [←hhb1,hbx]
   refine ⟨by simp [cg],rv,b1,by rw [hn0]; exact r1,fun k hk=>hk,fun k hk _=>hlow k hk⟩
  by_cases h2:op=2
  ·subst h2
   have hf:OkForm form∧args=[]:=by
    rcases hok with h | h | h | h
    ·omega
    ·exact ⟨h.2.2,h.2.1⟩
    ·omega
    ·omega
   have hn0:aW (.mk 2 n form array subs args)=0:=by rw [hf.2]; simp [aW,bg]
   have hva:=pg A st l stm which vals go i I hI hIo hst form hf.1 hb1 (c0+1) p1
   rw [Form.av,Form.cells] at hva
   simp [←hhb1,hbx]
   refine ACalls.at hva fun c2 hc2=>?_
   simp
   refine ACalls.pure (jt _) fun c3 hc3=>?_
   simp
   exact ⟨by simp [cg],rv,b1,by rw [hn0]; exact r1,fun k hk=>hk,fun k hk _=>hlow k hk⟩
  by_cases h3:op=3
  ·subst h3
   have hn1:aW (.mk 3 n form array subs args)=1:=by simp [aW]
   obtain ⟨u,us',rfl⟩:∃ u us',us=u::us':=by
    cases us with
    | nil=>rw [hn1] at hnr; simp at hnr
    | cons u us'=>exact ⟨u,us',rfl⟩
   obtain ⟨gr,all,off,st',u1,u2,u3,u4⟩:=r1.head
   rw [List.length_map] at u1 u4
   subst u1
   have hgr:=hrv gr (an.2 rfl)
   simp only [fM,br] at u3
   obtain ⟨j,a,gi,nn,t1,t2,t3,t4,t5,t6,_,t8⟩:=m1.spot hA (hus u List.mem_cons_self)
   rw [t4] at u3
   obtain ⟨h2',hh2⟩:∃ h2',h2'=upd hb1 (c0+1) (some (.row 4 [[.int i,.bool u.1,.str u.2.array,.int nn]] .live none)):=⟨_,rfl⟩
   have k2:∀ k,k<c0+1→h2' k=hb1 k:=fun k hk=>by rw [hh2,ad (by omega)]
   have bx2:=(congrFun hh2 (c0+1)).trans ah
   have b2:=(k2 b (by omega)).trans b1
   obtain ⟨h3',hh3⟩:∃ h3',h3'=upd h2' b (some (.row 1 [[.row gr 4 (off+1) us'.length]] .live none)):=⟨_,rfl⟩
   have k3:∀ k,k≠b→h3' k=h2' k:=fun k hk=>by rw [hh3,ad hk]
   have bx3:=(k3 (c0+1) (by omega)).trans bx2
   have m3:MemAt h3' (c0+1+1) g A M G:=m1.frame (Nat.le_succ _) fun k hk=>by
    rcases hk with rfl | hk
    ·exact (k3 _ (Ne.symm hbg)).trans (k2 _ (by omega))
    ·exact (k3 k (fun e=>hbG (e▸hk))).trans (k2 k (m1.lt k hk).1)
   have t7:=m3.rows j a gi t1 t2
   obtain ⟨ver,hmap⟩:=m3.map
   have hlk:=gB ep (f:=fun v:AV=>v) (z:=.nil) (ok:=false) (s:=⟨h3',c0+1+1⟩) hmap u.2.array
   rw [t6] at hlk
   obtain ⟨K,hK⟩:∃ K,K=(bJ a.sizes).toNat:=⟨_,rfl⟩
   rw [←hK] at hlk t5
   have hs1:srI 4 (.row gr 4 off (us'.length+1)) (some (.int 1)) none none=some (.row gr 4 (off+1) us'.length):=by
    have h1:(1:Int)≤(us'.length:Int)+1:=by omega
    simp [srI,bnd,h1]
   simp [←hhb1,hbx,b1,u2,u3,←hh2,b2,hs1,←hh3,bx3,hlk,t5,t7,t8]
   refine ⟨by simp [cg],.row gr 4 (off+1) us'.length,(congrFun hh3 b).trans ah,?_,fun k hk=>an.2 (an.1 hk),fun k hk hkb=>(k3 k hkb).trans ((k2 k (by omega)).trans (hlow k hk))⟩
   rw [hn1]
   refine RdAt.frame (h:=hb1) (by simpa using u4) fun k hk=>?_
   have:=an.1 hk
   subst this
   exact (k3 _ hgr.2).trans (k2 _ (by omega))
  have hargs:args.length=2∧cT A args:=by
   rcases hok with h | h | h | h
   ·omega
   ·omega
   ·omega
   ·exact h.2.2
  obtain ⟨xa,xb,rfl⟩:∃ xa xb,args=[xa,xb]:=by
   match args,hargs.1 with
   | [xa,xb],_=>exact ⟨xa,xb,rfl⟩
  simp only [cT] at hargs
  have hsz:SizeOf.sizeOf xa≤N∧SizeOf.sizeOf xb≤N:=by simp at hx; omega
  have hnrs:aW (.mk op n form array subs [xa,xb])=aW xa+aW xb:=by simp [aW,bg,h3]
  rw [hnrs] at hnr
  obtain ⟨φ,hφ'⟩:∃ φ,φ=aB I.env:=⟨_,rfl⟩
  rw [←hφ'] at ih ⊢
  have hevd:cg M φ (.mk op n form array subs [xa,xb]) (us.map (·.2))=(kS op [(cg M φ xa (us.map (·.2))).1,(cg M φ xb (cg M φ xa (us.map (·.2))).2).1],(cg M φ xb (cg M φ xa (us.map (·.2))).2).2):=by
   simp only [cg,if_neg h1,if_neg h2,if_neg h3,fF]
  rw [hevd,hnrs]
  simp only [List.map_cons,List.map_nil] at hhb1 hbx
  simp [h1,h2,h3,←hhb1,hbx]
  have bda:=iP hM φ hargs.2.1 (us.map (·.2))
  have hleft:=gV M φ xa (us.map (·.2)) hargs.2.1
  rw [←List.map_drop] at hleft
  have ha:=ih xa hsz.1 hargs.2.1 us g b G rv hb1 (c0+1) (by omega) hus m1 p1 (by omega) hbg hbG hbp b1 r1 (fun k hk=>by have:=hrv k hk; omega)
  obtain ⟨ea,hea⟩:∃ ea,ea=cg M φ xa (us.map (·.2)):=⟨_,rfl⟩
  rw [←hea] at ha bda hleft ⊢
  have hca:Expr.av xa=.agg xa.cells:=rfl
  have hcb:Expr.av xb=.agg xb.cells:=rfl
  have l7:∀ y:Wb.Expr,y.cells.length=7:=fun y=>by obtain ⟨_,_,_,_,_,_⟩:=y; rfl
  have t7:∀ y:Wb.Expr,y.cells.take 7=y.cells:=fun y=>List.take_of_length_le (by rw [l7]; omega)
  rw [hca] at ha
  simp [l7,t7]
  refine ha.mono ?_
  rintro av ⟨h5,c5⟩ hc5 ⟨rfl,rv5,z1,z2,z3,z4⟩
  simp only at hc5 z1 z2 z4
  have bx5:=(z4 c0 (Nat.lt_succ_self _) (Ne.symm hbc0)).trans hbx
  have m5:MemAt h5 c5 g A M G:=m1.frame hc5 fun k hk=>by
   rcases hk with rfl | hk
   ·exact z4 _ (by omega) (Ne.symm hbg)
   ·exact z4 k (m1.lt k hk).1 fun e=>hbG (e▸hk)
  have p5:PlO h5 c5 go st l stm which vals:=p1.re hc5 fun k hk=>z4 k (p1.plt hk) fun e=>hbp (e▸hk)
  have hb':=ih xb hsz.2 hargs.2.2.1 (us.drop (aW xa)) g b G rv5 h5 c5 (by rw [List.length_drop]; omega) (fun u hu=>hus u (List.mem_of_mem_drop hu)) m5 p5 (by omega) hbg hbG hbp z1 z2 (fun k hk=>by have:=hrv k (z3 k hk); omega)
  rw [←hleft] at hb'
  have bdb:=iP hM φ hargs.2.2.1 ea.2
  obtain ⟨eb,heb⟩:∃ eb,eb=cg M φ xb ea.2:=⟨_,rfl⟩
  rw [←heb] at bdb hb' ⊢
  rw [hcb] at hb'
  simp [bx5,l7,t7]
  refine hb'.mono ?_
  rintro av ⟨h6,c6⟩ hc6 ⟨rfl,rv6,q1,q2,q3,q4⟩
  simp only at hc6 q1 q2 q4
  have bx6:=(q4 c0 (by omega) (Ne.symm hbc0)).trans bx5
  rw [List.drop_drop] at q2
  have hfin:∃ rv',h6 b=some (.row 1 [[rv']] .live none)∧RdAt h6 4 rv' ((us.drop (aW xa+aW xb)).map (fM i))∧(∀ k,aq rv' k→aq rv k)∧∀ k,k<c0→k≠b→h6 k=h0 k:=
   ⟨rv6,q1,q2,fun k hk=>z3 k (q3 k hk),fun k hk hkb=>(q4 k (by omega) hkb).trans ((z4 k (by omega) hkb).trans (hlow k hk))⟩
  simp only [List.map_drop] at hfin
  by_cases h4:op=4
  ·subst h4
   have hw:=ae (x:=ea.1+eb.1) (by omega) (by omega)
   simp [bx6,hw]
   refine ACalls.pure (jt _) fun c7 hc7=>?_
   simp
   exact ⟨by simp [kS],hfin⟩
  by_cases h5:op=5
  ·subst h5
   have hw:=ae (x:=ea.1-eb.1) (by omega) (by omega)
   simp [bx6,hw]
   refine ACalls.pure (jt _) fun c7 hc7=>?_
   simp
   exact ⟨by simp [kS],hfin⟩
  have hmul:0≤ea.1*eb.1∧ea.1*eb.1≤1000002*1000002:=⟨Int.mul_nonneg bda.1 bdb.1,Int.mul_le_mul bda.2 bdb.2 bdb.1 (by decide)⟩
  have hw:=ae (x:=ea.1*eb.1) (by omega) (by omega)
  simp [bx6,h4,h5,hw]
  refine ACalls.pure (jt _) fun c7 hc7=>?_
  simp
  exact ⟨by simp [kS,h4,h5],hfin⟩
end Go.Proofs.YtocppbmmfklbmaaGreat
set_option maxRecDepth 20000
set_option maxHeartbeats 4000000
namespace Go.Proofs.YtocppbmmfklbmaaGreat
open Go.AM Go.Wb
def fi (A:List Wb.Array) (x:Inst):List (Bool×Wb.Spot):=(x.reads A).map (fun s=>(false,s))++[(true,x.sets A)]
theorem tN (A:List Wb.Array) (i:Nat) (x:Inst):fB A i x=(fi A x).map (fM i):=by simp [fB,fi,fM]
theorem qp (A:List Wb.Array) (x:Inst):(fi A x).length=(x.reads A).length+1:=by simp [fi]
theorem uz (A:List Wb.Array) (x:Inst):(fi A x).map (·.2)=x.reads A++[x.sets A]:=by simp [fi,Function.comp_def]
def ng (go:Nat) (stm which vals acc frm:AV) (k:Nat):Prop:=o0 go stm which vals k∨aq acc k∨aq frm k
theorem RanAt.re {h h':Heap} {c c' go:Nat} {p:Wb.Prog} {stm which vals rnd acc frm:AV} (x:RanAt h c go p stm which vals rnd acc frm) (hc:c≤c') (hh:∀ k,ng go stm which vals acc frm k→h' k=h k):RanAt h' c' go p stm which vals rnd acc frm:=
 ⟨x.plo.re hc fun k hk=>hh k (.inl hk),(hh go (.inl (.inl rfl))).trans x.obj,x.hacc.frame fun k hk=>hh k (.inr (.inl hk)),x.hfrm.frame fun k hk=>hh k (.inr (.inr hk)),fun k hk=>by have:=x.ab k hk; omega,fun k hk=>by have:=x.fb k hk; omega⟩
theorem RanAt.lt {h:Heap} {c go:Nat} {p:Wb.Prog} {stm which vals rnd acc frm:AV} (x:RanAt h c go p stm which vals rnd acc frm) {k:Nat} (hk:ng go stm which vals acc frm k):k<c:=by
 rcases hk with hk | hk | hk
 ·exact x.plo.plt hk
 ·exact x.ab k hk
 ·exact x.fb k hk
theorem vh (p:Wb.Prog) (hp:Right p) (stm which vals rnd acc frm:AV) (go i:Nat) (x:Inst) (hx:(au p).2.l[i]?=some x) (hmany:cu p.arrays (au p).2.l≤200000) (h0:Heap) (c0:Nat) (hr:RanAt h0 c0 go p stm which vals rnd acc frm) :
  ACalls Pg Fn93.n [.ptr go 0 0,.int i] ⟨h0,c0⟩ fun av s'=>s'.h=h0∧∃ ga off,av=.row ga 4 off (fi p.arrays x).length∧aq acc ga∧RdAt h0 4 av ((fi p.arrays x).map (fM i)):=by
 refine Fn93.calls .keep ?_
 unfold Fn93.ac
 obtain ⟨l,hl⟩:∃ l,l=(au p).2.l:=⟨_,rfl⟩
 obtain ⟨r1,r2,r3,r4,r5,r6⟩:=hr
 have hin:=dL hp
 rw [←hl] at hx hmany r1 r3 r4 hin
 obtain ⟨hi,hxe⟩:=List.getElem?_eq_some_iff.1 hx
 have hsplit:l=l.take i++x::l.drop (i+1):=by
  rw [←hxe,←List.drop_eq_getElem_cons hi,List.take_append_drop]
 have hlti:(l.take i).length=i:=by rw [List.length_take]; omega
 obtain ⟨o,ho⟩:∃ o,o=(ca p.arrays 0 (l.take i)).length:=⟨_,rfl⟩
 have hacc:ca p.arrays 0 l=ca p.arrays 0 (l.take i)++(fB p.arrays i x++ca p.arrays (i+1) (l.drop (i+1))):=by
  conv=>lhs; rw [hsplit]
  rw [jw,Nat.zero_add,hlti]; rfl
 have hfrm:(eu p.arrays 0 l)[i]?=some (o:Int):=by
  rw [hsplit,kK p.arrays 0 0,Nat.zero_add,List.getElem?_append_right (by rw [gA,hlti]; omega),gA,hlti,Nat.sub_self,←ho]; rfl
 have hlenA:(ca p.arrays 0 l).length≤200000:=by have:=jx p.arrays 0 l; omega
 have hlen2:o+((x.reads p.arrays).length+1)≤(ca p.arrays 0 l).length:=by rw [hacc]; simp only [List.length_append,ky]; omega
 have hxo:=hin x (List.mem_of_getElem? hx)
 obtain ⟨lps,hat,hnm⟩:=hxo.at_
 obtain ⟨hnl,hne⟩:=List.getElem?_eq_some_iff.1 hat
 obtain ⟨gf,f1,f2⟩:=r4.at (i:=i) (by simp [ak,gA]; exact hi)
 obtain ⟨ga,a1,a2⟩:=r3.at (i:=o) (by omega)
 obtain ⟨gs,s1,s2⟩:=r1.hstm.at (i:=x.num) (by simpa using hnl)
 obtain ⟨gw,w1,w2⟩:=r1.hwhich.at (i:=i) (by simpa [ak] using hi)
 have el1:((bv [] p.steps).map stCells).length=(bv [] p.steps).length:=by simp
 have el2:(ak (l.map fun i=>(i.num:Int))).length=l.length:=by simp [ak]
 have el3:(ak (eu p.arrays 0 l)).length=l.length:=by simp [ak,gA]
 rw [el1] at s1
 rw [el2] at w1
 rw [el3] at f1
 rw [s1,w1,f1,a1] at r2
 have hgw:(ak (l.map fun i=>(i.num:Int)))[i]?=some [.int x.num]:=by simp [ak,hi,hxe]
 have hgf:(ak (eu p.arrays 0 l))[i]?=some [.int o]:=by unfold ak; rw [List.getElem?_map,hfrm]; rfl
 have hst16:(stCells (x.step,lps))[16]?=some (row ((cI (Step.expr x.step)).map Expr.cells)):=by
  unfold stCells
  rw [List.getElem?_append_right (by rw [dI]; omega),dI]; rfl
 have hrl:(cI (Step.expr x.step)).length=(x.reads p.arrays).length:=by unfold Inst.reads; rw [eg,hH]
 obtain ⟨R,hR⟩:∃ R,R=(x.reads p.arrays).length:=⟨_,rfl⟩
 rw [←hR] at hlen2 hrl
 have hw1:=ae (x:=(o:Int)+R) (by omega) (by omega)
 have hw2:=ae (x:=(o:Int)+R+1) (by omega) (by omega)
 obtain ⟨K,hK⟩:∃ K,K=(ca p.arrays 0 l).length:=⟨_,rfl⟩
 rw [←hK] at hlen2 r2 a1 hlenA
 have hsr:srI 4 (.row ga 4 0 K) (some (.int o)) (some (.int ((o:Int)+R+1))) none=some (.row ga 4 o (R+1)):=by
  have h1:(o:Int)≤(o:Int)+R+1:=by omega
  have h2:(o:Int)+R+1≤K:=by omega
  have h3:0≤(o:Int)+R+1:=by omega
  have h4:((o:Int)+R+1).toNat=o+R+1:=by omega
  simp [srI,bnd,h1,h2,h3,h4]
  try omega
 simp [r2,hi,f2,hgf,w2,hgw,hnl,s2,hne,hst16,hrl,hw1,hw2,hsr]
 have hul:(fi p.arrays x).length=R+1:=by rw [qp,hR]
 refine ⟨ga,⟨rfl,hul.symm⟩,by rw [a1]; exact an.2 rfl,ga,_,o,.live,by rw [List.length_map,hul],a2,?_,by rw [List.length_map,hul,←hK]; exact hlen2⟩
 rw [hacc,ho,List.drop_left,tN,List.take_left]
mutual
theorem mS (M:Mem) (φ:ByteArray→Int) {A:List Wb.Array}:∀ (e:Wb.Expr) (rs t:List Wb.Spot),cA A e→aW e≤rs.length→(cg M φ e (rs++t)).1=(cg M φ e rs).1
 | .mk op n form array subs args,rs,t,h,hn=>by
  simp only [cA] at h
  simp only [cg]
  split
  ·rfl
  ·split
   ·rfl
   ·split
    ·rename_i h3
     cases rs with
     | nil=>simp [aW,h3] at hn
     | cons r rs=>rfl
    ·rename_i h1 h2 h3
     simp only [aW,if_neg h3] at hn
     have ha:cT A args:=by
      rcases h with h | h | h | h
      ·exact absurd h.1 h1
      ·exact absurd h.1 h2
      ·exact absurd h.1 h3
      ·exact h.2.2.2
     simp only [mR M φ args rs t ha hn]
theorem mR (M:Mem) (φ:ByteArray→Int) {A:List Wb.Array}:∀ (l:List Wb.Expr) (rs t:List Wb.Spot),cT A l→bg l≤rs.length→(fF M φ l (rs++t)).1=(fF M φ l rs).1
 | [],_,_,_,_=>rfl
 | e::es,rs,t,h,hn=>by
  simp only [cT] at h
  simp only [bg] at hn
  simp only [fF]
  rw [mS M φ e rs t h.1 (by omega),gV M φ e _ h.1,gV M φ e _ h.1,List.drop_append_of_le_length (by omega),mR M φ es _ t h.2 (by rw [List.length_drop]; omega)]
end
theorem uT (p:Wb.Prog) (hp:Right p) (hc:aA p.steps≤300) (M:Mem) (hM:eG M) (stm which vals rnd acc frm:AV) (go i g:Nat) (G:List Nat) (x:Inst) (hx:(au p).2.l[i]?=some x) (hxk:x.ok p.arrays=true) (hmany:cu p.arrays (au p).2.l≤200000) (h0:Heap) (c0:Nat) (hr:RanAt h0 c0 go p stm which vals rnd acc frm) (hm:MemAt h0 c0 g p.arrays M G) (hsep:∀ gi,gi∈G→¬ng go stm which vals acc frm gi) :
  ACalls Pg Fn49.n [.ptr go 0 0,.int i,.map g] ⟨h0,c0⟩ fun av s'=>MemAt s'.h s'.c g p.arrays (iM p.arrays M x) G∧∀ k,k<c0→k∉G→s'.h k=h0 k:=by
 have hin:=dL hp x (List.mem_of_getElem? hx)
 have hio:=Inst.ok_in hp.arrays hin hxk
 refine Fn49.calls .keep ?_
 unfold Fn49.ac
 simp
 refine (vh p hp stm which vals rnd acc frm go i x hx hmany h0 c0 hr).mono ?_
 rintro av ⟨h1,c1⟩ hc1 ⟨hh,ga,off,rfl,hga,hrd⟩
 simp only at hh hc1
 subst hh
 obtain ⟨n,hn⟩:∃ n,n=(x.reads p.arrays).length:=⟨_,rfl⟩
 have hul:(fi p.arrays x).length=n+1:=by rw [qp,hn]
 have hrd':=hrd
 obtain ⟨ga',all,off',st',q1,q2,q3,q4⟩:=hrd
 rw [List.length_map,hul] at q1 q3 q4
 injection q1 with e1 e2 e3 e4
 subst e1; subst e3
 have hlastc:all[off+n]?=some (br i true (x.sets p.arrays)):=by
  have h1:((all.drop off).take (n+1))[n]?=((fi p.arrays x).map (fM i))[n]?:=by rw [q3]
  rw [List.getElem?_take_of_lt (by omega),List.getElem?_drop] at h1
  rw [h1]
  unfold fi
  rw [List.map_append,List.getElem?_append_right (by simp [hn]),List.length_map,List.length_map,←hn,Nat.sub_self]
  rfl
 obtain ⟨s,hs⟩:∃ s,s=x.sets p.arrays:=⟨_,rfl⟩
 rw [←hs] at hlastc
 have hsin:=hio.2
 rw [←hs] at hsin
 rw [hul]
 simp only [br] at hlastc
 have hn4:n≤4096:=by rw [hn]; unfold Inst.reads; rw [eg]; exact hin.nr
 have hwn:=ae (x:=(n:Int)) (by omega) (by omega)
 obtain ⟨j,a,gi,nn,t1,t2,t3,t4,t5,t6,t7,t8⟩:=hm.spot hp.apart hsin
 rw [t4] at hlastc
 have hgalt:ga<c0:=hr.lt (.inr (.inl hga))
 have hgilt:=hm.lt gi (List.mem_of_getElem? t2)
 have hgc:=hm.gc
 obtain ⟨h2,hh2⟩:∃ h2,h2=upd h1 c1 (some (.row 1 [[.row ga 4 off (n+1)]] .live none)):=⟨_,rfl⟩
 obtain ⟨h3,hh3⟩:∃ h3,h3=upd h2 (c1+1) (some (.row 4 [[.int i,.bool true,.str s.array,.int nn]] .live none)):=⟨_,rfl⟩
 have k2:∀ k,k<c1→h2 k=h1 k:=fun k hk=>by rw [hh2,ad (by omega)]
 have k3:∀ k,k<c1+1→h3 k=h2 k:=fun k hk=>by rw [hh3,ad (by omega)]
 have bx2:=(congrFun hh2 c1).trans ah
 have bx3:=(k3 c1 (by omega)).trans bx2
 have by3:=(congrFun hh3 (c1+1)).trans ah
 have ga2:=(k2 ga (by omega)).trans q2
 have hr3:RanAt h3 (c1+1+1) go p stm which vals rnd acc frm:=hr.re (by omega) fun k hk=>by have:=hr.lt hk; rw [k3 k (by omega),k2 k (by omega)]
 have hm3:MemAt h3 (c1+1+1) g p.arrays M G:=hm.frame (by omega) fun k hk=>by
  have:k<c0:=hk.elim (fun h=>by omega) fun h=>(hm.lt k h).1
  rw [k3 k (by omega),k2 k (by omega)]
 obtain ⟨l,hl⟩:∃ l,l=(au p).2.l:=⟨_,rfl⟩
 have hro:=hr3.obj
 have hplo:=hr3.plo
 rw [←hl] at hx hplo
 obtain ⟨hi,hxe⟩:=List.getElem?_eq_some_iff.1 hx
 obtain ⟨lps,hat,hnm⟩:=hin.at_
 obtain ⟨hnl,hne⟩:=List.getElem?_eq_some_iff.1 hat
 obtain ⟨gs,s1,s2⟩:=hplo.hstm.at (i:=x.num) (by simpa using hnl)
 obtain ⟨gw,w1,w2⟩:=hplo.hwhich.at (i:=i) (by simpa [ak] using hi)
 have el1:((bv [] p.steps).map stCells).length=(bv [] p.steps).length:=by simp
 have el2:(ak (l.map fun i=>(i.num:Int))).length=l.length:=by simp [ak]
 rw [el1] at s1
 rw [el2] at w1
 have hro':=hro
 rw [s1,w1] at hro
 have hgw:(ak (l.map fun i=>(i.num:Int)))[i]?=some [.int x.num]:=by simp [ak,hi,hxe]
 obtain ⟨X,hX⟩:∃ X,X=x.step:=⟨_,rfl⟩
 rw [←hX] at hne
 obtain ⟨ex,hex⟩:∃ ex,ex=Step.expr x.step:=⟨_,rfl⟩
 have hexo:=hin.expr
 have hnrx:aW ex≤n:=by rw [hn,hex]; unfold Inst.reads; rw [eg]; exact Nat.le_refl _
 rw [←hex] at hexo
 have l7:ex.cells.length=7:=by obtain ⟨_,_,_,_,_,_⟩:=ex; rfl
 have hst8:((stCells (X,lps)).drop 8).take 7=ex.cells∧8+7≤(stCells (X,lps)).length:=by
  rw [hex,←hX]
  obtain ⟨kind,name,low,high,conds,body,array,subs,⟨op,n2,form,ea,es2,args⟩⟩:=X
  simp [stCells,Step.cells_mk,Step.expr,Expr.cells_mk]
 have hst8b:15≤(stCells (X,lps)).length:=hst8.2
 have hev:=vi p.arrays hp.apart M hM (bv [] p.steps) l stm which vals go i x hx hin (fun y hy=>by have:=ko _ y hy; omega) _ ex (Nat.le_refl _) hexo (fi p.arrays x) g c1 G (.row ga 4 off (n+1)) h3 (c1+1+1) (by rw [hul]; omega) (fun u hu=>by
  unfold fi at hu
  rcases List.mem_append.1 hu with hu | hu
  ·obtain ⟨y,hy,rfl⟩:=List.mem_map.1 hu
   exact hio.1 y hy
  ·rw [List.mem_singleton.1 hu]; exact hio.2) hm3 hplo (by omega) (by omega) (fun hg=>by have:=(hm.lt c1 hg).1; omega) (fun hk=>by have:=hr.plo.plt hk; omega) bx3 (by rw [←hul]; exact (by rw [hul] at hrd' ⊢; exact hrd'.frame fun k hk=>by have:=an.1 hk; subst this; rw [k3 _ (by omega),k2 _ (by omega)])) (fun k hk=>by have:=an.1 hk; omega)
 have hcx:ex.av=.agg ex.cells:=rfl
 rw [hcx] at hev
 have hval:(cg M (aB x.env) ex ((fi p.arrays x).map (·.2))).1=(cg M (aB x.env) ex (x.reads p.arrays)).1:=by
  rw [uz]
  exact mS M (aB x.env) ex (x.reads p.arrays) [x.sets p.arrays] hexo (by omega)
 rw [hval] at hev
 have hoff:((off:Int)+n).toNat=off+n:=by omega
 have hnn1:(n:Int)<(n:Int)+1:=by omega
 simp [bx2,hwn,hnn1,ga2,hlastc,hh2.symm]
 rw [←hh3]
 simp [hro,hi,w2,hgw,hnl,s2,hne,hst8.1,hst8b]
 refine hev.mono ?_
 rintro av ⟨h4,c4⟩ hc4 ⟨rfl,rv',z1,z2,z3,z4⟩
 simp only at hc4 z1 z2 z4
 obtain ⟨v,hv⟩:∃ v,v=(cg M (aB x.env) ex (x.reads p.arrays)).1:=⟨_,rfl⟩
 rw [←hv]
 have by4:=(z4 (c1+1) (by omega) (by omega)).trans by3
 have hm4:MemAt h4 c4 g p.arrays M G:=hm3.frame hc4 fun k hk=>by
  have:k<c0:=hk.elim (fun h=>by omega) fun h=>(hm.lt k h).1
  exact z4 k (by omega) (by omega)
 obtain ⟨ver,hmap⟩:=hm4.map
 have hlk:=gB ep (f:=fun v:AV=>v) (z:=.nil) (ok:=false) (s:=⟨h4,c4⟩) hmap s.array
 rw [t6] at hlk
 have t7':=hm4.rows j a gi t1 t2
 have hset:=hm4.set hp.apart t1 t2 t3 t4 t5 v
 obtain ⟨K,hK⟩:∃ K,K=(bJ a.sizes).toNat:=⟨_,rfl⟩
 rw [←hK] at hlk t5
 simp [by4,hlk,t5,t7',t8]
 have hstep:iM p.arrays M x=fun s'=>if s'=s then v else M s':=by
  funext s'
  unfold iM
  rw [←hs,hv,hex]
 rw [hstep]
 refine ⟨hset,fun k hk hkG=>?_⟩
 have hki:k≠gi:=by
  rintro rfl
  exact hkG (List.mem_of_getElem? t2)
 rw [ad hki,z4 k (by omega) (by omega),k3 k (by omega),k2 k (by omega)]
end Go.Proofs.YtocppbmmfklbmaaGreat
set_option maxRecDepth 20000
set_option maxHeartbeats 4000000
namespace Go.Proofs.YtocppbmmfklbmaaGreat
open Go.AM Go.Wb
@[simp] theorem vu (l:List Int):(ak l).length=l.length:=by simp [ak]
@[simp] theorem yZ (l:List Int) (i:Nat) (h:i<(ak l).length):(ak l)[i]=[.int (l[i]'(by simpa using h))]:=by simp [ak]
theorem qx {n:Int} {r:List Int} (hn:1≤n) (hr:∀ z∈r,1≤z) (hc:r.foldl (·*·) n≤20000):n≤20000:=by
 rw [kI] at hc
 have:=iE r hr
 have h2:n*1≤n*r.foldl (·*·) 1:=Int.mul_le_mul_of_nonneg_left this (by omega)
 omega
theorem qN (a:Wb.Array) (ha:OkArray a):aO Pg Fn90.n [.agg a.cells] (.int (bJ a.sizes)):=by
 rintro ⟨h0,c0⟩
 refine Fn90.calls .frz ?_
 unfold Fn90.ac
 have hl4:=ha.len
 have hc:=ha.cells
 simp [Array.cells]
 obtain ⟨Inv,hInv⟩:∃ Inv:Nat→List Int→Slots→St→Prop,Inv=fun (i:Nat) r sl s'=>∃ n:Int,sl 3=.int n∧r.foldl (·*·) n=bJ a.sizes∧1≤n:=⟨_,rfl⟩
 refine bh 9 Fn90.W0 a.sizes Inv (by rfl) (by rfl) ?_ ?_ ?_
 ·rw [hInv]; exact ⟨by simp,1,by simp,rfl,by omega⟩
 ·intro v h c hv hF hI
  rw [hInv] at hI
  obtain ⟨n,h3,h4,h5⟩:=hI
  simp at h3
  simp only [List.foldl_nil] at h4
  simp [hv,h3,h4]
  exact aE fun k hk=>by rw [hF.h k (by omega),ad (by omega)]
 ·intro i z zs v h c hi hz hl hv hF hI
  rw [hInv] at hI
  obtain ⟨n,h3,h4,h5⟩:=hI
  simp at h3
  simp only [List.foldl_cons] at h4
  have hzz:=(ha.sizes z (ba hl)).1
  have h1:1≤n*z:=Int.le_trans (by omega) (Int.mul_le_mul h5 hzz (by omega) (by omega))
  have hb:=qx h1 (fun y hy=>(ha.sizes y (by rw [hl]; exact List.mem_append_right _ (List.mem_cons_of_mem _ hy))).1) (by rw [h4]; exact hc)
  have hw:=ae (x:=n*z) (by omega) (by omega)
  have hwi:=ae (x:=(i:Int)+1) (by omega) (by omega)
  have hzi:(ak a.sizes)[i]?=some [.int z]:=by simp [ak,hi,hz]
  simp [hv,hi,hzi,h3,hw,hwi,hz]
  refine ⟨hF,?_⟩
  rw [hInv]
  exact ⟨n*z,by simp,h4,h1⟩
end Go.Proofs.YtocppbmmfklbmaaGreat
set_option maxRecDepth 20000
set_option maxHeartbeats 4000000
namespace Go.Proofs.YtocppbmmfklbmaaGreat
open Go.AM Go.Wb
def kU (v:Int):Bool:=!decide (0≤v∧v≤1000002)
def cV (A:List Wb.Array):ByteArray→List Wb.Grid→Int
 | _,[]=>0
 | last,g::gs=>if bQ g.key=false then 5 else if sle g.key last=true then 7 else if bD A g.key<0 then 8 else if (g.values.length:Int)≠bJ (dV A g.key) then 3 else if g.values.any kU=true then 1 else cV A g.key gs
theorem vk (l:List Int) (f:Nat) (p:Int→Bool) (h:Heap) (c:Nat) (hp:l9 f [] [] AV.int h c p l) :
  ACalls Pg Fn96.n [row (ak l),.fn (.func f) [] []] ⟨h,c⟩ fun av s'=>av=.int (aR p l 0)∧s'.h=h:=by
 refine ACalls.small fun hs=>?_
 have hlen:l.length≤68719476736:=by simp at hs; exact hs.1
 refine Fn96.calls .frz ?_
 unfold Fn96.ac
 simp
 refine bU 8 Fn96.W0 l (fun i r sl=>aR p l 0=aR p r i) (by rfl) (by rfl) ?_ ?_ ?_
 ·simp
 ·intro v c1 hv hc hI
  simp [hv,hI,aR]
 ·intro i x xs v c1 hi hx hl hv hc hI
  have hw:=ae (x:=(i:Int)+1) (by omega) (by omega)
  have hpx:=hp x (ba hl) c1 hc
  simp [hv,hi,hx]
  refine ACalls.at hpx fun c2 hc2=>?_
  by_cases hpx:p x=true
  ·simp [hpx,hI,aR]
  ·simp [hpx,hv,hw,hI,aR]; omega
theorem uV (l:List Int) (f:Nat) (p:Int→Bool) (h:Heap) (c:Nat) (hp:l9 f [] [] AV.int h c p l) :
  ACalls Pg Fn53.n [row (ak l),.fn (.func f) [] []] ⟨h,c⟩ fun av s'=>av=.bool (l.any p)∧s'.h=h:=by
 refine Fn53.calls .frz ?_
 unfold Fn53.ac
 simp
 refine ACalls.at (vk l f p h c hp) fun c2 hc2=>?_
 simp [lC]
theorem vg (v:Int):aO Pg Fn91.n [.int v] (.bool (kU v)):=by
 intro s
 refine Fn91.calls .frz ?_
 unfold Fn91.ac
 simp
 refine ACalls.pure (eF _ _ _) fun c1 hc1=>?_
 simp [kU]
theorem jy {A:List Wb.Array} {key:ByteArray} (h:¬bD A key<0):∃ (i:Nat) (a:Wb.Array),A[i]?=some a∧bD A key=i∧i<A.length∧dV A key=a.sizes∧a.key=key:=by
 obtain ⟨i,a,hi,h1,h2,h3,h4⟩:=fC h
 exact ⟨i,a,by rw [List.getElem?_eq_getElem hi,h2],h1,hi,h4,h3⟩
end Go.Proofs.YtocppbmmfklbmaaGreat
set_option maxRecDepth 20000
set_option maxHeartbeats 4000000
namespace Go.Proofs.YtocppbmmfklbmaaGreat
open Go.AM Go.Wb
theorem uR (p:Wb.Prog) (hA:∀ a∈p.arrays,OkArray a) (gs:List Wb.Grid):aO Pg Fn47.n [p.av,row (gs.map Grid.cells)] (.int (cV p.arrays ⟨#[]⟩ gs)):=by
 rintro ⟨h0,c0⟩
 refine ACalls.small fun hs=>?_
 have hlen:gs.length≤68719476736:=by simp [Prog.av] at hs; omega
 have hcal:=nQ p
 simp only [Prog.av] at hcal
 refine Fn47.calls .frz ?_
 unfold Fn47.ac
 simp [Prog.av]
 obtain ⟨hb,hhb⟩:∃ hb,hb=upd h0 c0 (some (.row 2 [[row (p.arrays.map Array.cells),row (p.steps.map Step.cells)]] .live none)):=⟨_,rfl⟩
 rw [←hhb]
 have hbx:hb c0=_:=(congrFun hhb c0).trans ah
 have hF0:Fr c0 h0 hb (c0+1):=by rw [hhb]; exact (Fr.refl _ _).upd (Nat.le_refl _) (Nat.le_succ _)
 obtain ⟨Inv,hInv⟩:∃ Inv:Nat→List Wb.Grid→Slots→St→Prop,Inv=fun (i:Nat) r sl s'=>∃ last,cV p.arrays ⟨#[]⟩ gs=cV p.arrays last r∧(i=0→last=⟨#[]⟩)∧∀ t,0<i→gs[i-1]?=some t→t.key=last:=⟨_,rfl⟩
 refine bh 10 Fn47.W0 gs Inv (by rfl) (by rfl) ?_ ?_ ?_
 ·rw [hInv]; exact ⟨by simp,_,rfl,fun _=>rfl,fun t h=>by omega⟩
 ·intro v h c hv hF hI
  rw [hInv] at hI
  obtain ⟨last,hI,_⟩:=hI
  rw [hI]
  simp [hv,cV]
  exact (hF0.trans hF).retH
 ·intro i g gs' v h c hi hx hl hv hF hI
  rw [hInv] at hI
  obtain ⟨last,hI,hI0,hI1⟩:=hI
  have hw:=ae (x:=(i:Int)+1) (by omega) (by omega)
  simp only [cV] at hI
  have hcc:=hF.c
  obtain ⟨h2,hh2⟩:∃ h2,h2=upd h c (some (.row 2 [[.str g.key,row (ak g.values)]] .live none)):=⟨_,rfl⟩
  have hF2:Fr (c0+1) hb h2 (c+1):=by rw [hh2]; exact hF.upd hcc (Nat.le_succ _)
  have hb2:h2 c0=_:=(hF2.h c0 (by omega)).trans hbx
  have hbo:=(hF.h c0 (by omega)).trans hbx
  have hg2:=(congrFun hh2 c).trans ah
  have hend:retH c0 h0 h2=h0:=(hF0.trans hF2).retH
  have hcc0:¬c0=c:=by omega
  simp [hv,hi,hx,Grid.cells,←hh2,hb2,hg2]
  refine ACalls.pure (hcal g.key) fun c2 hc2=>?_
  simp [hg2]
  refine ACalls.pure (lA g.key) fun c3 hc3=>?_
  by_cases k1:bQ g.key=false
  ·rw [if_pos k1] at hI
   simp [k1,hI]
   exact hend
  rw [if_neg k1] at hI
  have k1':bQ g.key=true:=by simpa using k1
  have hsle:i=0→sle g.key last=false:=fun h=>by rw [hI0 h]; exact oJ k1'
  have hi1:i-1<gs.length:=by omega
  have hw2:0<i→IntKind.i64.wrap ((i:Int)-1)=((i-1:Nat):Int):=fun h=>by rw [ae (by omega) (by omega)]; omega
  simp [k1',hg2]
  by_cases k2:sle g.key last=true
  ·have h6:0<i:=Nat.pos_of_ne_zero fun e=>by rw [hsle e] at k2; cases k2
   have hn:=hI1 gs[i-1] h6 (List.getElem?_eq_getElem hi1)
   rw [if_pos k2] at hI
   simp [h6,hg2,hw2 h6,hi1,hn,Grid.cells,k2,hI]
   exact hend
  rw [if_neg k2] at hI
  have k2':sle g.key last=false:=by simpa using k2
  by_cases h6:0<i
  case' pos=>
   have hn:=hI1 gs[i-1] h6 (List.getElem?_eq_getElem hi1)
   simp [h6,hg2,hw2 h6,hi1,hn,Grid.cells,k2']
  case' neg=>simp [h6]
  all_goals
   by_cases k3:bD p.arrays g.key<0
   ·rw [if_pos k3] at hI
    simp [k3,hI]
    exact hend
   rw [if_neg k3] at hI
   obtain ⟨j,a,hj,hja,hjl,hjs,hjk⟩:=jy k3
   have ha:=hA a (List.mem_of_getElem? hj)
   have hjc:(p.arrays.map Array.cells)[j]?=some [.str a.key,row (ak a.sizes)]:=by rw [List.getElem?_map,hj]; rfl
   have hje:p.arrays[j]=a:=(List.getElem?_eq_some_iff.1 hj).2
   have hcel:=qN a ha
   simp only [Array.cells] at hcel
   rw [hja] at k3
   rw [hjs] at hI
   simp [hg2,k3,hja,hb2,hjl,hje,Array.cells]
   refine ACalls.pure hcel fun c4 hc4=>?_
   by_cases k4:(g.values.length:Int)=bJ a.sizes
   case neg=>
    rw [if_pos k4] at hI
    simp [k4,hg2,hb2,hI,hjl,hje,Array.cells]
    exact hend
   rw [if_neg (not_not_intro k4)] at hI
   simp [k4,hg2,hb2,hjl,hje,Array.cells]
   refine ACalls.at (uV g.values _ kU h2 c4 fun x hx c' hc'=>?_) fun c5 hc5=>?_
   ·exact vg x ⟨h2,c'⟩
   by_cases k5:g.values.any kU=true
   ·rw [if_pos k5] at hI
    simp only [k5]
    simp [hI]
    exact hend
   ·rw [if_neg k5] at hI
    have k5':g.values.any kU=false:=by simpa using k5
    simp only [k5']
    simp [hg2,hv,hw]
    refine ⟨⟨by show c0+1≤c5; omega,hF2.h⟩,?_⟩
    rw [hInv]
    refine ⟨g.key,hI,fun h=>by omega,fun t _ ht=>?_⟩
    rw [show i+1-1=i by omega,List.getElem?_eq_getElem hi,hx] at ht
    injection ht with ht; rw [ht]
end Go.Proofs.YtocppbmmfklbmaaGreat
set_option maxRecDepth 20000
set_option maxHeartbeats 4000000
namespace Go.Proofs.YtocppbmmfklbmaaGreat
open Go.AM Go.Wb
theorem oR (p:Wb.Prog):bu p=if aV p=0 then dZ p else aV p:=rfl
theorem kl (p:Wb.Prog) (hcnt:aA p.steps≤300) (h0:Heap) (c0:Nat):ACalls Pg Fn46.n [p.av] ⟨h0,c0⟩ fun av s'=>Fr c0 h0 s'.h s'.c∧if bu p=0 then ∃ go stm which vals rnd acc frm,av=.tup [.ptr go 0 0,.int 0]∧RanAt s'.h s'.c go p stm which vals rnd acc frm∧∀ k,aq acc k→c0≤k else av=.tup [.nilp,.int (bu p)]:=by
 have hck:=nJ p (by omega)
 simp only [Prog.av] at hck
 refine Fn46.calls .keep ?_
 unfold Fn46.ac
 obtain ⟨hb,hhb⟩:∃ hb,hb=upd h0 c0 (some (.row 2 [[row (p.arrays.map Array.cells),row (p.steps.map Step.cells)]] .live none)):=⟨_,rfl⟩
 have hF0:Fr c0 h0 hb (c0+1):=by rw [hhb]; exact (Fr.refl _ _).upd (Nat.le_refl _) (Nat.le_succ _)
 have hbx:=(congrFun hhb c0).trans ah
 rw [oR]
 simp [Prog.av,←hhb,hbx]
 refine ACalls.pure hck fun c1 hc1=>?_
 by_cases hz:aV p=0
 case neg=>
  simp [hz]
  exact ⟨by show c0≤c1; omega,hF0.h⟩
 have hpl:=vf p (fh hz) hcnt hb c1
 simp only [Prog.av] at hpl
 simp [hz,hbx]
 refine hpl.mono ?_
 rintro av ⟨h2,c2⟩ hc2 ⟨hF,hq⟩
 simp only at hc2 hF hq
 have hFF:Fr c0 h0 h2 c2:=⟨by omega,fun k hk=>(hF.h k (by omega)).trans (hF0.h k hk)⟩
 by_cases hpz:dZ p=0
 ·rw [if_pos hpz] at hq
  obtain ⟨go,stm,which,vals,rnd,acc,frm,rfl,hr,hfr⟩:=hq
  simp [hpz]
  exact ⟨hFF,stm,which,vals,rnd,acc,⟨frm,hr⟩,fun k hk=>by have:=hfr k hk; omega⟩
 ·rw [if_neg hpz] at hq
  subst hq
  simp [hpz]
  exact hFF
theorem qM (p:Wb.Prog) (hcnt:aA p.steps≤300) (h0:Heap) (c0:Nat):ACalls Pg Fn46.n [p.av] ⟨h0,c0⟩ fun av s'=>Fr c0 h0 s'.h s'.c∧if bu p=0 then ∃ go stm which vals rnd acc frm,av=.tup [.ptr go 0 0,.int 0]∧RanAt s'.h s'.c go p stm which vals rnd acc frm else av=.tup [.nilp,.int (bu p)]:=by
 refine (kl p hcnt h0 c0).mono fun av s' _ ⟨hF,hq⟩=>⟨hF,?_⟩
 by_cases hz:bu p=0
 ·rw [if_pos hz] at hq ⊢
  obtain ⟨go,stm,which,vals,rnd,acc,frm,e,hr,_⟩:=hq
  exact ⟨go,stm,which,vals,rnd,acc,frm,e,hr⟩
 ·rw [if_neg hz] at hq ⊢; exact hq
theorem MemAt.put {h:Heap} {c g:Nat} {A:List Wb.Array} {M M':Mem} {G:List Nat} (x:MemAt h c g A M G) (hA:gT A) {i gi:Nat} {a:Wb.Array} (h1:A[i]?=some a) (h2:G[i]?=some gi) {vs:List Int} (e1:bw M' a=vs) (e2:∀ s,s.array≠a.key→M' s=M s) :
  MemAt (AM.upd h gi (some (.row 1 (ak vs) .live none))) c g A M' G:=by
 obtain ⟨ver,hm⟩:=x.map
 have hg:=x.lt gi (List.mem_of_getElem? h2)
 refine ⟨x.len,⟨ver,(ad (Ne.symm hg.2)).trans hm⟩,fun j b gj f1 f2=>?_,x.lt,x.nd,x.gc⟩
 by_cases hij:j=i
 ·subst hij
  rw [h1] at f1; injection f1 with f1; subst f1
  rw [h2] at f2; injection f2 with f2; subst f2
  rw [ah,e1]
 ·have hne:gj≠gi:=fun e=>by
   subst e
   obtain ⟨hj2,hj3⟩:=List.getElem?_eq_some_iff.1 f2
   obtain ⟨hi2,hi3⟩:=List.getElem?_eq_some_iff.1 h2
   have:=List.pairwise_iff_getElem.1 x.nd
   rcases Nat.lt_trichotomy i j with h | h | h
   ·exact this i j hi2 hj2 h (by rw [hi3,hj3])
   ·exact hij h.symm
   ·exact this j i hj2 hi2 h (by rw [hi3,hj3])
  rw [ad hne,x.rows j b gj f1 f2]
  have hkey:b.key≠a.key:=by
   rcases Nat.lt_trichotomy i j with h | h | h
   ·exact fun e=>hA j i b a f1 h1 h e.symm
   ·exact absurd h.symm hij
   ·exact fun e=>hA i j a b h1 f1 h e
  have:bw M' b=bw M b:=by
   unfold bw
   exact List.map_congr_left fun k _=>e2 _ hkey
  rw [this]
def jb (A:List Wb.Array) (g:Wb.Grid):Prop:=∃ (i:Nat) (a:Wb.Array),A[i]?=some a∧a.key=g.key∧(g.values.length:Int)=bJ a.sizes∧∀ v∈g.values,0≤v∧v≤1000002
theorem kh {A:List Wb.Array}:∀ {gs:List Wb.Grid} {last:ByteArray},cV A last gs=0→∀ g∈gs,jb A g
 | [],_,_,g,hg=>by cases hg
 | x::gs,last,h,g,hg=>by
  simp only [cV] at h
  split at h
  ·cases h
  ·split at h
   ·cases h
   ·split at h
    ·cases h
    ·rename_i h3
     split at h
     ·cases h
     ·rename_i h4
      split at h
      ·cases h
      ·rename_i h5
       rcases List.mem_cons.1 hg with rfl | hg
       ·obtain ⟨j,a,hj,hja,hjl,hjs,hjk⟩:=jy h3
        rw [hjs] at h4
        refine ⟨j,a,hj,hjk,Classical.byContradiction h4,fun v hv=>?_⟩
        have h5':g.values.any kU=false:=by simpa using h5
        have:=List.any_eq_false.1 h5' v hv
        unfold kU at this
        simpa using this
       ·exact kh h g hg
theorem rI {A:List Wb.Array} {M:Mem} (hM:eG M) {g:Wb.Grid} (hg:jb A g):eG (dr M g):=fun s=>by
 unfold dr
 split
 ·rename_i h
  obtain ⟨_,_,_,_,_,hv⟩:=hg
  rw [List.getD_eq_getElem?_getD,List.getElem?_eq_getElem (by omega)]
  exact hv _ (List.getElem_mem _)
 ·exact hM s
theorem ow {A:List Wb.Array}:∀ (gs:List Wb.Grid) (M:Mem),eG M→(∀ g∈gs,jb A g)→eG (gs.foldl dr M)
 | [],M,hM,_=>hM
 | g::gs,M,hM,h=>ow gs _ (rI hM (h g List.mem_cons_self)) fun x hx=>h x (List.mem_cons_of_mem _ hx)
theorem ui {A:List Wb.Array} {gs:List Wb.Grid} (h:∀ g∈gs,jb A g):eG (iH gs):=ow gs _ (fun s=>by simp) h
theorem qd {M:Mem} {g:Wb.Grid} {a:Wb.Array} (h:a.key=g.key) (hl:(g.values.length:Int)=bJ a.sizes):bw (dr M g) a=g.values:=by
 refine List.ext_getElem? fun k=>?_
 unfold bw
 have hk':(bJ a.sizes).toNat=g.values.length:=by omega
 by_cases hk:k<g.values.length
 ·rw [List.getElem?_map,List.getElem?_range (by omega),List.getElem?_eq_getElem hk]
  simp [dr,h,hk]
 ·rw [List.getElem?_eq_none (by simp; omega),List.getElem?_eq_none (by omega)]
end Go.Proofs.YtocppbmmfklbmaaGreat
set_option maxRecDepth 20000
set_option maxHeartbeats 4000000
namespace Go.Proofs.YtocppbmmfklbmaaGreat
open Go.AM Go.Wb
theorem m9:∀ {A B:List Wb.Array} {G H:List Nat},A.length=G.length→cm (A++B) (G++H)=cm A G++cm B H
 | [],B,[],H,_=>rfl
 | [],B,y::G,H,h=>by simp at h
 | x::A,B,[],H,h=>by simp at h
 | x::A,B,y::G,H,h=>by
  have:=m9 (A:=A) (B:=B) (G:=G) (H:=H) (by simpa using h)
  unfold cm at this ⊢
  simp only [List.cons_append,List.zipWith_cons_cons,this]
theorem lU:∀ {A:List Wb.Array} {G:List Nat} {q:ByteArray×AV},q∈cm A G→∃ a∈A,q.1=a.key
 | [],G,q,h=>by simp [cm] at h
 | x::A,[],q,h=>by simp [cm] at h
 | x::A,y::G,q,h=>by
  unfold cm at h
  simp only [List.zipWith_cons_cons,List.mem_cons] at h
  rcases h with rfl | h
  ·exact ⟨x,List.mem_cons_self,rfl⟩
  ·obtain ⟨a,h1,h2⟩:=lU (A:=A) (G:=G) h
   exact ⟨a,List.mem_cons_of_mem _ h1,h2⟩
theorem uS (p:Wb.Prog) (hp:Right p) (gs:List Wb.Grid) (hgs:∀ g∈gs,jb p.arrays g) (h0:Heap) (c0:Nat) :
  ACalls Pg Fn48.n [p.av,row (gs.map Grid.cells)] ⟨h0,c0⟩ fun av s'=>Fr c0 h0 s'.h s'.c∧∃ gm G,av=.map gm∧c0≤gm∧(∀ gi∈G,c0≤gi)∧MemAt s'.h s'.c gm p.arrays (iH gs) G:=by
 refine ACalls.small fun hsm=>?_
 have hlen:p.arrays.length≤68719476736∧gs.length≤68719476736:=by simp [Prog.av] at hsm; omega
 refine Fn48.calls .keep ?_
 unfold Fn48.ac
 simp [Prog.av]
 obtain ⟨hb,hhb⟩:∃ hb,hb=upd (upd h0 c0 (some (.row 2 [[row (p.arrays.map Array.cells),row (p.steps.map Step.cells)]] .live none))) (c0+1) (some (.map [] (c0+1))):=⟨_,rfl⟩
 rw [←hhb]
 have hbx:hb c0=some (.row 2 [[row (p.arrays.map Array.cells),row (p.steps.map Step.cells)]] .live none):=by rw [hhb,ad (by omega),ah]
 have hbm:hb (c0+1)=some (.map [] (c0+1)):=by rw [hhb,ah]
 have hF0:Fr c0 h0 hb (c0+1+1):=⟨by omega,fun k hk=>by rw [hhb,ad (by omega),ad (by omega)]⟩
 obtain ⟨Inv,hInv⟩:∃ Inv:Nat→List Wb.Array→Slots→St→Prop,Inv=fun (i:Nat) r sl s'=>Fr c0 h0 s'.h s'.c∧∃ G,(∀ gi∈G,c0≤gi)∧MemAt s'.h s'.c (c0+1) (p.arrays.take i) (fun _=>0) G:=⟨_,rfl⟩
 refine bq 14 Fn48.W0 p.arrays Inv (by rfl) (by rfl) ?_ ?_ ?_
 ·rw [hInv]
  exact ⟨by simp,hF0,[],by simp,⟨rfl,⟨c0+1,hbm⟩,by simp,by simp,by simp,by show c0+1<c0+1+1; omega⟩⟩
 ·intro v s' hv hI
  rw [hInv,List.take_length] at hI
  obtain ⟨hF,G,hG,hm⟩:=hI
  obtain ⟨h,c⟩:=s'
  simp only at hF hm
  simp [hv]
  obtain ⟨Inv2,hInv2⟩:∃ Inv:Nat→List Wb.Grid→Slots→St→Prop,Inv=fun (i:Nat) r sl s'=>Fr c0 h0 s'.h s'.c∧MemAt s'.h s'.c (c0+1) p.arrays ((gs.take i).foldl dr fun _=>0) G:=⟨_,rfl⟩
  refine bq 27 Fn48.W1 gs Inv2 (by rfl) (by rfl) ?_ ?_ ?_
  ·rw [hInv2]
   exact ⟨by simp,hF,hm⟩
  ·intro v2 s2 hv2 hI2
   rw [hInv2,List.take_length] at hI2
   obtain ⟨hF2,hm2⟩:=hI2
   obtain ⟨h2,c2⟩:=s2
   simp [hv2]
   exact ⟨hF2,G,hG,hm2⟩
  ·intro i g gs' v2 s2 hi hx hl hv2 hI2
   rw [hInv2] at hI2
   obtain ⟨hF2,hm2⟩:=hI2
   obtain ⟨h2,c2⟩:=s2
   simp only at hF2 hm2
   have hw:=ae (x:=(i:Int)+1) (by omega) (by omega)
   obtain ⟨j,a,hj,hjk,hvl,hvr⟩:=hgs g (ba hl)
   have hjG:j<G.length:=by rw [hm2.len]; exact (List.getElem?_eq_some_iff.1 hj).1
   have hgj:G[j]?=some G[j]:=List.getElem?_eq_getElem hjG
   obtain ⟨gj,hgj'⟩:∃ gj,gj=G[j]:=⟨_,rfl⟩
   rw [←hgj'] at hgj
   obtain ⟨h3,hh3⟩:∃ h3,h3=upd h2 c2 (some (.row 2 [[.str g.key,row (ak g.values)]] .live none)):=⟨_,rfl⟩
   have hm3:MemAt h3 (c2+1) (c0+1) p.arrays ((gs.take i).foldl dr fun _=>0) G:=hm2.frame (Nat.le_succ _) fun k hk=>by
    have h1:=hm2.gc
    have:k<c2:=hk.elim (fun h=>by omega) fun h=>(hm2.lt k h).1
    rw [hh3,ad (by omega)]
   have hb3:=(congrFun hh3 c2).trans ah
   obtain ⟨ver,hmap⟩:=hm3.map
   have hlk:=gB ep (f:=fun v:AV=>v) (z:=.nil) (ok:=false) (s:=⟨h3,c2+1⟩) hmap g.key
   rw [←hjk,my hp.apart j a gj hj hgj,hjk] at hlk
   have hrow:=hm3.rows j a gj hj hgj
   have hgjl:=hm3.lt gj (List.mem_of_getElem? hgj)
   obtain ⟨K,hK⟩:∃ K,K=(bJ a.sizes).toNat:=⟨_,rfl⟩
   rw [←hK] at hlk
   have hKl:g.values.length=K:=by omega
   have hcp:cpI 1 (.row gj 1 0 K) (row (ak g.values)) ⟨h3,c2+1⟩=some (.int K,⟨upd h3 gj (some (.row 1 (ak g.values) .live none)),c2+1⟩):=by
    have h1:(bw ((gs.take i).foldl dr fun _=>0) a).length=K:=by rw [kb,hK]
    have h2:(ak g.values).take K=ak g.values:=List.take_of_length_le (by simp [hKl])
    have h3:(ak (bw ((gs.take i).foldl dr fun _=>0) a)).drop K=[]:=List.drop_of_length_le (by simp [h1])
    have h4:row (ak g.values)=.sl (ak g.values) false:=by simp
    rw [h4]
    simp [cpI,St.show_,hrow,lF,dR,h1,h2,h3,hKl]
   simp [hv2,hi,hx,Grid.cells,←hh3,hb3,hlk,hcp,hw]
   rw [hInv2]
   have hput:=hm3.put hp.apart hj hgj (M':=dr ((gs.take i).foldl dr fun _=>0) g) (qd hjk hvl) (fun s hs=>by
    unfold dr
    rw [if_neg fun h=>hs (h.1.trans hjk.symm)])
   refine ⟨⟨by have:=hF2.c; show c0≤c2+1; omega,fun k hk=>?_⟩,?_⟩
   ·show upd h3 gj _ k=_
    rw [ad (by have:=hG gj (List.mem_of_getElem? hgj); omega),hh3,ad (by have:=hF2.c; omega)]; exact hF2.h k hk
   ·rw [List.take_add_one,List.getElem?_eq_getElem hi,hx,List.foldl_append]
    exact hput
 ·intro i a as' v s' hi hx hl hv hI
  rw [hInv] at hI
  obtain ⟨hF,G,hG,hm⟩:=hI
  obtain ⟨h,c⟩:=s'
  simp only at hF hm
  have hw:=ae (x:=(i:Int)+1) (by omega) (by omega)
  have ha:=hp.arrays a (ba hl)
  have hca:=ha.cells
  have hc1:1≤bJ a.sizes:=iE a.sizes fun z hz=>(ha.sizes z hz).1
  have hcel:=qN a ha
  simp only [Array.cells] at hcel
  obtain ⟨h2,hh2⟩:∃ h2,h2=upd h c (some (.row 2 [[.str a.key,row (ak a.sizes)]] .live none)):=⟨_,rfl⟩
  have hb2:=(congrFun hh2 c).trans ah
  obtain ⟨K,hK⟩:∃ K,K=(bJ a.sizes).toNat:=⟨_,rfl⟩
  have hKc:bJ a.sizes=K:=by omega
  rw [hKc] at hcel
  simp [hv,hi,hx,Array.cells,←hh2,hb2]
  refine ACalls.pure hcel fun c2 hc2=>?_
  have hcc:=hF.c
  have hK2:K≤20000:=by omega
  have hrep:List.replicate K [AV.int 0]=ak (bw (fun _=>0) a):=by
   refine List.ext_getElem? fun j=>?_
   unfold bw ak
   rw [←hK]
   by_cases hj:j<K
   ·simp [hj]
   ·rw [List.getElem?_eq_none (by simpa using hj),List.getElem?_eq_none (by simpa using hj)]
  have hms:msI 1 [.int 0] 8 (.int K) (.int K) ⟨h2,c2⟩=some (.row c2 1 0 K,⟨upd h2 c2 (some (.row 1 (ak (bw (fun _=>0) a)) .live none)),c2+1⟩):=by
   have h1:(K:Int)≤68719476736:=by omega
   rw [←hrep]
   simp [msI,asI,h1,AM.newRow,aC]
   try rfl
  obtain ⟨h3,hh3⟩:∃ h3,h3=upd h2 c2 (some (.row 1 (ak (bw (fun _=>0) a)) .live none)):=⟨_,rfl⟩
  rw [←hh3] at hms
  have hk3:∀ k,k<c→h3 k=h k:=fun k hk=>by rw [hh3,ad (by omega),hh2,ad (by omega)]
  have hgm:=hm.gc
  obtain ⟨ver,hmap⟩:=hm.map
  have hlt:=hm.len
  have hil:(p.arrays.take i).length=i:=by rw [List.length_take]; omega
  have hm3:=(hk3 (c0+1) hgm).trans hmap
  have hb3:h3 c=some (.row 2 [[.str a.key,row (ak a.sizes)]] .live none):=by rw [hh3,ad (by omega)]; exact hb2
  have hmu:=jm ep (f:=fun v:AV=>v) (g:=c0+1) (s:=⟨h3,c2+1⟩) hm3 a.key (.row c2 1 0 K)
  have hnew:cZ (cm (p.arrays.take i) G) a.key (.row c2 1 0 K)=cm (p.arrays.take (i+1)) (G++[c2]):=by
   rw [oB,List.take_add_one,List.getElem?_eq_getElem hi,hx,Option.toList_some,m9 hlt.symm]
   ·rw [hK]; rfl
   ·intro q hq
    obtain ⟨b,hb1,hb2⟩:=lU hq
    obtain ⟨j,hj,hjb⟩:=List.mem_iff_getElem.1 hb1
    simp at hj hjb
    rw [hb2]
    exact hp.apart i j a b (by rw [List.getElem?_eq_getElem hi,hx]) (by rw [List.getElem?_eq_getElem (by omega),hjb]) (by omega)
  rw [hnew] at hmu
  obtain ⟨h4,hh4⟩:∃ h4,h4=upd h3 (c0+1) (some (.map (kvs AV.str (fun v:AV=>v) (cm (p.arrays.take (i+1)) (G++[c2]))) (c2+1))):=⟨_,rfl⟩
  simp only at hmu
  rw [←hh4] at hmu
  simp [hms,hb2,hb3,hmu,hw,hv]
  rw [hInv]
  have hk4:∀ k,k<c→k≠c0+1→h4 k=h k:=fun k hk hk2=>by rw [hh4,ad hk2,hk3 k hk]
  refine ⟨⟨by show c0≤c2+1+1; omega,fun k hk=>(hk4 k (by omega) (by omega)).trans (hF.h k hk)⟩,G++[c2],?_,?_,⟨c2+1,(congrFun hh4 _).trans ah⟩,?_,?_,?_,by show c0+1<c2+1+1; omega⟩
  ·intro gi hgi
   rcases List.mem_append.1 hgi with h | h
   ·exact hG gi h
   ·rw [List.mem_singleton.1 h]; omega
  ·rw [List.length_append,hlt,List.length_take,List.length_take]; simp; omega
  ·intro j b gj h1 h2'
   rw [List.take_add_one,List.getElem?_eq_getElem hi,hx,Option.toList_some] at h1
   by_cases hj:j<i
   ·rw [List.getElem?_append_left (by rw [hil]; exact hj)] at h1
    rw [List.getElem?_append_left (by rw [hlt,hil]; exact hj)] at h2'
    have hgl:=hm.lt gj (List.mem_of_getElem? h2')
    exact (hk4 gj hgl.1 hgl.2).trans (hm.rows j b gj h1 h2')
   ·rw [List.getElem?_append_right (by rw [hil]; omega),hil] at h1
    rw [List.getElem?_append_right (by rw [hlt,hil]; omega),hlt,hil] at h2'
    have hji:j-i=0:=by
     refine Classical.byContradiction fun hn=>?_
     rw [List.getElem?_eq_none (by simp; omega)] at h1; cases h1
    rw [hji] at h1 h2'
    simp at h1 h2'
    subst h1; subst h2'
    show h4 c2=_
    rw [hh4,ad (by omega),hh3,ah]
  ·intro gi hgi
   rcases List.mem_append.1 hgi with h | h
   ·have:=hm.lt gi h
    exact ⟨by show gi<c2+1+1; omega,this.2⟩
   ·rw [List.mem_singleton.1 h]; exact ⟨by show c2<c2+1+1; omega,by omega⟩
  ·rw [List.nodup_append]
   refine ⟨hm.nd,by simp,fun x hx y hy=>?_⟩
   rw [List.mem_singleton.1 hy]
   have:=hm.lt x hx
   omega
end Go.Proofs.YtocppbmmfklbmaaGreat
set_option maxRecDepth 20000
set_option maxHeartbeats 4000000
namespace Go.Proofs.YtocppbmmfklbmaaGreat
open Go.AM Go.Wb
theorem qQ:∀ a b:List UInt8,Lib.compareBytes b a =-Lib.compareBytes a b
 | [],[]=>rfl
 | [],_::_=>rfl
 | _::_,[]=>rfl
 | x::a,y::b=>by
  have ih:=qQ a b
  simp only [Lib.compareBytes]
  by_cases h1:x<y
  ·have h2:¬y<x:=fun h=>by have:=UInt8.lt_iff_toNat_lt.1 h; have:=UInt8.lt_iff_toNat_lt.1 h1; omega
   simp [h1,h2]
  ·by_cases h2:y<x
   ·simp [h1,h2]
   ·simp [h1,h2,ih]
theorem pA:∀ {a b c:List UInt8},0≤Lib.compareBytes b a→0≤Lib.compareBytes c b→0≤Lib.compareBytes c a
 | [],_,[],_,_=>by simp [Lib.compareBytes]
 | [],_,_::_,_,_=>by simp [Lib.compareBytes]
 | _::_,[],_,h,_=>by simp [Lib.compareBytes] at h
 | _::_,_::_,[],_,h=>by simp [Lib.compareBytes] at h
 | x::a,y::b,z::c,h,h'=>by
  simp only [Lib.compareBytes] at h h' ⊢
  have e1:y<x↔y.toNat<x.toNat:=UInt8.lt_iff_toNat_lt
  have e2:x<y↔x.toNat<y.toNat:=UInt8.lt_iff_toNat_lt
  have e3:z<y↔z.toNat<y.toNat:=UInt8.lt_iff_toNat_lt
  have e4:y<z↔y.toNat<z.toNat:=UInt8.lt_iff_toNat_lt
  have e5:z<x↔z.toNat<x.toNat:=UInt8.lt_iff_toNat_lt
  have e6:x<z↔x.toNat<z.toNat:=UInt8.lt_iff_toNat_lt
  by_cases a1:y<x
  ·simp [a1] at h
  ·by_cases a2:z<y
   ·simp [a2] at h'
   ·have a3:¬z<x:=by rw [e5]; rw [e1] at a1; rw [e3] at a2; omega
    rw [if_neg a3]
    by_cases a4:x<z
    ·simp [a4]
    ·rw [if_neg a4]
     have a5:¬x<y:=by rw [e2]; rw [e6] at a4; rw [e3] at a2; omega
     have a6:¬y<z:=by rw [e4]; rw [e6] at a4; rw [e1] at a1; omega
     rw [if_neg a1,if_neg a5] at h
     rw [if_neg a2,if_neg a6] at h'
     exact pA h h'
def glt (x y:Wb.Grid):Bool:=decide (Lib.compareBytes (bs x.key) (bs y.key)<0)
def l8 (A:List Wb.Array) (M:Mem) (L:List Wb.Grid):Prop:=L.Perm (A.map fun a=>⟨a.key,bw M a⟩)∧L.Pairwise fun x y=>glt y x=false
structure GV (h:Heap) (c0:Nat) (V:ByteArray→List Int) (es:List (List AV)):Prop where
 el:∀ e∈es,∃ (key:ByteArray) (gv:Nat),e=[.str key,.row gv 1 0 (V key).length]∧c0≤gv∧h gv=some (.row 1 (ak (V key)) .live none)
def dG (e:List AV):ByteArray:=match e with
 | .sc (.string a)::_=>a
 | _=>⟨#[]⟩
def gOf (V:ByteArray→List Int) (e:List AV):Wb.Grid:=⟨dG e,V (dG e)⟩
theorem GV.frz {h:Heap} {c0 go:Nat} {V:ByteArray→List Int} {es:List (List AV)} (H:GV h c0 V es) (hg:h go=some (.row 2 es .live none)) (hc:c0≤go):Frz h (fun k=>c0≤k) (.row go 2 0 es.length) (row ((es.map (gOf V)).map Grid.cells)):=by
 have hel:=H.el
 have hgs:∀ (i:Nat) (e y:List AV),es[i]?=some e→((es.map (gOf V)).map Grid.cells)[i]?=some y→e.length=y.length∧∀ (j:Nat) (c d:AV),e[j]?=some c→y[j]?=some d→Frz h (fun k=>c0≤k) c d:=by
  intro i e y he hy
  obtain ⟨key,gv,rfl,y1,y3⟩:=hel e (List.mem_of_getElem? he)
  rw [List.getElem?_map,List.getElem?_map,he] at hy
  simp [gOf,dG,Grid.cells] at hy
  subst hy
  refine ⟨rfl,fun j c d hc hd=>?_⟩
  match j with
  | 0=>simp at hc hd; subst hc; subst hd; exact .leaf _
  | 1=>
   simp at hc hd; subst hc; subst hd
   refine .row gv 1 0 _ _ .live _ y3 (.inl rfl) y1 (by simp [ak]) (by simp [ak]) ?_ ?_
   ·intro i e y he hy
    rw [Nat.zero_add] at he; rw [he] at hy; cases hy; rfl
   ·intro i j e y c d he hy hc hd
    rw [Nat.zero_add] at he; rw [he] at hy; cases hy; rw [hc] at hd; cases hd
    obtain ⟨n,_,hn⟩:=List.mem_map.1 (List.mem_of_getElem? he)
    subst hn
    match j with
    | 0=>simp at hc; subst hc; exact .leaf _
    | j+1=>simp at hc
  | j+2=>simp at hc
 have hrow:row ((es.map (gOf V)).map Grid.cells)=.sl ((es.map (gOf V)).map Grid.cells) false:=by simp
 rw [hrow]
 refine .row go 2 0 es.length _ .live _ hg (.inl rfl) hc (by simp) (by simp) ?_ ?_
 ·intro i e y he hy
  rw [Nat.zero_add] at he
  exact (hgs i e y he hy).1
 ·intro i j e y c d he hy hc hd
  rw [Nat.zero_add] at he
  exact (hgs i e y he hy).2 j c d hc hd
theorem GV.ok {h:Heap} {c0:Nat} {V:ByteArray→List Int} {es:List (List AV)} (H:GV h c0 V es):∀ e∈es,aC 2 e=true:=fun e he=>by
 obtain ⟨key,gv,rfl,_⟩:=H.el e he; rfl
def klt (x y:List AV):Bool:=decide (Lib.compareBytes (bs (dG x)) (bs (dG y))<0)
theorem v8 (a b c:List AV) (h:klt b a=false) (h':klt c b=false):klt c a=false:=by
 unfold klt at h h' ⊢
 have h1:¬Lib.compareBytes (bs (dG b)) (bs (dG a))<0:=by simpa using h
 have h2:¬Lib.compareBytes (bs (dG c)) (bs (dG b))<0:=by simpa using h'
 have:=pA (a:=bs (dG a)) (b:=bs (dG b)) (c:=bs (dG c)) (by omega) (by omega)
 simp; omega
theorem v7 (a b:List AV) (h:klt a b=true):klt b a=false:=by
 unfold klt at h ⊢
 have h1:Lib.compareBytes (bs (dG a)) (bs (dG b))<0:=by simpa using h
 have:=qQ (bs (dG a)) (bs (dG b))
 simp; omega
theorem vq (V:ByteArray→List Int) (es:List (List AV)):((dF klt es).map (gOf V)).Pairwise fun x y=>glt y x=false:=by
 rw [List.pairwise_map]
 exact pN klt v8 v7 es
theorem vj (a b:ByteArray) (x y:AV) (hx:x.cell=true) (hy:y.cell=true) (s:St):ACalls Pg Fn95.n [.agg [.str a,x],.agg [.str b,y]] s fun av s'=>av=.int (Lib.compareBytes (bs a) (bs b))∧s'.h=s.h:=by
 refine Fn95.calls .frz ?_
 unfold Fn95.ac
 have hne:¬s.c=s.c+1:=by omega
 have hx':aC 2 [.str a,x]=true:=by simp only [aC,List.all_cons,hx,List.all_nil]; rfl
 have hy':aC 2 [.str b,y]=true:=by simp only [aC,List.all_cons,hy,List.all_nil]; rfl
 simp only [aC] at hx' hy'
 simp [hne,-AV.cell,AV.cells,hx,hy,show (AV.str a).cell=true from rfl,show (AV.str b).cell=true from rfl]
 refine ACalls.pure (qL _ _) fun c1 hc1=>?_
 simp
theorem GV.cmps {h:Heap} {c0:Nat} {V:ByteArray→List Int} {es:List (List AV)} (H:GV h c0 V es) {f:Nat} (hf:∀ (a b:ByteArray) (x y:AV),x.cell=true→y.cell=true→∀ s:St,ACalls Pg f [.agg [.str a,x],.agg [.str b,y]] s fun av s'=>av=.int (Lib.compareBytes (bs a) (bs b))∧s'.h=s.h):nG f klt es:=by
 intro x hx y hy h' c'
 obtain ⟨k1,g1,rfl,_⟩:=H.el x hx
 obtain ⟨k2,g2,rfl,_⟩:=H.el y hy
 refine (hf k1 k2 _ _ rfl rfl ⟨h',c'⟩).mono fun r s' _ hr=>?_
 exact ⟨⟨_,hr.1,rfl⟩,hr.2⟩
theorem GV.perm {h:Heap} {c0:Nat} {V:ByteArray→List Int} {es es':List (List AV)} (H:GV h c0 V es) (hp:es'.Perm es):GV h c0 V es':=
 ⟨fun e he=>H.el e (hp.mem_iff.1 he)⟩
theorem GV.frame {h h':Heap} {c0:Nat} {V:ByteArray→List Int} {es:List (List AV)} (H:GV h c0 V es) (hh:∀ e∈es,h' (jI e)=h (jI e)):GV h' c0 V es:=
 ⟨fun e he=>by
  obtain ⟨key,gv,rfl,h1,h3⟩:=H.el e he
  exact ⟨key,gv,rfl,h1,(hh _ he).trans h3⟩⟩
def eE (A:List Wb.Array) (M:Mem) (key:ByteArray):List Int:=(List.range (bJ (dV A key)).toNat).map fun (j:Nat)=>M ⟨key,j⟩
end Go.Proofs.YtocppbmmfklbmaaGreat
set_option maxRecDepth 20000
set_option maxHeartbeats 4000000
namespace Go.Proofs.YtocppbmmfklbmaaGreat
open Go.AM Go.Wb
theorem rQ {A:List Wb.Array} (hA:gT A) {a b:Wb.Array} (ha:a∈A) (hb:b∈A) (h:a.key=b.key):a=b:=by
 obtain ⟨i,hi,hia⟩:=List.mem_iff_getElem.1 ha
 obtain ⟨j,hj,hjb⟩:=List.mem_iff_getElem.1 hb
 have e1:A[i]?=some a:=by rw [List.getElem?_eq_getElem hi,hia]
 have e2:A[j]?=some b:=by rw [List.getElem?_eq_getElem hj,hjb]
 rcases Nat.lt_trichotomy i j with h1 | h1 | h1
 ·exact absurd h (hA j i b a e2 e1 h1)
 ·subst h1; rw [←hia,←hjb]
 ·exact absurd h.symm (hA i j a b e1 e2 h1)
theorem qK {A:List Wb.Array} (hA:gT A) {a:Wb.Array} (ha:a∈A):dV A a.key=a.sizes:=by
 have h0:¬bD A a.key<0:=by
  unfold bD
  have h1:=lC (fun x:Wb.Array=>decide (x.key=a.key)) A
  have h2:A.any (fun x:Wb.Array=>decide (x.key=a.key))=true:=List.any_eq_true.2 ⟨a,ha,by simp⟩
  rw [h2] at h1
  have h3:=of_decide_eq_true h1
  omega
 obtain ⟨i,b,h1,h2,h3,h4,h5⟩:=jy h0
 rw [h4,rQ hA (List.mem_of_getElem? h1) ha h5]
theorem nC {A:List Wb.Array} (hA:gT A) {a:Wb.Array} (ha:a∈A) (M:Mem):eE A M a.key=bw M a:=by
 unfold eE bw
 rw [qK hA ha]
theorem jL:∀ (n:Nat) (D:List Nat),D.Nodup→(∀ x∈D,x<n)→D.length≤n
 | 0,D,_,h=>by
  cases D with
  | nil=>simp
  | cons x D=>exact absurd (h x List.mem_cons_self) (by omega)
 | n+1,D,hn,h=>by
  by_cases hm:n∈D
  ·have:=jL n (D.erase n) (hn.erase n) fun x hx=>by
    have h1:=h x (List.mem_of_mem_erase hx)
    have h2:x≠n:=fun e=>by subst e; exact hn.not_mem_erase hx
    omega
   rw [List.length_erase_of_mem hm] at this
   omega
  ·have:=jL n D hn fun x hx=>by
    have h1:=h x hx
    have h2:x≠n:=fun e=>hm (e▸hx)
    omega
   omega
def mw (A:List Wb.Array) (G:List Nat) (i:Nat):List AV:=match (cm A G)[i]? with
 | some p=>[.str p.1,p.2]
 | none=>[]
theorem ry {A:List Wb.Array} {G:List Nat} (h:G.length=A.length):(cm A G).length=A.length:=by simp [cm,h]
theorem ru {A:List Wb.Array} {G:List Nat} {i:Nat} (hi:i<A.length) (hg:G.length=A.length):∃ (a:Wb.Array) (gi:Nat),A[i]?=some a∧G[i]?=some gi∧(cm A G)[i]?=some (a.key,.row gi 1 0 (bJ a.sizes).toNat):=by
 have hgi:i<G.length:=by omega
 refine ⟨A[i],G[i],List.getElem?_eq_getElem hi,List.getElem?_eq_getElem hgi,?_⟩
 unfold cm
 rw [List.getElem?_eq_getElem (by simp; omega),List.getElem_zipWith]
theorem uU (A:List Wb.Array) (hA:gT A) (hA12:A.length≤12) (M:Mem) (G:List Nat) (cb g:Nat) (h0:Heap) (c0:Nat) (hm:MemAt h0 c0 g A M G) (hcb:cb≤c0) (hG:∀ gi∈G,cb≤gi) :
  ACalls Pg Fn50.n [.map g] ⟨h0,c0⟩ fun av s'=>∃ go es,av=.row go 2 0 es.length∧cb≤go∧s'.h go=some (.row 2 es .live none)∧GV s'.h cb (eE A M) es∧l8 A M (es.map (gOf (eE A M)))∧∀ k,k<c0→s'.h k=h0 k:=by
 refine Fn50.calls .keep ?_
 unfold Fn50.ac
 obtain ⟨ver,hmap⟩:=hm.map
 have hgc:=hm.gc
 have hml:=ry hm.len
 have hgi0:¬g=c0:=by omega
 simp [rgI,hmap,hgi0]
 obtain ⟨h1,hh1⟩:∃ h1,h1=upd (upd h0 c0 (some (.row 2 [] .live none))) (c0+1) (some (.iter g ver [])):=⟨_,rfl⟩
 rw [←hh1]
 have hF:∀ k,k<c0→h1 k=h0 k:=fun k hk=>by rw [hh1,ad (by omega),ad (by omega)]
 have hit1:h1 (c0+1)=some (.iter g ver []):=by rw [hh1,ah]
 have hgo1:h1 c0=some (.row 2 [] .live none):=by rw [hh1,ad (by omega),ah]
 obtain ⟨Inv,hInv⟩:∃ Inv:Nat→Slots→St→Prop,Inv=fun (m:Nat) sl s'=>∃ (D:List Nat) (go:Nat),D.Nodup∧(∀ i∈D,i<A.length)∧m=A.length-D.length∧sl 3=.row go 2 0 D.length∧s'.h (c0+1)=some (.iter g ver D)∧s'.h go=some (.row 2 (D.map (mw A G)) .live none)∧c0≤go∧go≠c0+1∧go<s'.c∧(∀ k,k<c0→s'.h k=h0 k)∧c0+1+1≤s'.c:=⟨_,rfl⟩
 refine cH Fn50.W0 (by rfl) Inv A.length ?_ ?_
 ·rw [hInv]
  exact ⟨[],c0,by simp,by simp,by simp,by simp,hit1,by simpa using hgo1,Nat.le_refl _,by omega,by show c0<c0+1+1; omega,hF,Nat.le_refl _⟩
 ·intro m v s' hI
  rw [hInv] at hI
  obtain ⟨D,go,i1,i2,i3,i4,i5,i6,i7,i8,i9,i10,i11⟩:=hI
  obtain ⟨h,c⟩:=s'
  simp only at i5 i6 i9 i10 i11
  simp at i4
  have hmh:=(i10 g hgc).trans hmap
  have hDl:=jL A.length D i1 i2
  simp
  show nxW _ _ _
  simp only [nxW,i5,hmh]
  have hkl:(kvs AV.str (fun v:AV=>v) (cm A G)).length=A.length:=by simp [kvs,hml]
  have hE:∀ i,i<A.length→∃ (a:Wb.Array) (gi:Nat),A[i]?=some a∧G[i]?=some gi∧mw A G i=[.str a.key,.row gi 1 0 (eE A M a.key).length]∧gOf (eE A M) (mw A G i)=⟨a.key,bw M a⟩∧(kvs AV.str (fun v:AV=>v) (cm A G))[i]?=some (.str a.key,.row gi 1 0 (eE A M a.key).length):=fun i hi=>by
   obtain ⟨a,gi,e1,e2,e3⟩:=ru (A:=A) (G:=G) hi hm.len
   have hva:=nC hA (List.mem_of_getElem? e1) M
   have hme:mw A G i=[.str a.key,.row gi 1 0 (eE A M a.key).length]:=by unfold mw; rw [e3,hva,kb]
   refine ⟨a,gi,e1,e2,hme,?_,?_⟩
   ·rw [hme]; simp [gOf,dG,hva]
   ·unfold kvs; rw [List.getElem?_map,e3,hva,kb]; rfl
  refine ⟨trivial,fun hall=>?_,fun i q hq hnd=>?_⟩
  ·rw [hkl] at hall
   have hperm:D.Perm (List.range A.length):=(List.perm_ext_iff_of_nodup i1 List.nodup_range).2 fun x=>⟨fun hx=>List.mem_range.2 (i2 x hx),fun hx=>hall x (List.mem_range.1 hx)⟩
   obtain ⟨es,hes⟩:∃ es,es=D.map (mw A G):=⟨_,rfl⟩
   rw [←hes] at i6
   have hel:es.length=D.length:=by rw [hes]; simp
   have hgv:GV h cb (eE A M) es:=⟨fun e he=>by
    rw [hes] at he
    obtain ⟨i,hi,rfl⟩:=List.mem_map.1 he
    obtain ⟨a,gi,e1,e2,e3,e4,e5⟩:=hE i (i2 i hi)
    have hgm:=List.mem_of_getElem? e2
    refine ⟨a.key,gi,e3,hG gi hgm,?_⟩
    rw [i10 gi (hm.lt gi hgm).1,hm.rows i a gi e1 e2,nC hA (List.mem_of_getElem? e1)]⟩
   have hgvne:∀ e∈es,jI e≠go:=fun e he=>by
    obtain ⟨i,hi,rfl⟩:=List.mem_map.1 (hes▸he)
    obtain ⟨a,gi,e1,e2,e3,e4,e5⟩:=hE i (i2 i hi)
    have:=(hm.lt gi (List.mem_of_getElem? e2)).1
    rw [e3]; show gi≠go; omega
   simp [i4]
   rw [←hel]
   refine (ma es (by omega) hgv.ok Fn95.n klt go h c i6 i9 (hgv.cmps vj)).mono ?_
   rintro av ⟨h2,c2⟩ hc2 ⟨t1,t2⟩
   simp only at hc2 t1 t2
   have hsl:(dF klt es).length=es.length:=ed _ _ _
   simp [i4]
   refine ⟨go,dF klt es,⟨rfl,by omega⟩,by omega,t1,(hgv.frame fun e he=>t2 _ (hgvne e he)).perm (m7 _ _),⟨?_,vq _ _⟩,fun k hk=>(t2 k (by omega)).trans (i10 k hk)⟩
   refine ((m7 klt es).map _).trans ?_
   rw [hes]
   refine ((hperm.map (mw A G)).map _).trans (List.Perm.of_eq ?_)
   rw [List.map_map]
   refine List.ext_getElem? fun i=>?_
   by_cases hi:i<A.length
   ·obtain ⟨a,gi,e1,e2,e3,e4,e5⟩:=hE i hi
    rw [List.getElem?_map,List.getElem?_range hi,List.getElem?_map,e1]
    simp only [Option.map_some,Function.comp,e4]
   ·rw [List.getElem?_eq_none (by simpa using hi),List.getElem?_eq_none (by simpa using hi)]
  ·have hin:i<A.length:=by
    have:=(List.getElem?_eq_some_iff.1 hq).1
    rw [hkl] at this; exact this
   obtain ⟨a,gi,e1,e2,e3,e4,e5⟩:=hE i hin
   rw [e5] at hq
   injection hq with hq
   subst hq
   obtain ⟨K,hK⟩:∃ K,K=(eE A M a.key).length:=⟨_,rfl⟩
   rw [←hK] at e3 e5 ⊢
   have hnd2:(D++[i]).Nodup:=by
    rw [List.nodup_append]
    exact ⟨i1,by simp,fun x hx y hy e=>hnd (by rw [List.mem_singleton.1 hy] at e; exact e▸hx)⟩
   have hlt2:∀ x∈D++[i],x<A.length:=fun x hx=>by
    rcases List.mem_append.1 hx with hx | hx
    ·exact i2 x hx
    ·rw [List.mem_singleton.1 hx]; exact hin
   have hl2:=jL A.length _ hnd2 hlt2
   simp only [List.length_append,List.length_singleton] at hl2
   obtain ⟨h2,hh2⟩:∃ h2,h2=upd h (c0+1) (some (.iter g ver (D++[i]))):=⟨_,rfl⟩
   have j1:=(congrFun hh2 (c0+1)).trans ah
   have k2:∀ k,k≠c0+1→h2 k=h k:=fun k hk=>by rw [hh2,ad hk]
   have j2:=(k2 g (by omega)).trans hmh
   have j3:=(k2 go i8).trans i6
   have hap:=bS (sz:=2) (bytes:=40) (md:=.plain) (x:=[.str a.key,.row gi 1 0 K]) (b:=true) (s:=⟨h2,c⟩) (len:=D.length) (by simp) j3 (by simp) (by decide) (by decide) (by decide) rfl (by omega)
   simp only at hap
   rw [←hh2]
   simp [ntI,j1,j2,e5,i4,aJ,bsI,az,hap]
   refine ⟨A.length-(D.length+1),by omega,?_⟩
   rw [hInv]
   refine ⟨D++[i],c,hnd2,hlt2,by simp,by simp,?_,?_,by omega,by omega,by show c<c+1; omega,fun k hk=>?_,by show _≤c+1; omega⟩
   ·show upd (upd h2 go none) c _ (c0+1)=_
    rw [ad (by omega),ad (Ne.symm i8)]; exact j1
   ·show upd (upd h2 go none) c _ c=_
    rw [ah,List.map_append,List.map_singleton,e3]
   ·show upd (upd h2 go none) c _ k=_
    rw [ad (by omega),ad (by omega),k2 k (by omega)]; exact i10 k hk
end Go.Proofs.YtocppbmmfklbmaaGreat
set_option maxRecDepth 20000
set_option maxHeartbeats 4000000
namespace Go.Proofs.YtocppbmmfklbmaaGreat
open Go.AM Go.Wb
theorem _root_.Go.AM.ACalls.deepT {P:Program} {f:FuncId} {args:List AV} {s:St} {R R':AV→St→Prop} (D:Nat→Prop) (hp:ACalls P f args s R) (hr:∀ av s',R av s'→∃ (x:AV) (n:Int) (x':AV),av=.tup [x,.int n]∧Frz s'.h D x x'∧∀ h'',FzH D s'.h h''→R' (.tup [x',.int n]) ⟨h'',s'.c⟩):ACalls P f args s R':=by
 intro G w vs hS hv
 refine (hp G w vs hS hv).mono fun v w' ⟨av,G',s',h1,h2,h3,h4⟩=>?_
 obtain ⟨x,n,x',rfl,hy,hR⟩:=hr av s' h4
 have hn:Rep G' (.tup [norm x,.int n]) v:=fW _ _ h3
 obtain ⟨us,rfl,hl,hrep⟩:=hn.ofTup
 have h0:∃ u0 u1,us.toList=[u0,u1]:=by
  match hus:us.toList,hl with
  | [u0,u1],_=>exact ⟨u0,u1,rfl⟩
 obtain ⟨u0,u1,hus⟩:=h0
 have r0:=hrep 0 (norm x) u0 rfl (by rw [hus]; rfl)
 have r1:=hrep 1 (.int n) u1 rfl (by rw [hus]; rfl)
 obtain ⟨G2,s2,q1,q2,q3,q4,q5⟩:=hy.ok G' s' w' u0 h2 (FzH.refl D _) r0
 refine ⟨.tup [x',.int n],G2,s2,h1.trans q1,q2,?_,?_⟩
 ·have:us=#[u0,u1]:=by apply Array.toList_inj.1; rw [hus]
  rw [this]
  refine .tup _ _ rfl fun j c v hc hv=>?_
  match j with
  | 0=>simp at hc hv; subst hc; subst hv; exact q3
  | 1=>simp at hc hv; subst hc; subst hv; exact r1.mono q1.le
  | j+2=>simp at hc
 ·have:=hR s2.h q5
  obtain ⟨h2',c2'⟩:=s2
  simp only at q4 this
  subst q4
  exact this
def dH (p:Wb.Prog) (gs:List Wb.Grid):Int:=if bu p=0 then cV p.arrays ⟨#[]⟩ gs else bu p
theorem sL {p:Wb.Prog} {gs:List Wb.Grid} (h:dH p gs=0):aV p=0∧bu p=0∧(∀ x∈(au p).2.l,x.ok p.arrays=true)∧cu p.arrays (au p).2.l≤200000∧∀ g∈gs,jb p.arrays g:=by
 unfold dH at h
 split at h
 ·rename_i h1
  have h1':=h1
  unfold bu at h1
  split at h1
  ·rename_i h2
   split at h1
   ·rename_i h3
    unfold bV at h1
    split at h1
    ·cases h1
    ·rename_i h4
     split at h1
     ·cases h1
     ·rename_i h5
      refine ⟨h2,h1',fun x hx=>?_,by omega,kh h⟩
      have h4':((au p).2.l.any fun i=>!i.ok p.arrays)=false:=by simpa using h4
      have:=List.any_eq_false.1 h4' x hx
      simpa using this
   ·exact absurd h1 ‹_›
  ·exact absurd h1 ‹_›
 ·exact absurd h ‹_›
theorem uo (A:List Wb.Array) (l:List Inst) (a b:List Int) (M:Mem):fJ A l (a++b) M=fJ A l b (fJ A l a M):=List.foldl_append
theorem rh {A:List Wb.Array} {l:List Inst} (hl:∀ x∈l,cA A (Step.expr x.step)):∀ (o:List Int) (M:Mem),eG M→eG (fJ A l o M)
 | [],M,hM=>hM
 | k::o,M,hM=>by
  have:fJ A l (k::o) M=fJ A l o (match l[k.toNat]? with | some x=>iM A M x | none=>M):=rfl
  rw [this]
  refine rh hl o _ ?_
  cases h:l[k.toNat]? with
  | none=>exact hM
  | some x=>exact uu hM (hl x (List.mem_of_getElem? h))
theorem rJ (n:Nat):lc (n+1)=lc n++[(n:Int)]:=by simp [lc,List.range_succ]
structure Going (h:Heap) (c cv g go:Nat) (p:Wb.Prog) (stm which vals rnd acc frm:AV) (M:Mem) (G:List Nat):Prop where
 ran:RanAt h c go p stm which vals rnd acc frm
 mem:MemAt h c g p.arrays M G
 low:∀ k,ng go stm which vals acc frm k→k<cv
 hi:∀ gi∈G,cv≤gi
theorem Going.do_ {h:Heap} {c cv g go:Nat} {p:Wb.Prog} {stm which vals rnd acc frm:AV} {M:Mem} {G:List Nat} (x:Going h c cv g go p stm which vals rnd acc frm M G) (hp:Right p) (hc:aA p.steps≤300) (hM:eG M) (hok:∀ x∈(au p).2.l,x.ok p.arrays=true) (hmany:cu p.arrays (au p).2.l≤200000) (k:Nat) (hk:k<(au p).2.l.length) :
  ACalls Pg Fn49.n [.ptr go 0 0,.int k,.map g] ⟨h,c⟩ fun av s'=>Going s'.h s'.c cv g go p stm which vals rnd acc frm (fJ p.arrays (au p).2.l [(k:Int)] M) G∧∀ k,k<c→k∉G→s'.h k=h k:=by
 have hx:=List.getElem?_eq_getElem hk
 refine (uT p hp hc M hM stm which vals rnd acc frm go k g G _ hx (hok _ (List.getElem_mem hk)) hmany h c x.ran x.mem fun gi hg hr=>by have:=x.hi gi hg; have:=x.low gi hr; omega).mono ?_
 rintro av ⟨h1,c1⟩ hc1 ⟨q1,q2⟩
 simp only at hc1 q1 q2
 have e:fJ p.arrays (au p).2.l [(k:Int)] M=iM p.arrays M (au p).2.l[k]:=by simp [fJ,hk]
 rw [e]
 exact ⟨⟨x.ran.re hc1 fun j hj=>q2 j (x.ran.lt hj) fun hg=>by have:=x.hi j hg; have:=x.low j hj; omega,q1,x.low,x.hi⟩,q2⟩
theorem qH (p:Wb.Prog) (hcnt:aA p.steps≤300) (hA12:p.arrays.length≤12) (gs:List Wb.Grid) (h0:Heap) (c0:Nat) :
  ACalls Pg Fn10.n [p.av,row (gs.map Grid.cells)] ⟨h0,c0⟩ fun av s'=>Fr c0 h0 s'.h s'.c∧if dH p gs=0 then ∃ go es,av=.tup [.row go 2 0 es.length,.int 0]∧c0≤go∧s'.h go=some (.row 2 es .live none)∧(∃ V,GV s'.h c0 V es∧l8 p.arrays (fJ p.arrays (au p).2.l (lc (au p).2.l.length) (iH gs)) (es.map (gOf V))) else av=.tup [.sl [] true,.int (dH p gs)]:=by
 have hpl:=fun h c=>qM p hcnt h c
 simp only [Prog.av] at hpl
 refine Fn10.calls .keep ?_
 unfold Fn10.ac
 obtain ⟨hb,hhb⟩:∃ hb,hb=upd h0 c0 (some (.row 2 [[row (p.arrays.map Array.cells),row (p.steps.map Step.cells)]] .live none)):=⟨_,rfl⟩
 have hF0:Fr c0 h0 hb (c0+1):=by rw [hhb]; exact (Fr.refl _ _).upd (Nat.le_refl _) (Nat.le_succ _)
 have hbx:=(congrFun hhb c0).trans ah
 simp [Prog.av,←hhb,hbx]
 refine (hpl hb (c0+1)).mono ?_
 rintro av ⟨h1,c1⟩ hc1 ⟨hF1,hq⟩
 simp only at hc1 hF1 hq
 have hFF1:Fr c0 h0 h1 c1:=⟨by omega,fun k hk=>(hF1.h k (by omega)).trans (hF0.h k hk)⟩
 have hbx1:=(hF1.h c0 (by omega)).trans hbx
 by_cases hz:bu p=0
 case neg=>
  rw [if_neg hz] at hq
  subst hq
  have he:dH p gs=bu p:=by simp [dH,hz]
  rw [he]
  simp [hz]
  exact hFF1
 rw [if_pos hz] at hq
 obtain ⟨go,stm,which,vals,rnd,acc,frm,rfl,hr⟩:=hq
 have he:dH p gs=cV p.arrays ⟨#[]⟩ gs:=by simp [dH,hz]
 have hpf:aV p=0:=by
  refine Classical.byContradiction fun h=>?_
  unfold bu at hz
  rw [if_neg h] at hz; exact h hz
 have hp:=fh hpf
 have hcg:=uR p hp.arrays gs
 simp only [Prog.av] at hcg
 rw [←he] at hcg
 simp [hbx1]
 refine ACalls.pure hcg fun c2 hc2=>?_
 by_cases hz2:dH p gs=0
 case neg=>
  simp [hz2]
  exact ⟨by show c0≤c2; omega,hFF1.h⟩
 obtain ⟨_,_,hok,hmany,hgs⟩:=sL hz2
 have hva:=uS p hp gs hgs h1 c2
 simp only [Prog.av] at hva
 simp [hz2,hbx1]
 refine hva.mono ?_
 rintro av ⟨h3,c3⟩ hc3 ⟨hF3,g,G,rfl,hg,hG,hm⟩
 simp only at hc3 hF3 hm
 obtain ⟨l,hl⟩:∃ l,l=(au p).2.l:=⟨_,rfl⟩
 have hgo:Going h3 c3 c2 g go p stm which vals rnd acc frm (iH gs) G:=⟨hr.re (by omega) fun k hk=>hF3.h k (by have:=hr.lt hk; omega),hm,fun k hk=>by have:=hr.lt hk; omega,hG⟩
 have hobj:=hgo.ran.obj
 have hwl:=hgo.ran.plo.hwhich.len ⟨h3,c3⟩
 have ewl:(ak ((au p).2.l.map fun i=>(i.num:Int))).length=(au p).2.l.length:=by simp [ak]
 rw [ewl,←hl] at hwl
 have hMg:=ui hgs
 have hinv:=dL hp
 have hlen5:l.length≤200000:=by
  have:=qZ p.arrays l
  have h1:(l.length:Int)≤cu p.arrays l:=by
   clear hwl hgo hl
   induction l with
   | nil=>simp [cu]
   | cons y ys ih=>
    have:=qZ p.arrays ys
    have e:=pS p.arrays [y] ys
    rw [pT] at e
    simp only [List.singleton_append] at e
    rw [e]
    have:=ih this
    simp; omega
  rw [hl] at h1 ⊢
  omega
 simp [hobj,hwl]
 obtain ⟨Inv,hInv⟩:∃ Inv:Nat→List Inst→Slots→St→Prop,Inv=fun (i:Nat) r sl s'=>Going s'.h s'.c c2 g go p stm which vals rnd acc frm (fJ p.arrays (au p).2.l (lc i) (iH gs)) G∧(∀ k,k<c0→s'.h k=h0 k)∧c2≤s'.c:=⟨_,rfl⟩
 refine bq 33 Fn10.W0 l Inv (by rfl) (by rfl) ?_ ?_ ?_
 ·rw [hInv]
  exact ⟨by simp,hgo,fun k hk=>(hF3.h k (by omega)).trans (hFF1.h k hk),hc3⟩
 ·intro v s' hv hI
  rw [hInv] at hI
  obtain ⟨q1,q2,q3⟩:=hI
  obtain ⟨h4,c4⟩:=s'
  simp only at q1 q2 q3
  simp [hv]
  refine (uU p.arrays hp.apart hA12 _ G c2 g h4 c4 q1.mem q3 q1.hi).mono ?_
  rintro av ⟨h5,c5⟩ hc5 ⟨gr,es,rfl,t1,t2,t3,t4,t5⟩
  simp only at hc5 t2 t3 t5
  simp
  refine ⟨⟨by show c0≤c5; omega,fun k hk=>(t5 k (by omega)).trans (q2 k hk)⟩,gr,es,⟨rfl,rfl⟩,by omega,t2,eE p.arrays (fJ p.arrays (au p).snd.l (lc l.length) (iH gs)),⟨fun e he=>?_⟩,?_⟩
  ·obtain ⟨key,gv,e1,e2,e3⟩:=t3.el e he
   exact ⟨key,gv,e1,by omega,e3⟩
  ·rw [hl] at t4 ⊢; exact t4
 ·intro i x xs v s' hi hx hl2 hv hI
  rw [hInv] at hI
  obtain ⟨q1,q2,q3⟩:=hI
  obtain ⟨h4,c4⟩:=s'
  simp only at q1 q2 q3
  have hw:=ae (x:=(i:Int)+1) (by omega) (by omega)
  simp [hv,hi]
  refine (q1.do_ hp hcnt (rh (fun y hy=>(hinv y hy).expr) _ _ hMg) hok hmany i (by rw [←hl]; exact hi)).mono ?_
  rintro av ⟨h5,c5⟩ hc5 ⟨t1,t2⟩
  simp only at hc5 t1 t2
  simp [hv,hw]
  rw [hInv]
  refine ⟨?_,fun k hk=>(t2 k (by omega) fun hg=>by have:=q1.hi k hg; omega).trans (q2 k hk),by show c2≤c5; omega⟩
  rw [rJ,uo]
  exact t1
end Go.Proofs.YtocppbmmfklbmaaGreat
set_option maxRecDepth 20000
set_option maxHeartbeats 4000000
namespace Go.Proofs.YtocppbmmfklbmaaGreat
open Go.AM Go.Wb
@[simp] theorem wA (l:List Wb.Spot):aX (l.map Spot.cells)=l.map Spot.cells:=b8 (fun _=>rfl) l
def RefMem (h:Heap) (g:Nat) (M:Mem):Prop:=∃ (m:List (Wb.Spot×Int)) (ver:Nat),h g=some (.map (kvs gH AV.int m) ver)∧∀ s,M s=(bF m s).getD 0
theorem RefMem.set {h:Heap} {c g:Nat} {M:Mem} (x:RefMem h g M) (s:Wb.Spot) (v:Int):∃ b,muI (.agg [.str,.int]) (.map g) (.agg (Spot.cells s)) (.int v) ⟨h,c⟩=some ⟨AM.upd h g b,c+1⟩∧∀ h',h' g=b→RefMem h' g (fun s'=>if s'=s then v else M s'):=by
 obtain ⟨m,ver,h1,h2⟩:=x
 have hmu:=jm jJ (f:=AV.int) (g:=g) (s:=⟨h,c⟩) h1 s v
 refine ⟨_,hmu,fun h' hh=>⟨cZ m s v,c,hh,fun s'=>?_⟩⟩
 rw [kO]
 show (if s'=s then v else M s')=_
 split
 ·rfl
 ·exact h2 s'
theorem RefMem.get {h:Heap} {c g:Nat} {M:Mem} (x:RefMem h g M) (s:Wb.Spot):lkI (.agg [.str,.int]) (.int 0) false (.map g) (.agg (Spot.cells s)) ⟨h,c⟩=some (.int (M s)):=by
 obtain ⟨m,ver,h1,h2⟩:=x
 have hlk:=gB jJ (f:=AV.int) (z:=.int 0) (ok:=false) (s:=⟨h,c⟩) h1 s
 have hms:((bF m s).map AV.int).getD (.int 0)=.int (M s):=by rw [h2 s]; cases bF m s <;> rfl
 rw [hms] at hlk
 exact hlk
end Go.Proofs.YtocppbmmfklbmaaGreat
set_option maxRecDepth 20000
set_option maxHeartbeats 4000000
namespace Go.Proofs.YtocppbmmfklbmaaGreat
open Go.AM Go.Wb
theorem FzH.low {c0:Nat} {h h':Heap} (x:FzH (fun k=>c0≤k) h h') {k:Nat} (hk:k<c0):h' k=h k:=by
 rcases x k with e | ⟨h1,_⟩
 ·exact e
 ·omega
theorem uG (p:Wb.Prog) (hcnt:aA p.steps≤300) (hA12:p.arrays.length≤12) (gs:List Wb.Grid) (h0:Heap) (c0:Nat) :
  ACalls Pg Fn10.n [p.av,row (gs.map Grid.cells)] ⟨h0,c0⟩ fun av s'=>Fr c0 h0 s'.h s'.c∧∃ L,av=.tup [row (L.map Grid.cells),.int (dH p gs)]∧(dH p gs≠0→L=[])∧(dH p gs=0→l8 p.arrays (fJ p.arrays (au p).2.l (lc (au p).2.l.length) (iH gs)) L):=by
 refine ACalls.deepT (fun k=>c0≤k) (qH p hcnt hA12 gs h0 c0) ?_
 rintro av s' ⟨hF,hq⟩
 by_cases hz:dH p gs=0
 ·rw [if_pos hz] at hq
  obtain ⟨go,es,rfl,h1,h2,V,h3,h4⟩:=hq
  refine ⟨_,_,_,rfl,h3.frz h2 h1,fun h'' hh=>⟨⟨hF.c,fun k hk=>(FzH.low hh hk).trans (hF.h k hk)⟩,es.map (gOf V),by rw [hz],fun h=>absurd hz h,fun _=>h4⟩⟩
 ·rw [if_neg hz] at hq
  refine ⟨_,_,_,hq,.leaf _,fun h'' hh=>⟨⟨hF.c,fun k hk=>(FzH.low hh hk).trans (hF.h k hk)⟩,[],rfl,fun _=>rfl,fun h=>absurd h hz⟩⟩
theorem fy (l:List Int):aO Pg Fn30.n [row (ak l),row (ak l)] (.bool true):=by
 rintro ⟨h0,c0⟩
 refine ACalls.small fun hs=>?_
 have hlen:l.length≤68719476736:=by simp at hs; exact hs.1
 refine Fn30.calls .frz ?_
 unfold Fn30.ac
 simp
 refine bU 13 Fn30.W0 l (fun (i:Nat) r sl=>True) (by rfl) (by rfl) ?_ ?_ ?_
 ·simp
 ·intro v c1 hv hc hI
  simp [hv]
 ·intro i x xs v c1 hi hx hl hv hc hI
  have hw:=ae (x:=(i:Int)+1) (by omega) (by omega)
  simp [hv,hi,hx,hw]
  exact hc
end Go.Proofs.YtocppbmmfklbmaaGreat
set_option maxRecDepth 20000
set_option maxHeartbeats 4000000
namespace Go.Proofs.YtocppbmmfklbmaaGreat
open Go.AM Go.Wb
def p7:Wb.Prog:=⟨[⟨⟨#[97]⟩,[1]⟩],[.mk 3 ⟨#[115]⟩ [] [] [] [] ⟨#[97]⟩ [⟨0,[]⟩] (.mk 1 7 ⟨0,[]⟩ ⟨#[]⟩ [] [])]⟩
theorem sK:dH p7 []=0:=by decide
theorem vB:(p7.arrays.map fun a=>(⟨a.key,bw (fJ p7.arrays (au p7).2.l (lc (au p7).2.l.length) (iH [])) a⟩:Wb.Grid))=[⟨⟨#[97]⟩,[7]⟩]:=by rfl
theorem uW:aO Pg Fn62.n [] p7.av:=by
 rintro ⟨h0,c0⟩
 refine Fn62.calls .frz ?_
 unfold Fn62.ac
 simp [bsI,az,aJ]
 rfl
theorem lq:aO Pg Fn19.n [] (.bool true):=by
 rintro ⟨h0,c0⟩
 refine Fn19.calls .frz ?_
 unfold Fn19.ac
 have hrun:=fun h c=>uG p7 (by decide) (by decide) [] h c
 simp
 refine ACalls.pure uW fun c1 hc1=>?_
 simp
 refine (hrun h0 c1).mono ?_
 rintro av ⟨h2,c2⟩ hc2 ⟨hF,L,rfl,_,hL⟩
 have hL:=(hL sK).1
 rw [vB] at hL
 have hL1:L=[⟨⟨#[97]⟩,[7]⟩]:=List.perm_singleton.1 hL
 subst hL1
 rw [sK]
 simp [Grid.cells,ak]
 exact aE fun k hk=>hF.h k (by omega)
end Go.Proofs.YtocppbmmfklbmaaGreat
set_option maxRecDepth 20000
namespace Go.Proofs.YtocppbmmfklbmaaGreat
open Go.AM Go.Wb
theorem vl {G G':Gh} {s s':St} {w w':World} (h:Stp G s w G' s' w') (hs:∀ k,s.h k=none):Go.RowKit.Below w.heap.size w w':=
 ⟨h.os,h.tape,h.output,h.size,fun k hk=>h.keep k hk fun ⟨g,body,l,hg,_⟩=>by rw [hs g] at hg; cases hg⟩
theorem rV (f:FuncId) (hcall:∀ (xs:_root_.Array Value) (w:World),(callFunc f xs).run Tryz.prog w=.ok (.enter f xs) w)
  (hlaw:∀ L:List Int,L.length≤1048576→∀ (h0:Heap) (c0:Nat),ACalls Pg f [row (ak L)] ⟨h0,c0⟩ fun av s'=>av=.bool true∧s'.h=h0)
  (W:World) (a:Option Addr) (len cap:Nat) (zs:List Int) (hl:len≤cap) (hz:zs.length=len) (hlen:len≤1048576)
  (hcell:len=0∨∃ b off,a=some ⟨b,off,none⟩∧∀ j,j<len→W.cell? ⟨b,off+j,none⟩=some (.int .i64 (zs.getD j 0))) :
  Calls Tryz.prog f #[.slice a len cap] W fun e W'=>e=.returned (.bool true)∧Go.RowKit.Below W.heap.size W W':=by
 obtain ⟨G,hG⟩:∃ G:Gh,G=⟨fun _=>none,fun b o=>W.cell? ⟨b,o,none⟩⟩:=⟨_,rfl⟩
 have hS:Sim G ⟨fun _=>none,0⟩ W:=by
  refine ⟨fun b o v h=>?_,fun g l h=>?_,fun g b h=>?_,fun i j bi bj li lj _ hi=>?_⟩
  ·rw [hG] at h; exact h
  ·rw [hG] at h; cases h
  ·cases h
  ·cases hi
 have hrow:row (ak zs)=.sl (ak zs) false:=by simp
 have hil:(ak zs).length=len:=by simp [hz]
 have hget:∀ (i:Nat) (e:List AV),(ak zs)[i]?=some e→i<len∧e=[.int (zs.getD i 0)]:=fun i e he=>by
  have hi:i<zs.length:=by
   have:=(List.getElem?_eq_some_iff.1 he).1
   rw [vu] at this; exact this
  refine ⟨by omega,?_⟩
  unfold ak at he
  rw [List.getElem?_map,List.getElem?_eq_getElem hi] at he
  rw [List.getD_eq_getElem?_getD,List.getElem?_eq_getElem hi]
  exact (Option.some.inj he).symm
 have hrep:Rep G (row (ak zs)) (.slice a len cap):=by
  rw [hrow]
  have key:Rep G (.sl (ak zs) false) (.slice a (ak zs).length cap):=by
   obtain ⟨b,off,hb⟩:∃ b off,(len≠0→a=some ⟨b,off,none⟩)∧∀ j,j<len→W.cell? ⟨b,off+j,none⟩=some (.int .i64 (zs.getD j 0)):=by
    rcases hcell with h | ⟨b,off,h1,h2⟩
    ·exact ⟨0,0,fun hn=>absurd h hn,fun j hj=>by omega⟩
    ·exact ⟨b,off,fun _=>h1,h2⟩
   refine .sl (ak zs) false a cap b off 1 (fun i _=>.int .i64 (zs.getD i 0)) (by omega) (fun h=>by cases h) (fun hne=>hb.1 fun h0=>hne (List.length_eq_zero_iff.1 (by omega))) (fun i e he=>by rw [(hget i e he).2]; rfl) (fun i e j c he hc=>?_) (fun i e j c he hc=>?_) (by omega)
   ·obtain ⟨h1,rfl⟩:=hget i e he
    match j with
    | 0=>
     rw [hG]
     show W.cell? ⟨b,off+i*1+0,none⟩=_
     rw [Nat.mul_one,Nat.add_zero]
     exact hb.2 i h1
    | j+1=>simp at hc
   ·obtain ⟨h1,rfl⟩:=hget i e he
    match j with
    | 0=>simp at hc; subst hc; exact .sc _ rfl
    | j+1=>simp at hc
  rw [hil] at key
  exact key
 have hc:=hlaw zs (by omega) (fun _=>none) 0 G W [.slice a len cap] hS (RepL.cons hrep (RepL.nil G))
 unfold CallOk at hc
 rw [hcall] at hc
 refine hc.mono fun e w' he=>?_
 cases e with
 | returned v=>
  obtain ⟨av,G',s',h1,h2,h3,rfl,_⟩:=he
  have hv:v=.bool true:=by cases h3; rfl
  exact ⟨by rw [hv],vl h1 fun _=>rfl⟩
 | _=>exact absurd he id
end Go.Proofs.YtocppbmmfklbmaaGreat
