/- Part of the claim: see its last text. -/
import Derived.Test.YtjhogglgkjcacaaGreatMc1
import Derived.Test.YtjhogglgkjcacaaGreatMa35
import Derived.Below
import Derived.Test.YtjhogglgkjcacaaGreatMc0
set_option linter.all false
set_option maxRecDepth 20000
set_option maxHeartbeats 4000000
namespace Go.Proofs.YtjhogglgkjcacaaGreat
open Go.AM Go.Wb
theorem oi {α:Type} (p:α→Bool):∀ (l:List α) (i:Int),0≤i→(aS p l i = -1∧l.filter (fun x=>!p x)=l)∨∃ (k:Nat) (hk:k<l.length),aS p l i=i+k∧(l.take k).filter (fun x=>!p x)=l.take k∧p l[k]=true
 | [],i,_=>.inl ⟨rfl,rfl⟩
 | x::l,i,hi=>by
  unfold aS
  by_cases h:p x=true
  ·exact .inr ⟨0,by simp,by simp [h],by simp,by simpa using h⟩
  ·simp only [h]
   rcases oi p l (i+1) (by omega) with ⟨h1,h2⟩ | ⟨k,hk,h1,h2,h3⟩
   ·exact .inl ⟨by simpa using h1,by simp [h,h2]⟩
   ·refine .inr ⟨k+1,by simp; exact hk,?_,?_,by simpa using h3⟩
    ·simp; rw [h1]; omega
    ·simp [h,h2]
def vi (f:Nat) (p:Wb.Step→Bool):Prop:=∀ x:Wb.Step,aO Pg f [x.av] (.bool (p x))
theorem k9 (x:Wb.Step):aB 15 x.cells=true:=by
 obtain ⟨_,_,_,_,_,_,_,_,⟨_,_,_,_,_,_⟩⟩:=x; rfl
theorem eS (x:Wb.Step):x.cells.length=15:=by
 obtain ⟨_,_,_,_,_,_,_,_,⟨_,_,_,_,_,_⟩⟩:=x; rfl
theorem iN (l:List Wb.Step) (f:Nat) (p:Wb.Step→Bool) (hp:vi f p) (h:Heap) (g c:Nat) (hg:h g=some (.row 15 (l.map Step.cells) .live none)) (hl:l.length≤68719476736) :
  ACalls Pg Fn307.n [.row g 15 0 l.length,.fn (.func f) [] []] ⟨h,c⟩ fun av s'=>av=.int (aS p l 0)∧s'.h=h:=by
 refine Fn307.calls .frz ?_
 unfold Fn307.ac
 simp
 refine bT 8 Fn307.W0 l (fun i r sl=>aS p l 0=aS p r i) (by rfl) (by rfl) ?_ ?_ ?_
 ·simp
 ·intro v c1 hv hc hI
  simp [hv,hI,aS]
 ·intro i x xs v c1 hi hx hl2 hv hc hI
  have hw:=ae (x:=(i:Int)+1) (by omega) (by omega)
  have hge:(l.map Step.cells)[i]?=some x.cells:=by simp [hi,hx]
  have h15:x.cells.take 15=x.cells:=List.take_of_length_le (by rw [eS]; omega)
  have hpx:=hp x
  rw [Step.av] at hpx
  simp [hv,hi,hg,hx,eS,h15]
  refine ACalls.pure hpx fun c2 hc2=>?_
  by_cases hpx:p x=true
  ·simp [hpx,hI,aS]
  ·simp [hpx,hv,hw,hI,aS]; omega
theorem lO {p:Wb.Step→Bool} {l:List Wb.Step} {j:Nat} (hj:j<l.length):(l.take (j+1)).filter p=(l.take j).filter p++if p l[j]=true then [l[j]] else []:=by
 rw [List.take_add_one,List.getElem?_eq_getElem hj,List.filter_append]
 cases h:p l[j] <;> simp [h]
theorem im (l:List Wb.Step) (f:Nat) (p:Wb.Step→Bool) (hp:vi f p) (h0:Heap) (g c0:Nat) (hg:h0 g=some (.row 15 (l.map Step.cells) .live none)) (hgc:g<c0) (hl:l.length≤1000000) :
  ACalls Pg Fn240.n [.row g 15 0 l.length,.fn (.func f) [] []] ⟨h0,c0⟩ fun av s'=>∃ all,av=.row g 15 0 (l.filter fun x=>!p x).length∧s'.h g=some (.row 15 all .live none)∧all.take (l.filter fun x=>!p x).length=(l.filter fun x=>!p x).map Step.cells∧(l.filter fun x=>!p x).length≤all.length∧∀ k,k<c0→k≠g→s'.h k=h0 k:=by
 refine Fn240.calls .keep ?_
 unfold Fn240.ac
 simp
 refine ACalls.at (iN l f p hp h0 g c0 hg (by omega)) fun c1 hc1=>?_
 simp
 rcases oi p l 0 (Int.le_refl 0) with ⟨e1,e2⟩ | ⟨i,hi,e1,e2,e3⟩
 ·simp [e1]
  rw [e2]
  exact ⟨rfl,l.map Step.cells,hg,by rw [←List.length_map (f:=Step.cells),List.take_length],by simp⟩
 ·rw [Int.zero_add] at e1
  have hi1:¬(i:Int) = -1:=by omega
  have hw:=ae (x:=(i:Int)+1) (by omega) (by omega)
  simp [e1,hi1,hw]
  obtain ⟨Inv,hInv⟩:∃ Inv:Nat→Slots→St→Prop,Inv=fun n sl s'=>∃ (m:List Wb.Step) (i j:Nat),i<j∧j+n=l.length∧sl 5=.int i∧sl 6=.int j∧m.length=l.length∧m.take i=(l.take j).filter (fun x=>!p x)∧m.drop j=l.drop j∧s'.h g=some (.row 15 (m.map Step.cells) .live none)∧(∀ k,k<c0→k≠g→s'.h k=h0 k)∧c0≤s'.c:=⟨_,rfl⟩
  refine co Fn240.W0 (by rfl) Inv (l.length-(i+1)) ?_ ?_
  ·rw [hInv]
   refine ⟨l,i,i+1,by omega,by omega,by simp,by simp,rfl,?_,rfl,hg,fun _ _ _=>rfl,hc1⟩
   rw [lO hi,e2,e3]; simp
  ·intro n v s' hI
   rw [hInv] at hI
   obtain ⟨m,i,j,hij,hj,h5,h6,hml,hmt,hmd,hg',hfr,hcc⟩:=hI
   obtain ⟨h,c⟩:=s'
   simp at h5 h6
   simp only at hg' hfr hcc
   by_cases hlt:j<l.length
   case neg=>
    have hlt':¬(j:Int)<l.length:=by omega
    have hjl:i≤l.length:=by omega
    have hs1:=srI_row_from (sz:=15) (g:=g) (off:=0) hjl
    have hs2:=srI_row_to (sz:=15) (g:=g) (off:=0) hjl
    have hcl:=clI_row (sz:=15) (zs:=[.int 0,.str ⟨#[]⟩,.nil,.nil,.nil,.nil,.str ⟨#[]⟩,.nil,.int 0,.int 0,.int 0,.nil,.str ⟨#[]⟩,.nil,.nil]) (off:=i) (len:=l.length-i) (s:=⟨h,c⟩) hg' (by decide) (by decide) (by simp; omega)
    have hft:(l.filter fun x=>!p x)=m.take i:=by rw [hmt,List.take_of_length_le (by omega)]
    have hfl:(l.filter fun x=>!p x).length=i:=by rw [hft,List.length_take]; omega
    simp [h5,h6,hlt,hs1,hs2,hcl,hfl]
    refine ⟨?_,?_,fun k hk hkg=>by rw [ad hkg]; exact hfr k hk hkg⟩
    ·rw [hft]
     rw [List.take_append_of_le_length (by simp; omega),List.take_take,Nat.min_self,List.map_take]
    ·omega
   have hlt':(j:Int)<l.length:=by omega
   have hjm:j<m.length:=by omega
   have hmj:m[j]=l[j]:=by
    have:=congrArg (·[0]?) hmd
    simp only [List.getElem?_drop,Nat.add_zero] at this
    rw [List.getElem?_eq_getElem hjm,List.getElem?_eq_getElem hlt] at this
    exact Option.some.inj this
   have hpx:=hp l[j]
   have hgc':¬g=c:=by omega
   have hcg':¬c=g:=by omega
   have hw1:=ae (x:=(j:Int)+1) (by omega) (by omega)
   have hw2:=ae (x:=(i:Int)+1) (by omega) (by omega)
   have hft:=lO (p:=fun x=>!p x) hlt
   obtain ⟨X,hX⟩:∃ X,X=l[j]:=⟨_,rfl⟩
   rw [←hX] at hmj hpx hft
   have hXc:=Step.av
   have hge:(m.map Step.cells)[j]?=some X.cells:=by simp [hjm,hmj]
   obtain ⟨kind,name,low,high,conds,body,array,subs,⟨op,n2,form,ea,es,args⟩⟩:=X
   rw [Step.cells_mk] at hge
   rw [Step.av_mk] at hpx
   simp [h6,hlt,hg',hmj,hjm,Step.cells_mk]
   refine ACalls.pure hpx fun c2 hc2=>?_
   by_cases hpj:p (.mk kind name low high conds body array subs (.mk op n2 form ea es args))=true
   ·simp [hpj,h6,hw1]
    refine ⟨n-1,by omega,?_⟩
    rw [hInv]
    refine ⟨m,i,j+1,by omega,by omega,by simp [h5],by simp,hml,?_,?_,?_,fun k hk hkg=>?_,by show c0≤c2; omega⟩
    ·rw [hft,hmt]; simp [hpj]
    ·have:=congrArg (·.drop 1) hmd
     simpa [List.drop_drop] using this
    ·show upd h c _ g=_
     rw [ad hgc']; exact hg'
    ·show upd h c _ k=_
     rw [ad (by omega)]; exact hfr k hk hkg
   ·have hil:i<l.length:=by omega
    have him:i<m.length:=by omega
    simp [hpj,h5,h6,hw1,hw2,hil,hg',hgc',him,eS]
    refine ⟨n-1,by omega,?_⟩
    rw [hInv]
    refine ⟨m.set i (.mk kind name low high conds body array subs (.mk op n2 form ea es args)),i+1,j+1,by omega,by omega,by simp,by simp,by simp [hml],?_,?_,?_,fun k hk hkg=>?_,by show c0≤c2; omega⟩
    ·rw [hft,←hmt,List.take_add_one,List.take_set_of_le (Nat.le_refl _),List.getElem?_set_self him]
     simp [hpj]
    ·rw [List.drop_set_of_lt (by omega)]
     have:=congrArg (·.drop 1) hmd
     simpa [List.drop_drop] using this
    ·show upd _ g _ g=_
     rw [ah,List.map_set,Step.cells_mk,List.drop_of_length_le (by rw [eS]; omega)]
    ·show upd (upd h c _) g _ k=_
     rw [ad hkg,ad (by omega)]; exact hfr k hk hkg
theorem _root_.Go.AM.slnW_row {g sz off len:Nat} {s:St} {F:Bx (AV→St→Prop)} (h:len=0→F.v (.bool true) s) (h':F.v (.bool false) s):@u5 .eql (.row g sz off len) s F:=by
 show (BinOp.eql=.eql∨BinOp.eql=.neq)∧_
 refine ⟨.inl rfl,?_⟩
 cases len with
 | zero=>exact ⟨h rfl,h'⟩
 | succ n=>exact h'
def fA (h:Heap) (x:AV) (l:List Wb.Step):Prop:=(l=[]∧∃ b,x=.sl [] b)∨∃ ga st par,x=.row ga 15 0 l.length∧h ga=some (.row 15 (l.map Step.cells) st par)
theorem kf (l:List Wb.Step) (hl:l.length≤1000000) (x:AV) (h0:Heap) (c0:Nat) (hx:fA h0 x l) :
  ACalls Pg Fn241.n [x] ⟨h0,c0⟩ fun av s'=>Fr c0 h0 s'.h s'.c∧((av=.sl [] true∧l=[])∨∃ g,c0≤g∧g<s'.c∧av=.row g 15 0 l.length∧s'.h g=some (.row 15 (l.map Step.cells) .live none)):=by
 have hall:(l.map Step.cells).all (aB 15)=true:=List.all_eq_true.2 fun e he=>by obtain ⟨t,_,rfl⟩:=List.mem_map.1 he; exact k9 t
 have hap:∀ s:St,s.h=h0→s.show_ x=some (l.map Step.cells)∧dT x 15=true→apI 15 272 .plain (.sl [] true) x s=some (.row s.c 15 0 l.length,AM.newRow 15 (l.map Step.cells) s):=by
  intro s hs ⟨h1,h2⟩
  have hle:0+(l.map Step.cells).length≤68719476736:=by simp; omega
  simp only [apI,h1,h2,hall]
  simp
  omega
 refine Fn241.calls .keep ?_
 unfold Fn241.ac
 rcases hx with ⟨rfl,b,rfl⟩ | ⟨ga,st,par,rfl,hga⟩
 ·have hap':=hap ⟨h0,c0⟩ rfl ⟨rfl,rfl⟩
  simp
  refine lE (fun h=>?_) ?_
  ·simp
   exact Fr.refl _ _
  ·simp [bsI,aw]
   simp at hap'
   simp [hap']
   exact ⟨(Fr.refl h0 c0).upd (Nat.le_refl _) (Nat.le_succ _),c0,Nat.le_refl _,Nat.lt_succ_self _,rfl,ah⟩
 ·have htk:(l.map Step.cells).take l.length=l.map Step.cells:=by rw [←List.length_map (f:=Step.cells),List.take_length]
  have hap':=hap ⟨h0,c0⟩ rfl ⟨by simp [St.show_,hga,htk],rfl⟩
  simp
  refine slnW_row (fun h=>?_) ?_
  ·have:l=[]:=List.length_eq_zero_iff.1 h
   simp [this]
   exact Fr.refl _ _
  ·simp [bsI,aw,hap']
   exact ⟨(Fr.refl h0 c0).upd (Nat.le_refl _) (Nat.le_succ _),c0,Nat.le_refl _,Nat.lt_succ_self _,rfl,ah⟩
theorem gX (f:Nat) (b:Bool) (s:St):ACalls Pg Fn240.n [.sl [] b,.fn (.func f) [] []] s fun av s'=>av=.sl [] b∧s'.h=s.h:=by
 have hidx:ACalls Pg Fn307.n [.sl [] false,.fn (.func f) [] []] s fun av s'=>av=.int (-1)∧s'.h=s.h:=by
  refine Fn307.calls .frz ?_
  unfold Fn307.ac
  simp
  refine bT 8 Fn307.W0 ([]:List Wb.Step) (fun i r sl=>True) (by rfl) (by rfl) ?_ ?_ ?_
  ·simp
  ·intro v c1 hv hc hI
   simp at hv
   simp [hv]
  ·intro i x xs v c1 hi; simp at hi
 obtain ⟨h,c⟩:=s
 refine Fn240.calls .keep ?_
 unfold Fn240.ac
 simp
 refine ACalls.at hidx fun c1 hc1=>?_
 simp
theorem ua (s:Wb.Step):aO Pg Fn242.n [s.av] (.bool (!isLoop s)):=by
 intro st
 obtain ⟨kind,name,low,high,conds,body,array,subs,⟨op,n,form,ea,es,args⟩⟩:=s
 rw [Step.av_mk]
 refine Fn242.calls .frz ?_
 unfold Fn242.ac
 simp [isLoop,Step.kind]
 rfl
theorem tH (l:List Wb.Step) (hl:l.length≤1000000) (x:AV) (h0:Heap) (c0:Nat) (hx:fA h0 x l) :
  ACalls Pg Fn170.n [x] ⟨h0,c0⟩ fun av s'=>av=row ((l.filter isLoop).map Step.cells)∧s'.h=h0:=by
 refine Fn170.calls .frz ?_
 unfold Fn170.ac
 have hn:norm x=x∨(l=[]∧norm x=.sl [] false):=by
  rcases hx with ⟨rfl,b,rfl⟩ | ⟨ga,st,par,rfl,_⟩
  ·exact .inr ⟨rfl,rfl⟩
  ·exact .inl rfl
 have hx':fA h0 (norm x) l:=by
  rcases hn with h | ⟨h1,h2⟩
  ·rw [h]; exact hx
  ·rw [h2]; exact .inl ⟨h1,false,rfl⟩
 have hf:∀ {m:List Wb.Step},(m.filter fun x=>!(!isLoop x))=m.filter isLoop:=fun {m}=>by simp
 simp
 refine (kf l hl _ h0 c0 hx').mono ?_
 rintro av ⟨h1,c1⟩ hc1 ⟨hF1,hav⟩
 simp only at hc1 hF1 hav
 rcases hav with ⟨rfl,rfl⟩ | ⟨g,hg1,hg2,rfl,hg⟩
 ·simp
  refine (gX Fn242.n false ⟨h1,c1⟩).mono ?_
  rintro av ⟨h2,c2⟩ hc2 ⟨rfl,hh⟩
  simp only at hh
  subst hh
  simp
  exact hF1.retH
 ·simp
  refine (im l Fn242.n (fun x=>!isLoop x) ua h1 g c1 hg hg2 hl).mono ?_
  rintro av ⟨h2,c2⟩ hc2 ⟨all,rfl,q1,q2,q3,q4⟩
  simp only at hc2 q1 q4
  rw [hf] at q2 q3 ⊢
  simp [q1,q3,q2]
  exact aC fun k hk=>by rw [ad (by omega),q4 k (by omega) (by omega)]; exact hF1.h k hk
mutual
def cV:Wb.Expr→List Wb.Expr
 | .mk op n form array subs args=>if op=3 then [.mk op n form array subs args] else bn args
def bn:List Wb.Expr→List Wb.Expr
 | []=>[]
 | e::es=>cV e++bn es
end
mutual
theorem j8:∀ e:Wb.Expr,(cV e).length=cr e
 | .mk op n form array subs args=>by
  simp only [cV,cr]
  split
  ·rfl
  ·exact jf args
theorem jf:∀ l:List Wb.Expr,(bn l).length=bM l
 | []=>rfl
 | e::es=>by simp [bn,bM,j8 e,jf es]
end
theorem je:∀ (a b:List Wb.Expr),bn (a++b)=bn a++bn b
 | [],b=>by simp [bn]
 | x::a,b=>by simp [bn,je a b]
theorem tk (x:Wb.Expr):aB 7 x.cells=true:=by
 obtain ⟨_,_,_,_,_,_⟩:=x; rfl
theorem tI:∀ (N:Nat) (x:Wb.Expr),SizeOf.sizeOf x≤N→cr x≤4096→aO Pg Fn172.n [x.av] (row ((cV x).map Expr.cells)):=by
 intro N
 induction N with
 | zero=>intro x hx; obtain ⟨_,_,_,_,_,_⟩:=x; simp at hx
 | succ N ih=>
  rintro x hx hnr ⟨h0,c0⟩
  refine ACalls.small fun hsm=>?_
  obtain ⟨op,n,form,array,subs,args⟩:=x
  rw [Expr.av_mk] at hsm ⊢
  have hlen:args.length≤68719476736:=by simp at hsm; omega
  refine Fn172.calls .frz ?_
  unfold Fn172.ac
  by_cases h3:op=3
  ·subst h3
   simp [bsI,aw,cV,Expr.cells_mk]
  simp [h3]
  have hspec:cV (.mk op n form array subs args)=bn args:=by simp [cV,h3]
  rw [hspec]
  have hnr3:bM args≤4096:=by simpa [cr,h3] using hnr
  obtain ⟨Inv,hInv⟩:∃ Inv:Nat→List Wb.Expr→Slots→St→Prop,Inv=fun i r sl s'=>∃ go,sl 3=.row go 7 0 (bn (args.take i)).length∧c0<go∧go<s'.c∧s'.h go=some (.row 7 ((bn (args.take i)).map Expr.cells) .live none)∧∀ k,k<c0→s'.h k=h0 k:=⟨_,rfl⟩
  refine bq 14 Fn172.W0 args Inv (by rfl) (by rfl) ?_ ?_ ?_
  ·rw [hInv]
   refine ⟨by simp,c0+1,by simp [bn],by omega,by show c0+1<c0+1+1; omega,by simp [bn],fun k hk=>?_⟩
   show upd (upd h0 c0 _) (c0+1) _ k=_
   rw [ad (by omega),ad (by omega)]
  ·intro v s' hv hI
   rw [hInv,List.take_length] at hI
   obtain ⟨go,h9,i1,i2,i3,i4⟩:=hI
   obtain ⟨h,c⟩:=s'
   simp at h9 i3
   simp only at i2 i4
   have htk:List.take (bn args).length ((bn args).map Expr.cells)=(bn args).map Expr.cells:=by rw [←List.length_map (f:=Expr.cells),List.take_length]
   simp [hv,h9,i3,htk]
   exact aC fun k hk=>by rw [ad (by omega)]; exact i4 k hk
  ·intro i x xs v s' hi hx2 hl2 hv hI
   rw [hInv] at hI
   obtain ⟨go,h9,i1,i2,i3,i4⟩:=hI
   obtain ⟨h,c⟩:=s'
   simp at h9
   simp only at i2 i3 i4
   have hw:=ae (x:=(i:Int)+1) (by omega) (by omega)
   have hmx:x∈args:=aR hl2
   have hsz:SizeOf.sizeOf x≤N:=by
    have:=List.sizeOf_lt_of_mem hmx
    simp at hx; omega
   have hnr2:bM args=bM (args.take i)+(cr x+bM xs):=by
    conv=>lhs; rw [hl2]
    rw [jc]; rfl
   have hsl:(bn (args.take i)).length=bM (args.take i):=jf _
   have htake:args.take (i+1)=args.take i++[x]:=by rw [List.take_add_one,List.getElem?_eq_getElem hi,hx2]; rfl
   have hce:=ih x hsz (by omega)
   have hrl:=j8 x
   obtain ⟨op2,n2,form2,array2,subs2,args2⟩:=x
   rw [Expr.av_mk] at hce
   simp [hv,hi,hx2,Expr.cells_mk]
   refine ACalls.pure hce fun c2 hc2=>?_
   obtain ⟨h2,hh2⟩:∃ h2,h2=upd h c (some (.row 7 [[.int op2,.int n2,.int form2.const,row (form2.terms.map Term.cells),.str array2,row (subs2.map Form.cells),row (args2.map Expr.cells)]] .live none)):=⟨_,rfl⟩
   rw [←hh2]
   have hgo2:h2 go=some (.row 7 ((bn (args.take i)).map Expr.cells) .live none):=by rw [hh2,ad (by omega)]; exact i3
   have hap:=jo (sz:=7) (bytes:=112) (md:=.plain) (es:=(bn (args.take i)).map Expr.cells) (xs:=(cV (.mk op2 n2 form2 array2 subs2 args2)).map Expr.cells) (b:=false) (len:=(bn (args.take i)).length) (s:=⟨h2,c2⟩) (by simp) hgo2 (by simp) (by decide) (by decide) (by decide) (fun y hy=>by obtain ⟨t,_,rfl⟩:=List.mem_map.1 hy; exact tk t) (by simp only [List.length_map]; omega)
   simp only [row] at hap ⊢
   simp [h9,hap,hw,hv]
   rw [hInv]
   refine ⟨c2,?_,by omega,by show c2<c2+1; omega,?_,fun k hk=>?_⟩
   ·rw [htake,je]; simp [bn]
   ·rw [htake,je]
    show upd (upd h2 go _) c2 _ c2=_
    rw [ah]; simp [bn]
   ·show upd (upd h2 go _) c2 _ k=_
    rw [ad (by omega),ad (by omega),hh2,ad (by omega)]; exact i4 k hk
end Go.Proofs.YtjhogglgkjcacaaGreat
set_option maxRecDepth 20000
set_option maxHeartbeats 4000000
namespace Go.Proofs.YtjhogglgkjcacaaGreat
open Go.AM Go.Wb
mutual
def fq (around:List Wb.Step):Wb.Step→List (Wb.Step×List Wb.Step)
 | .mk kind name low high conds body array subs expr=>(.mk kind name low high conds body array subs expr,around)::bK (around++[.mk kind name low high conds body array subs expr]) body
def bK (around:List Wb.Step):List Wb.Step→List (Wb.Step×List Wb.Step)
 | []=>[]
 | s::ss=>fq around s++bK around ss
end
theorem lh (around:List Wb.Step):∀ a b:List Wb.Step,bK around (a++b)=bK around a++bK around b
 | [],b=>by simp [bK]
 | x::a,b=>by simp [bK,lh around a b]
def pb (h:Heap) (k:Nat):Prop:=∀ sz es st p,h k≠some (.row sz es st (some p))
structure Sees (fn:Nat) (a b:List AV) (I:List (Wb.Step×List Wb.Step)→(Nat→Prop)→Heap→Prop) (M:Nat) (ok:Wb.Step→Prop):Prop where
 frame:∀ {v F h h'},I v F h→(∀ k,F k→h' k=h k)→I v F h'
 par:∀ {v F h},I v F h→∀ k,F k→pb h k
 call:∀ v F X (around:List Wb.Step) x h c,v.length<M→ok X→I v F h→(∀ k,F k→k<c)→fA h x around→around.length≤1000 →
  ACalls Pg fn (a++[Wb.Step.av X,x]++b) ⟨h,c⟩ fun av s'=>∃ F',I (v++[(X,around)]) F' s'.h∧(∀ k,F' k→F k∨(c≤k∧k<s'.c))∧(∀ k,k<c→¬F k→s'.h k=h k)∧∀ k,c≤k→pb s'.h k
def ArAt (h:Heap) (F:Nat→Prop) (c0:Nat) (x:AV) (l:List Wb.Step):Prop:=(l=[]∧x=.sl [] true)∨∃ ga par,x=.row ga 15 0 l.length∧h ga=some (.row 15 (l.map Step.cells) .live par)∧¬F ga∧ga<c0
def ArSt (h0 h:Heap) (F:Nat→Prop) (c0 c:Nat) (x:AV):Prop:=∀ ga sz es st par,an x ga→h0 ga=some (.row sz es st par)→∃ st',h ga=some (.row sz es st' par) ∧
 (st'=.live∨∃ k,st'=.lent k∧c0≤k∧k<c∧¬F k∧(h k=none∨∃ sz es st p,h k=some (.row sz es st (some p))∧(st=.live∨∃ j,st=.lent j∧j<c∧¬F j∧h j=none)))
theorem oT:∀ (around:List Wb.Step) (x:Wb.Step),(fq around x).length=count x
 | around,.mk kind name low high conds body array subs expr=>by
  have:=fun ar=>walkL_len' ar body
  simp [fq,count,this]; omega
where
 walkL_len':∀ (around:List Wb.Step) (l:List Wb.Step),(bK around l).length=az l
  | around,[]=>rfl
  | around,s::ss=>by simp [bK,az,oT around s,walkL_len' around ss]
theorem th (around:List Wb.Step) (l:List Wb.Step):(bK around l).length=az l:=oT.walkL_len' around l
@[simp] theorem _root_.Go.AM.finW_fork_re {P:Program} {d:Option Nat} {q:Nat×Option (Nat×Bool)×I} {re:List (Nat×Option (Nat×Bool)×I)} {r:List AO} {K:Slots→St→Prop} {sl:Slots} {v:AV} {s:St} :
  aZ P d .fork (q::re) r K sl v s=(eA q sl s∧aZ P d .fork re r K sl v s):=by simp [aZ,cR,and_assoc]
theorem po {fn:Nat} {a b:List AV} {I:List (Wb.Step×List Wb.Step)→(Nat→Prop)→Heap→Prop} {M:Nat} {ok:Wb.Step→Prop} (S:Sees fn a b I M ok):∀ (N:Nat) (l:List Wb.Step),az l≤N→∀ (v:List (Wb.Step×List Wb.Step)) (F:Nat→Prop) (around:List Wb.Step) (x:AV) (h0:Heap) (c0:Nat),
  v.length+az l≤M→(∀ y∈bK around l,ok y.1)→I v F h0→(∀ k,F k→k<c0)→ArAt h0 F c0 x around→around.length+N≤1000 →
  ACalls Pg Fn168.n [row (l.map Step.cells),x,.fn (.func fn) a b] ⟨h0,c0⟩ fun av s'=>∃ F',I (v++bK around l) F' s'.h∧(∀ k,F' k→F k∨(c0≤k∧k<s'.c))∧(∀ k,k<c0→¬F k→¬an x k→s'.h k=h0 k)∧(∀ k,c0≤k→pb s'.h k) ∧
   (∀ ga sz es st par,an x ga→h0 ga=some (.row sz es st par)→∃ st',s'.h ga=some (.row sz es st' par)∧(st'=.live∨∃ k,st'=.lent k∧c0≤k∧k<s'.c∧¬F' k∧s'.h k=none)):=by
 intro N
 induction N using Nat.strongRecOn with
 | _ N ih=>
  intro l hl v F around x h0 c0 hM hok hI hF hx har
  refine ACalls.small fun hsm=>?_
  have hlen:l.length≤68719476736:=by simp at hsm; omega
  refine ACalls.dropF c0 (R:=fun av s'=>∃ F',I (v++bK around l) F' s'.h∧(∀ k,F' k→F k∨(c0≤k∧k<s'.c))∧(∀ k,k<c0→¬F k→¬an x k→s'.h k=h0 k)∧ArSt h0 s'.h F' c0 s'.c x) ?_ ?_
  ·refine Fn168.calls .keep ?_
   unfold Fn168.ac
   simp
   obtain ⟨Inv,hInv⟩:∃ Inv:Nat→List Wb.Step→Slots→St→Prop,Inv=fun i r sl s'=>∃ F1,I (v++bK around (l.take i)) F1 s'.h∧(∀ k,F1 k→F k∨(c0≤k∧k<s'.c))∧ArSt h0 s'.h F1 c0 s'.c x∧c0≤s'.c∧(∀ k,k<c0→¬F k→¬an x k→s'.h k=h0 k):=⟨_,rfl⟩
   refine bq 10 Fn168.W0 l Inv (by rfl) (by rfl) ?_ ?_ ?_
   ·rw [hInv]
    refine ⟨by simp,F,by simpa [bK] using hI,fun k hk=>.inl hk,?_,Nat.le_refl _,fun _ _ _ _=>rfl⟩
    intro ga sz es st par hga hh
    rcases hx with ⟨_,rfl⟩ | ⟨ga',par',rfl,h2,_⟩
    ·exact absurd hga aK
    ·have:=au.1 hga; subst this
     rw [h2] at hh; injection hh with hh; injection hh with e1 e2 e3 e4
     subst e3
     exact ⟨.live,by show h0 ga=_; rw [h2,e1,e2,e4],.inl rfl⟩
   ·intro v1 s' hv hI1
    rw [hInv,List.take_length] at hI1
    obtain ⟨F1,i1,i2,i3,i4,i5⟩:=hI1
    simp [hv]
    exact ⟨F1,i1,i2,i5,i3⟩
   ·intro i X xs v1 s' hi hx2 hl2 hv hI1
    rw [hInv] at hI1
    obtain ⟨F1,i1,i2,i3,i4,i5⟩:=hI1
    obtain ⟨h,c⟩:=s'
    simp only at i1 i2 i3 i4 i5
    have hw:=ae (x:=(i:Int)+1) (by omega) (by omega)
    have hcut:=d9 hl2
    have hwl:=th around (l.take i)
    have hcx:1≤count X:=by obtain ⟨_,_,_,_,_,_,_,_,_⟩:=X; simp [count]
    have htake:l.take (i+1)=l.take i++[X]:=by rw [List.take_add_one,List.getElem?_eq_getElem hi,hx2]; rfl
    have hF1c:∀ k,F1 k→k<c:=fun k hk=>by
     rcases i2 k hk with h | h
     ·have:=hF k h; omega
     ·omega
    have hax:fA h (norm x) around∧(∀ k,an x k→k<c0∧¬F1 k):=by
     rcases hx with ⟨rfl,rfl⟩ | ⟨ga,par,rfl,h2,h3,h4⟩
     ·exact ⟨.inl ⟨rfl,false,rfl⟩,fun k hk=>absurd hk aK⟩
     ·obtain ⟨st',q1,_⟩:=i3 ga _ _ _ _ (au.2 rfl) h2
      refine ⟨.inr ⟨ga,st',par,rfl,q1⟩,fun k hk=>?_⟩
      have:=au.1 hk; subst this
      refine ⟨h4,fun hf=>?_⟩
      rcases i2 _ hf with h | h
      ·exact h3 h
      ·omega
    obtain ⟨h1,hh1⟩:∃ h1,h1=upd h c (some (.row 15 [X.cells] .live none)):=⟨_,rfl⟩
    have hlow1:∀ k,k<c→h1 k=h k:=fun k hk=>by rw [hh1,ad (by omega)]
    have hst1:fA h1 (norm x) around:=by
     rcases hx with ⟨rfl,rfl⟩ | ⟨ga,par,rfl,h2,h3,h4⟩
     ·exact .inl ⟨rfl,false,rfl⟩
     ·obtain ⟨st',q1,_⟩:=i3 ga _ _ _ _ (au.2 rfl) h2
      exact .inr ⟨ga,st',par,rfl,(hlow1 ga (by omega)).trans q1⟩
    have hlw:bK around l=bK around (l.take i)++(fq around X++bK around xs):=by
     conv=>lhs; rw [hl2]
     rw [lh]; rfl
    have hokX:ok X:=by
     refine hok (X,around) ?_
     rw [hlw]
     obtain ⟨_,_,_,_,_,_,_,_,_⟩:=X
     simp [fq]
    have hcb:=S.call (v++bK around (l.take i)) F1 X around (norm x) h1 (c+1) (by simp [hwl]; omega) hokX (S.frame i1 fun k hk=>hlow1 k (hF1c k hk)) (fun k hk=>by have:=hF1c k hk; omega) hst1 (by omega)
    have hb15:∀ y∈X.cells,AV.cell y=true:=fun y hy=>by
     have:=k9 X
     simp only [aB,Bool.and_eq_true,List.all_eq_true] at this
     exact this.2 y hy
    obtain ⟨kind,name,low,high,conds,body,array,subs,⟨op,n2,form,ea,es2,args⟩⟩:=X
    have hbody:az body<az l:=by simp [count] at hcut; omega
    rw [Step.av_mk] at hcb
    simp only [List.append_assoc,List.singleton_append,List.cons_append,List.nil_append] at hcb
    simp [hv,hi,hx2,Step.cells_mk]
    rw [Step.cells_mk] at hh1
    rw [←hh1]
    refine hcb.mono ?_
    rintro av ⟨h2,c2⟩ hc2 ⟨F2,j1,j2,j3,j4⟩
    simp only at hc2 j1 j2 j3 j4
    have hnF1c:¬F1 c:=fun hk=>by have:=hF1c c hk; omega
    have hbox2:h2 c=some (.row 15 [[.int kind,.str name,row (low.map Bound.cells),row (high.map Bound.cells),row (conds.map Form.cells),row (body.map Step.cells),.str array,row (subs.map Form.cells),.int op,.int n2,.int form.const,row (form.terms.map Term.cells),.str ea,row (es2.map Form.cells),row (args.map Expr.cells)]] .live none):=(j3 c (by omega) hnF1c).trans (by rw [hh1,ah])
    have hF2c:∀ k,F2 k→k<c2:=fun k hk=>by
     rcases j2 k hk with h | h
     ·have:=hF1c k h; omega
     ·omega
    obtain ⟨X,hX⟩:∃ X:Wb.Step,X=.mk kind name low high conds body array subs (.mk op n2 form ea es2 args):=⟨_,rfl⟩
    have hXc:X.cells=[.int kind,.str name,row (low.map Bound.cells),row (high.map Bound.cells),row (conds.map Form.cells),row (body.map Step.cells),.str array,row (subs.map Form.cells),.int op,.int n2,.int form.const,row (form.terms.map Term.cells),.str ea,row (es2.map Form.cells),row (args.map Expr.cells)]:=by rw [hX,Step.cells_mk]
    rw [←hX] at j1 htake hcut hlw
    have hcX:count X=1+az body:=by rw [hX]; rfl
    have hwX:fq around X=(X,around)::bK (around++[X]) body:=by rw [hX]; rfl
    rw [←hXc] at hbox2
    have hXok:=k9 X
    have hc2c:¬c=c2:=by omega
    have hnext:∀ (h3:Heap) (x1:AV),ArAt h3 F2 (c2+1) x1 (around++[X])→(∀ k,an x1 k→k=c2)→(∀ k,F2 k→h3 k=h2 k)→(∀ k,k<c0→¬an x k→h3 k=h2 k) →
      (∀ ga sz es st par,an x ga→h0 ga=some (.row sz es st par)→h3 ga=some (.row sz es (.lent c2) par))→(∀ sz es st par,h3 c2=some (.row sz es st par)→(∃ ga,an x ga)→∃ p,par=some p) →
      ACalls Pg Fn168.n [row (body.map Step.cells),x1,.fn (.func fn) a b] ⟨h3,c2+1⟩ fun av s'=>c2+1≤s'.c∧∀ sl',Inv (i+1) xs sl' s':=by
     intro h3 x1 hx1 hx1c hf3 hlow3 hga3 hpar3
     have hokb:∀ y∈bK (around++[X]) body,ok y.1:=fun y hy=>hok y (by
      rw [hlw,hwX]; simp [hy])
     have hrec:=ih (az body) (by omega) body (Nat.le_refl _) (v++(bK around (l.take i)++[(X,around)])) F2 (around++[X]) x1 h3 (c2+1) (by simp [hwl]; omega) hokb (S.frame j1 hf3) (fun k hk=>by have:=hF2c k hk; omega) hx1 (by simp; omega)
     refine hrec.mono ?_
     rintro av ⟨h4,c4⟩ hc4 ⟨F3,r1,r2,r3,r4,r5⟩
     refine ⟨hc4,fun sl'=>?_⟩
     simp only at hc4 r1 r2 r3 r4 r5
     rw [hInv]
     refine ⟨F3,?_,fun k hk=>?_,?_,by show c0≤c4; omega,fun k hk hkF hkx=>?_⟩
     ·rw [htake,lh]
      simpa [bK,hwX] using r1
     ·rcases r2 k hk with h | h
      ·rcases j2 k h with h | h
       ·rcases i2 k h with h | h
        ·exact .inl h
        ·exact .inr (by show c0≤k∧k<c4; omega)
       ·exact .inr (by show c0≤k∧k<c4; omega)
      ·exact .inr (by show c0≤k∧k<c4; omega)
     ·intro ga sz es st par hga hh
      have hgc:=(hax.2 ga hga).1
      have hgF1:=(hax.2 ga hga).2
      have hgF2:¬F2 ga:=fun hf=>by
       rcases j2 ga hf with h | h
       ·exact hgF1 h
       ·omega
      have hg4:h4 ga=some (.row sz es (.lent c2) par):=(r3 ga (by omega) hgF2 fun hr=>by have:=hx1c ga hr; omega).trans (hga3 ga sz es st par hga hh)
      refine ⟨.lent c2,hg4,.inr ⟨c2,rfl,by omega,by show c2<c4; omega,fun hf=>?_,?_⟩⟩
      ·rcases r2 c2 hf with h | h
       ·have:=hF2c c2 h; omega
       ·omega
      ·right
       rcases hx1 with ⟨_,rfl⟩ | ⟨g1,par1,rfl,q1,_⟩
       ·rename_i e; simp at e
       ·have:=hx1c g1 (au.2 rfl)
        subst this
        obtain ⟨p,rfl⟩:=hpar3 _ _ _ _ q1 ⟨ga,hga⟩
        obtain ⟨st',t1,t2⟩:=r5 g1 _ _ _ _ (au.2 rfl) q1
        refine ⟨_,_,st',p,t1,t2.imp id ?_⟩
        rintro ⟨j,e,k1,k2,k3,k4⟩
        exact ⟨j,e,k2,k3,k4⟩
     ·have hkF1:¬F1 k:=fun hf=>by
       rcases i2 k hf with h | h
       ·exact hkF h
       ·omega
      have hkF2:¬F2 k:=fun hf=>by
       rcases j2 k hf with h | h
       ·exact hkF1 h
       ·omega
      show h4 k=h0 k
      rw [r3 k (by omega) hkF2 (fun hr=>by have:=hx1c k hr; omega),hlow3 k hk hkx,j3 k (by omega) hkF1,hlow1 k (by omega)]
      exact i5 k hk hkF hkx
    rcases hx with ⟨rfl,rfl⟩ | ⟨ga,par,rfl,hx2',hx3,hx4⟩
    ·have hbs:=dD (sz:=15) (zs:=[.int 0,.str ⟨#[]⟩,.nil,.nil,.nil,.nil,.str ⟨#[]⟩,.nil,.int 0,.int 0,.int 0,.nil,.str ⟨#[]⟩,.nil,.nil]) (by rfl) (by decide) hXok ⟨h2,c2⟩
     have hap:=cZ (sz:=15) (bytes:=272) (md:=.fork) (es:=[]) (xs:=[X.cells]) (b:=true) (s:=⟨h2,c2⟩) (by decide) (by decide) (by decide) (by simp) (fun e he=>by rw [List.mem_singleton.1 he]; exact hXok) (by simp) (.inr rfl)
     simp at hap
     have hnx:=hnext (upd h2 c2 (some (.row 15 [X.cells] .live none))) (.row c2 15 0 1) (.inr ⟨c2,none,rfl,by simp,fun hf=>by have:=hF2c c2 hf; omega,by omega⟩) (fun k hk=>au.1 hk) (fun k hk=>ad (by have:=hF2c k hk; omega)) (fun k hk _=>ad (by omega)) (fun ga _ _ _ _ hr=>absurd hr aK) (fun _ _ _ _ _ ⟨ga,hr⟩=>absurd hr aK)
     rw [hXc] at hbs hap hnx
     simp [hbox2,hXc,hbs,hap,hc2c]
     refine hnx.mono ?_
     rintro av s' hc' ⟨hc4,hfin⟩
     simp [hv,hw]
     exact hfin _
    ·obtain ⟨st',q1,q2⟩:=i3 ga _ _ _ _ (au.2 rfl) hx2'
     have hgaF1:=(hax.2 ga (au.2 rfl)).2
     have hgaF2:¬F2 ga:=fun hf=>by
      rcases j2 ga hf with h | h
      ·exact hgaF1 h
      ·omega
     have hga2:h2 ga=some (.row 15 (around.map Step.cells) st' par):=(j3 ga (by omega) hgaF1).trans ((hlow1 ga (by omega)).trans q1)
     have hbs:=dD (sz:=15) (zs:=[.int 0,.str ⟨#[]⟩,.nil,.nil,.nil,.nil,.str ⟨#[]⟩,.nil,.int 0,.int 0,.int 0,.nil,.str ⟨#[]⟩,.nil,.nil]) (by rfl) (by decide) hXok ⟨h2,c2⟩
     have hap:∃ h2':Heap,apI 15 272 .fork (.row ga 15 0 around.length) (.sl [X.cells] true) ⟨h2,c2⟩=some (.row c2 15 0 (around.length+1),⟨upd (upd h2' ga (some (.row 15 (around.map Step.cells) (.lent c2) par))) c2 (some (.row 15 (around.map Step.cells++[X.cells]) .live (some ga))),c2+1⟩)∧(∀ k,F2 k→h2' k=h2 k)∧(∀ k,k<c0→h2' k=h2 k)∧h2' c=h2 c:=by
      have hall:[X.cells].all (aB 15)=true:=by simp only [List.all_cons,hXok,List.all_nil]; rfl
      have hle:around.length+[X.cells].length≤68719476736:=by simp; omega
      rcases q2 with rfl | ⟨k,rfl,k1,k2,k3,k4⟩
      ·refine ⟨h2,?_,fun _ _=>rfl,fun _ _=>rfl,rfl⟩
       simp only [apI,St.show_,hall,dT,hga2,pf]
       simp
       omega
      ·have hkF2:¬F2 k:=fun hf=>by
        rcases j2 k hf with h | h
        ·exact k3 h
        ·omega
       have hk2:h2 k=h k:=(j3 k (by omega) k3).trans (hlow1 k k2)
       have hgone:Heap.gone h2 k=true:=by
        unfold Heap.gone
        rw [hk2]
        rcases k4 with k4 | ⟨sz,es,st,p,k4,k5⟩
        ·rw [k4]
        ·rw [k4]
         rcases k5 with rfl | ⟨j,rfl,m1,m2,m3⟩
         ·rfl
         ·have:h2 j=none:=(j3 j (by omega) m2).trans ((hlow1 j m1).trans m3)
          simp [this]
       refine ⟨upd h2 k none,?_,fun k' hk'=>ad fun e=>hkF2 (e▸hk'),fun k' hk'=>ad (by omega),ad (by omega)⟩
       simp only [apI,St.show_,hall,dT,hga2,pf,hgone]
       simp
       omega
     obtain ⟨h2',hap,hp1,hp2,hp3⟩:=hap
     have hnx:=hnext (upd (upd h2' ga (some (.row 15 (around.map Step.cells) (.lent c2) par))) c2 (some (.row 15 (around.map Step.cells++[X.cells]) .live (some ga)))) (.row c2 15 0 (around.length+1)) (.inr ⟨c2,some ga,by simp,by rw [ah]; simp,fun hf=>by have:=hF2c c2 hf; omega,by omega⟩) (fun k hk=>au.1 hk) (fun k hk=>by rw [ad (by have:=hF2c k hk; omega),ad (show k≠ga from fun e=>hgaF2 (e▸hk))]; exact hp1 k hk) (fun k hk hkx=>by rw [ad (by omega),ad (show k≠ga from fun e=>hkx (au.2 e))]; exact hp2 k hk)
      (fun ga' sz es st par' hr hh=>by
       have:=au.1 hr; subst this
       rw [hx2'] at hh; injection hh with hh; injection hh with e1 e2 e3 e4
       rw [ad (by omega),ah,e1,e2,e4]) (fun sz es st par' hh _=>by rw [ah] at hh; injection hh with hh; injection hh with e1 e2 e3 e4; exact ⟨ga,e4.symm⟩)
     have hcga:¬c=ga:=by omega
     rw [hXc] at hbs hap hnx
     simp [hbox2,hXc,hbs,hap,hc2c,hcga,hp3]
     refine hnx.mono ?_
     rintro av s' hc' ⟨hc4,hfin⟩
     simp [hv,hw]
     exact hfin _
  ·rintro av s' hc ⟨F',i1,i2,i3,i4⟩
   refine ⟨F',S.frame i1 fun k hk=>jR (S.par i1 k hk),i2,fun k hk a b=>(fD hk).trans (i3 k hk a b),fun k hk sz es st p hh=>?_,?_⟩
   ·obtain ⟨q1,q2⟩:=eb hh
    rcases q2 with q2 | q2
    ·omega
    ·exact q2 _ _ _ _ rfl
   ·intro ga sz es st par hga hh
    obtain ⟨st',q1,q2⟩:=i4 ga sz es st par hga hh
    have hgc:ga<c0:=by
     rcases hx with ⟨_,rfl⟩ | ⟨ga',par',rfl,_,_,h4⟩
     ·exact absurd hga aK
     ·have:=au.1 hga; omega
    refine ⟨st',(fD hgc).trans q1,?_⟩
    rcases q2 with q2 | ⟨k,e,hk1,hk2,hkF,hk3⟩
    ·exact .inl q2
    ·refine .inr ⟨k,e,hk1,hk2,hkF,?_⟩
     rcases hk3 with hk3 | ⟨sz2,es2,st2,p2,hk3,_⟩
     ·show AM.dropF c0 s'.h k=none
      rw [jR (fun sz es st p h=>by rw [hk3] at h; cases h)]; exact hk3
     ·exact rH hk1 hk3
end Go.Proofs.YtjhogglgkjcacaaGreat
set_option maxRecDepth 20000
set_option maxHeartbeats 4000000
namespace Go.Proofs.YtjhogglgkjcacaaGreat
open Go.AM Go.Wb
def ed (y:Wb.Step×List Wb.Step):Bool:=decide (Step.kind y.1=3)
theorem jk:∀ (around:List Wb.Step) (x:Wb.Step),gR around x=((fq around x).filter ed).map fun y=>(y.1,y.2.filter isLoop)
 | around,.mk kind name low high conds body array subs expr=>by
  have ih:=stmts_walkL' (around++[.mk kind name low high conds body array subs expr]) body
  simp only [gR,fq,List.filter_cons,ed,Step.kind]
  split
  ·rename_i h
   subst h
   simp [ih]
  ·rename_i h
   simp [h,ih]
where
 stmts_walkL':∀ (around:List Wb.Step) (l:List Wb.Step),bR around l=((bK around l).filter ed).map fun y=>(y.1,y.2.filter isLoop)
  | around,[]=>rfl
  | around,s::ss=>by simp only [bR,bK,List.filter_append,List.map_append,jk around s,stmts_walkL' around ss]
theorem jj (around:List Wb.Step) (l:List Wb.Step):bR around l=((bK around l).filter ed).map fun y=>(y.1,y.2.filter isLoop):=jk.stmts_walkL' around l
theorem ur (X:Wb.Step) (x:AV) (hx:x.val=true) (gb:Nat) (n:Int) (hn:0≤n) (hn2:n≤1000000) (h0:Heap) (c0:Nat) (hg:h0 gb=some (.row 1 [[.int n]] .live none)) (hgc:gb<c0) :
  ACalls Pg Fn357.n [X.av,x,.ptr gb 0 0] ⟨h0,c0⟩ fun av s'=>s'.h gb=some (.row 1 [[.int (if Step.kind X=3 then n+1 else n)]] .live none)∧∀ k,k≠gb→s'.h k=h0 k:=by
 obtain ⟨kind,name,low,high,conds,body,array,subs,⟨op,n2,form,ea,es,args⟩⟩:=X
 rw [Step.av_mk]
 refine Fn357.calls .frz ?_
 unfold Fn357.ac
 have h1:¬gb=c0:=by omega
 have hw:=ae (x:=n+1) (by omega) (by omega)
 by_cases h3:kind=3
 ·simp [h3,hg,h1,hw,Step.kind]
  refine ⟨by rw [retH_at hgc,ah],retH_out fun k hk hkg=>by rw [ad hkg,ad (by omega)]⟩
 ·simp [h3,hg,h1,hw,Step.kind]
theorem py (l:List Wb.Step) (hl:az l≤900):aO Pg Fn326.n [row (l.map Step.cells)] (.int (fT l)):=by
 rintro ⟨h0,c0⟩
 refine Fn326.calls .frz ?_
 unfold Fn326.ac
 simp
 have hS:Sees Fn357.n [] [.ptr c0 0 0] (fun v F h=>(∀ k,F k↔k=c0)∧h c0=some (.row 1 [[.int ((v.filter ed).length:Nat)]] .live none)) 1000 (fun _=>True):=by
  refine ⟨fun {v F h h'} hI hh=>⟨hI.1,(hh c0 ((hI.1 c0).2 rfl)).trans hI.2⟩,fun {v F h} hI k hk sz es st p e=>?_,fun v F X around x h c hv _ hI hF hx har=>?_⟩
  ·have:=(hI.1 k).1 hk
   subst this
   rw [hI.2] at e; cases e
  ·have hlen:(v.filter ed).length≤v.length:=List.length_filter_le _ _
   have hxv:x.val=true:=by
    rcases hx with ⟨_,b,rfl⟩ | ⟨_,_,_,rfl,_⟩ <;> rfl
   refine ACalls.clean fun hcl=>?_
   refine (ur X x hxv c0 _ (by omega) (by omega) h c hI.2 (hF c0 ((hI.1 c0).2 rfl))).mono ?_
   rintro av ⟨h2,c2⟩ hc2 ⟨q1,q2⟩
   simp only at q1 q2 hc2
   refine ⟨F,⟨hI.1,?_⟩,fun k hk=>.inl hk,fun k hk hkF=>q2 k fun e=>hkF ((hI.1 k).2 e),fun k hk sz es st p e=>?_⟩
   ·show h2 c0=_
    rw [q1,List.filter_append]
    by_cases h3:Step.kind X=3
    ·simp [h3,ed]
    ·simp [h3,ed]
   ·have:=hF c0 ((hI.1 c0).2 rfl)
    have e':h2 k=some (.row sz es st (some p)):=e
    have hn:h k=none:=hcl k hk
    rw [q2 k (by omega),hn] at e'
    cases e'
 have hw:=po hS (az l) l (Nat.le_refl _) [] (fun k=>k=c0) [] (.sl [] true) (upd h0 c0 (some (.row 1 [[.int 0]] .live none))) (c0+1) (by simp; omega) (fun _ _=>trivial) ⟨fun k=>Iff.rfl,ah⟩ (fun k hk=>by omega) (.inl ⟨rfl,rfl⟩) (by simp; omega)
 refine hw.mono ?_
 rintro av ⟨h2,c2⟩ hc2 ⟨F',⟨i1,i2⟩,i3,i4,i5,i6⟩
 simp only at hc2 i2 i4
 have hlen:((bK [] l).filter ed).length=fT l:=by
  rw [←kh [] l,jj]; simp
 rw [List.nil_append,hlen] at i2
 simp [i2]
 exact aC fun k hk=>by rw [i4 k (by omega) (by omega) aK,ad (by omega)]
end Go.Proofs.YtjhogglgkjcacaaGreat
set_option maxRecDepth 20000
set_option maxHeartbeats 4000000
namespace Go.Proofs.YtjhogglgkjcacaaGreat
open Go.AM Go.Wb
def fL (y:Wb.Step×List Wb.Step):List AV:=y.1.cells++[row ((y.2.filter isLoop).map Step.cells),row ((cV (Step.expr y.1)).map Expr.cells)]
theorem lf (y:Wb.Step×List Wb.Step):aB 17 (fL y)=true:=by
 obtain ⟨⟨_,_,_,_,_,_,_,_,⟨_,_,_,_,_,_⟩⟩,_⟩:=y; rfl
def mp (gb gp:Nat) (v:List (Wb.Step×List Wb.Step)) (F:Nat→Prop) (h:Heap):Prop:=
 h gb=some (.row 1 [[.ptr gp 0 0]] .live none)∧∃ stm,h gp=some (.row 6 [[stm,.sl [] true,.sl [] true,.int 0,.sl [] true,.sl [] true]] .live none)∧RowAt h 17 stm ((v.filter ed).map fL)∧∀ k,F k↔k=gb∨k=gp∨an stm k
theorem ug (y:Wb.Step×List Wb.Step) (hr:Step.kind y.1=3→cr (Step.expr y.1)≤4096) (hy:y.2.length≤1000) (x:AV) (gb gp:Nat) (hgg:gb≠gp) (v:List (Wb.Step×List Wb.Step)) (hv:v.length≤1000000) (F:Nat→Prop) (h0:Heap) (c0:Nat) (hI:mp gb gp v F h0) (hF:∀ k,F k→k<c0) (hx:fA h0 x y.2) :
  ACalls Pg Fn284.n [y.1.av,x,.ptr gb 0 0] ⟨h0,c0⟩ fun av s'=>∃ F',mp gb gp (v++[y]) F' s'.h∧(∀ k,F' k→F k∨(c0≤k∧k<s'.c))∧∀ k,k<c0→¬F k→s'.h k=h0 k:=by
 obtain ⟨⟨kind,name,low,high,conds,body,array,subs,⟨op,n2,form,ea,es,args⟩⟩,ar⟩:=y
 obtain ⟨i1,stm,i2,i3,i4⟩:=hI
 have hgb:=hF gb ((i4 gb).2 (.inl rfl))
 have hgp:=hF gp ((i4 gp).2 (.inr (.inl rfl)))
 have hsm:=fun k hk=>hF k ((i4 k).2 (.inr (.inr hk)))
 refine ACalls.clean fun hcl=>?_
 have hcl:∀ k,c0≤k→h0 k=none:=fun k hk=>hcl k hk
 rw [Step.av_mk]
 refine Fn284.calls .keep ?_
 unfold Fn284.ac
 have h1:¬gb=c0:=by omega
 have h2:¬gp=c0:=by omega
 by_cases h3:kind=3
 ·subst h3
  simp [i1,i2,h1,h2]
  obtain ⟨hb,hhb⟩:∃ hb,hb=upd h0 c0 (some (.row 15 [(Wb.Step.mk 3 name low high conds body array subs (.mk op n2 form ea es args)).cells] .live none)):=⟨_,rfl⟩
  rw [Step.cells_mk] at hhb
  rw [←hhb]
  have hlow:∀ k,k<c0→hb k=h0 k:=fun k hk=>by rw [hhb,ad (by omega)]
  have hbx:hb c0=_:=(congrFun hhb c0).trans ah
  have hx2:fA hb (norm x) ar:=by
   rcases hx with ⟨e1,b,rfl⟩ | ⟨ga,st,par,rfl,hga⟩
   ·exact .inl ⟨e1,_,rfl⟩
   ·refine .inr ⟨ga,st,par,rfl,(hlow ga ?_).trans hga⟩
    refine Classical.byContradiction fun hn=>?_
    have:=hcl ga (by omega)
    simp only at hga
    rw [this] at hga; cases hga
  refine ACalls.at (tH ar (by simp at hy; omega) (norm x) hb (c0+1) hx2) fun c1 hc1=>?_
  have b1:=(hlow gb hgb).trans i1
  have b2:=(hlow gp hgp).trans i2
  have hrd:=tI _ (.mk op n2 form ea es args) (Nat.le_refl _) (hr rfl)
  rw [Expr.av_mk] at hrd
  simp [b1,b2,hbx]
  refine ACalls.pure hrd fun c2 hc2=>?_
  have i3':RowAt hb 17 stm ((v.filter ed).map fL):=i3.frame fun k hk=>hlow k (hsm k hk)
  have hfl:(v.filter ed).length≤v.length:=List.length_filter_le _ _
  obtain ⟨h4,hap,hap1,hap2,hap3⟩:=i3'.push (c:=c2) (bytes:=320) (md:=.plain) (b:=true) (by decide) (by decide) (by decide) (by decide) (lf (.mk 3 name low high conds body array subs (.mk op n2 form ea es args),ar)) (fun e he=>by obtain ⟨t,_,rfl⟩:=List.mem_map.1 he; exact lf t) (by simp; omega) (fun k hk=>by have:=hsm k hk; omega)
  have hne:¬gp=c2:=by omega
  have hst:fL (.mk 3 name low high conds body array subs (.mk op n2 form ea es args),ar)=[.int 3,.str name,row (low.map Bound.cells),row (high.map Bound.cells),row (conds.map Form.cells),row (body.map Step.cells),.str array,row (subs.map Form.cells),.int op,.int n2,.int form.const,row (form.terms.map Term.cells),.str ea,row (es.map Form.cells),row (args.map Expr.cells),row ((ar.filter isLoop).map Step.cells),row ((cV (.mk op n2 form ea es args)).map Expr.cells)]:=by
   simp [fL,Step.cells_mk,Step.expr]
  rw [hst] at hap hap1 hap2
  have nsm:¬an stm gp:=fun hr=>by
   rcases i3 with ⟨e,_⟩ | ⟨g,e,hg⟩
   ·rw [e] at hr; exact aK hr
   ·rw [e] at hr; have:=au.1 hr; subst this; rw [i2] at hg; cases hg
  have nsb:¬an stm gb:=fun hr=>by
   rcases i3 with ⟨e,_⟩ | ⟨g,e,hg⟩
   ·rw [e] at hr; exact aK hr
   ·rw [e] at hr; have:=au.1 hr; subst this; rw [i1] at hg; cases hg
  have b4:=(hap3 gp (by omega) nsm).trans b2
  have b5:=(hap3 gb (by omega) nsb).trans b1
  simp [b1,b2,hbx,bsI,aw,aM,hap,b4,b5]
  refine ⟨fun k=>k=gb∨k=gp∨k=c2,⟨by rw [ad hgg]; exact b5,_,ah,?_,fun k=>by rw [au]⟩,fun k hk=>?_,fun k hk hkF=>?_⟩
  ·rw [List.filter_append]
   simp [ed,Step.kind,hst]
   refine .inr ⟨c2,by simp,?_⟩
   rw [ad (by omega)]; exact hap1
  ·rcases hk with rfl | rfl | rfl
   ·exact .inl ((i4 _).2 (.inl rfl))
   ·exact .inl ((i4 _).2 (.inr (.inl rfl)))
   ·exact .inr ⟨by omega,by simp⟩
  ·have hkF':k≠gb∧k≠gp∧¬an stm k:=⟨fun e=>hkF ((i4 k).2 (.inl e)),fun e=>hkF ((i4 k).2 (.inr (.inl e))),fun e=>hkF ((i4 k).2 (.inr (.inr e)))⟩
   rw [ad hkF'.2.1,hap3 k (by omega) hkF'.2.2]
   exact hlow k hk
 ·simp [h3]
  refine ⟨F,⟨by rw [ad h1]; exact i1,stm,by rw [ad h2]; exact i2,?_,i4⟩,fun k hk=>.inl hk,fun k hk _=>by rw [ad (by omega)]⟩
  rw [List.filter_append]
  simp [ed,Step.kind,h3]
  exact i3.frame fun k hk=>ad (by have:=hsm k hk; omega)
end Go.Proofs.YtjhogglgkjcacaaGreat
set_option maxRecDepth 20000
set_option maxHeartbeats 4000000
namespace Go.Proofs.YtjhogglgkjcacaaGreat
open Go.AM Go.Wb
@[simp] theorem _root_.Go.AM.finW_fz_reP {P:Program} {d:Option Nat} {q:Nat×Option (Nat×Bool)×I} {re:List (Nat×Option (Nat×Bool)×I)} {r:List AO} {K:Slots→St→Prop} {sl:Slots} {v:AV} {s:St} :
  aZ P d .fz (q::re) r K sl v s=@dr (fzI v s) ⟨fun v' s'=>(∀ x∈q::re,eA x sl s')∧aN P r K (put sl d v') s'⟩:=Eq.trans rfl rfl
structure RR where
 names:AV
 now:AV
 which:AV
 vals:AV
def RR.own (r:RR) (gr go k:Nat):Prop:=k=gr∨k=go∨an r.names k∨an r.now k∨an r.which k∨an r.vals k
structure RI (h:Heap) (c gr go:Nat) (stm:AV) (e:Env) (r:RR) (s:RS):Prop where
 now:NowAt h c gr e go 0 r.names r.now
 obj:h go=some (.row 6 [[stm,r.which,r.vals,.int s.rounds,.sl [] true,.sl [] true]] .live none)
 which:RowAt h 1 r.which (ak (s.l.map fun i=>(i.num:Int)))
 vals:RowAt h 1 r.vals (s.l.map fun i=>[row (ak (i.env.map (·.2)))])
 lt:∀ k,r.own gr go k→k<c
 d1:∀ k,an r.names k→k≠gr∧k≠go∧¬an r.now k∧¬an r.which k∧¬an r.vals k
 d2:∀ k,an r.now k→k≠gr∧k≠go∧¬an r.which k∧¬an r.vals k
 d3:∀ k,an r.which k→k≠gr∧k≠go∧¬an r.vals k
 d4:∀ k,an r.vals k→k≠gr∧k≠go
 gg:gr≠go
 len:s.l.length≤50000
 rounds:0≤s.rounds∧s.rounds≤200000
theorem RI.frame {h h':Heap} {c c' gr go:Nat} {stm:AV} {e:Env} {r:RR} {s:RS} (x:RI h c gr go stm e r s) (hc:c≤c') (hh:∀ k,r.own gr go k→h' k=h k):RI h' c' gr go stm e r s:=by
 have hgr:r.own gr go gr:=.inl rfl
 have hgo:r.own gr go go:=.inr (.inl rfl)
 have hn:∀ k,an r.names k→r.own gr go k:=fun k hk=>.inr (.inr (.inl hk))
 have hw:∀ k,an r.now k→r.own gr go k:=fun k hk=>.inr (.inr (.inr (.inl hk)))
 refine ⟨⟨(hh gr hgr).trans x.now.at_,x.now.hnames.frame fun k hk=>hh k (hn k hk),x.now.hnow.frame fun k hk=>hh k (hw k hk),by have:=x.now.gr; omega,fun k hk=>by have:=x.lt k (hn k hk); omega,fun k hk=>by have:=x.lt k (hw k hk); omega⟩,(hh go hgo).trans x.obj,x.which.frame fun k hk=>hh k (.inr (.inr (.inr (.inr (.inl hk))))),x.vals.frame fun k hk=>hh k (.inr (.inr (.inr (.inr (.inr hk))))),fun k hk=>by have:=x.lt k hk; omega,x.d1,x.d2,x.d3,x.d4,x.gg,x.len,x.rounds⟩
theorem RI.fr {h h':Heap} {c c' gr go:Nat} {stm:AV} {e:Env} {r:RR} {s:RS} (x:RI h c gr go stm e r s) (hF:Fr c h h' c'):RI h' c' gr go stm e r s:=x.frame hF.c fun k hk=>hF.h k (x.lt k hk)
structure RFp (c0:Nat) (a b:Nat→Prop) (h0 h:Heap):Prop where
 same:∀ k,k<c0→¬a k→h k=h0 k
 rows:∀ k,b k→a k∨c0≤k
theorem RFp.trans {c0 c1:Nat} {a b d:Nat→Prop} {h0 h1 h2:Heap} (x:RFp c0 a b h0 h1) (y:RFp c1 b d h1 h2) (hc:c0≤c1):RFp c0 a d h0 h2:=
 ⟨fun k hk hka=>by
  rw [y.same k (by omega) fun hb=>(x.rows k hb).elim hka fun h=>by omega]; exact x.same k hk hka,
  fun k hk=>(y.rows k hk).elim (x.rows k) fun h=>.inr (by omega)⟩
theorem RFp.refl {c0:Nat} {a:Nat→Prop} {h:Heap}:RFp c0 a a h h:=⟨fun _ _ _=>rfl,fun _ h=>.inl h⟩
theorem RFp.ext {c0 c1:Nat} {a b:Nat→Prop} {h0 h1 h2:Heap} (x:RFp c0 a b h0 h1) (hh:∀ k,k<c1→h2 k=h1 k) (hc:c0≤c1):RFp c0 a b h0 h2:=
 ⟨fun k hk hka=>by rw [hh k (by omega)]; exact x.same k hk hka,x.rows⟩
theorem _root_.Go.AM.RowPre.show_ {h:Heap} {c sz:Nat} {x:AV} {es:List (List AV)} (r:RowPre h sz x es) (hx:∀ k,an x k→k<c):(St.mk h c).show_ x=some es∧dT x sz=true:=by
 rcases r with ⟨rfl,rfl⟩ | ⟨g,full,rfl,hg⟩
 ·exact ⟨rfl,rfl⟩
 ·simp [St.show_,hg,dT]
theorem nS (L:List Int):(ak L).all (aB 1)=true:=List.all_eq_true.2 fun e he=>by obtain ⟨t,_,rfl⟩:=List.mem_map.1 he; rfl
theorem uw {h:Heap} {c:Nat} {x:AV} {L:List Int} (r:RowPre h 1 x (ak L)) (hx:∀ k,an x k→k<c) (hl:L.length≤1000000) {md:Md}:apI 1 8 md (.sl [] true) x ⟨h,c⟩=some (.row c 1 0 L.length,⟨upd h c (some (.row 1 (ak L) .live none)),c+1⟩):=by
 obtain ⟨h1,h2⟩:=r.show_ hx
 have h3:(ak L).length≤68719476736:=by simp [ak]; omega
 simp only [apI,h1,nS,h2,h3]
 simp [ak,newRow]
 omega
theorem uo (num:Nat) (hn:(num:Int)≤1000000) (X:Wb.Step) (way:List Int) (e:Env) (hel:e.length≤100000) (gr go:Nat) (stm:AV) (r:RR) (s:RS) (h0:Heap) (c0:Nat) (hr:RI h0 c0 gr go stm e r s) :
  ACalls Pg Fn329.n [.ptr gr 0 0,.int num] ⟨h0,c0⟩ fun av s'=>if s.l.length=50000 then av=.int 12∧s'.h=h0 else av=.int 0∧∃ r':RR,RI s'.h s'.c gr go stm e r' ⟨s.rounds,s.l++[⟨num,X,e,way⟩]⟩∧RFp c0 (r.own gr go) (r'.own gr go) h0 s'.h:=by
 refine Fn329.calls .keep ?_
 unfold Fn329.ac
 have hat:=hr.now.at_
 have hgo:=hr.obj
 have hwl:=hr.which.len ⟨h0,c0⟩
 have hlen:=hr.len
 have e1:(ak (s.l.map fun i=>(i.num:Int))).length=s.l.length:=by simp [ak]
 rw [e1] at hwl
 by_cases hfull:s.l.length=50000
 ·rw [hfull] at hwl
  simp [hat,hgo,hwl,hfull]
 have hfull':¬((s.l.length:Int)=50000):=by omega
 have hnow:=hr.now.hnow
 have lgr:=hr.lt gr (.inl rfl)
 have lgo:=hr.lt go (.inr (.inl rfl))
 have lw:∀ k,an r.which k→k<c0:=fun k hk=>hr.lt k (.inr (.inr (.inr (.inr (.inl hk)))))
 have lv:∀ k,an r.vals k→k<c0:=fun k hk=>hr.lt k (.inr (.inr (.inr (.inr (.inr hk)))))
 obtain ⟨h1,p1,p2,p3,p4⟩:=hr.which.push (c:=c0) (bytes:=8) (md:=.plain) (b:=true) (e:=[.int num]) (by decide) (by decide) (by decide) (by decide) rfl (fun e he=>List.all_eq_true.1 (nS _) e he) (by rw [e1]; omega) lw
 rw [e1] at p1 p3
 have hgo1:=(p4 go (by omega) (fun h=>(hr.d3 go h).2.1 rfl)).trans hgo
 have hgr1:=(p4 gr (by omega) (fun h=>(hr.d3 gr h).1 rfl)).trans hat
 obtain ⟨h2,hh2⟩:∃ h2,h2=upd h1 go (some (.row 6 [[stm,.row c0 1 0 (s.l.length+1),r.vals,.int s.rounds,.sl [] true,.sl [] true]] .live none)):=⟨_,rfl⟩
 have hgr2:h2 gr=_:=(congrFun hh2 gr).trans ((ad hr.gg).trans hgr1)
 have hgo2:h2 go=_:=(congrFun hh2 go).trans ah
 have hk2':∀ k,k≠c0→k≠go→¬an r.which k→h2 k=h0 k:=fun k a b d=>by rw [hh2,ad b]; exact p4 k a d
 have hnow2:RowPre h2 1 r.now (ak (e.map (·.2))):=hnow.frame fun k hk=>hk2' k (by have:=hr.now.wb k hk; omega) (hr.d2 k hk).2.1 (hr.d2 k hk).2.2.1
 have hcp:=uw (md:=.fz) (c:=c0+1) hnow2 (fun k hk=>by have:=hr.now.wb k hk; omega) (by simp; omega)
 simp [hat,hgo,hwl,hfull,hfull',bsI,aw,p1,hgo1,hgr1,hr.gg,←hh2]
 have e2:(s.l.map fun i=>[row (ak (i.env.map (·.2)))]).length=s.l.length:=by simp
 have e3:(ak (e.map (·.2))).length=(e.map (·.2)).length:=by simp [ak]
 obtain ⟨ha,hha⟩:∃ ha,ha=upd h2 (c0+1) (some (.row 1 (ak (e.map (·.2))) .live none)):=⟨_,rfl⟩
 rw [←hha] at hcp
 have hfz:=cQ (s:=⟨ha,c0+1+1⟩) (z:=1) ((congrFun hha _).trans ah) e3
 obtain ⟨h3,hh3⟩:∃ h3,h3=upd ha (c0+1) (some (.row 1 (ak (e.map (·.2))) .frz none)):=⟨_,rfl⟩
 simp only [List.length_map] at hfz
 rw [←hh3] at hfz
 have hgr3:h3 gr=_:=(congrFun hh3 gr).trans ((ad (by omega)).trans ((congrFun hha _).trans ((ad (by omega)).trans hgr2)))
 have hgo3:h3 go=_:=(congrFun hh3 go).trans ((ad (by omega)).trans ((congrFun hha _).trans ((ad (by omega)).trans hgo2)))
 have hvals3:RowAt h3 1 r.vals (s.l.map fun i=>[row (ak (i.env.map (·.2)))]):=hr.vals.frame fun k hk=>by
  have:=lv k hk
  rw [hh3,ad (by omega),hha,ad (by omega)]
  exact hk2' k (by omega) (hr.d4 k hk).2 fun h=>(hr.d3 k h).2.2 hk
 obtain ⟨h4,v1,v2,v3,v4⟩:=hvals3.push (c:=c0+1+1) (bytes:=24) (md:=.plain) (b:=true) (e:=[row (ak (e.map (·.2)))]) (by decide) (by decide) (by decide) (by decide) rfl (fun e he=>by obtain ⟨t,_,rfl⟩:=List.mem_map.1 he; rfl) (by rw [e2]; omega) (fun k hk=>by have:=lv k hk; omega)
 rw [e2] at v1 v3
 have hgo4:=(v4 go (by omega) (fun h=>(hr.d4 go h).2 rfl)).trans hgo3
 have hgr4:=(v4 gr (by omega) (fun h=>(hr.d4 gr h).1 rfl)).trans hgr3
 simp [hgr2,hgo2,bsI,aw,hcp,hfz,-dE,hgr3,hgo3,v1,hgo4,hgr4]
 obtain ⟨h5,hh5⟩:∃ h5,h5=upd h4 go (some (.row 6 [[stm,.row c0 1 0 (s.l.length+1),.row (c0+1+1) 1 0 (s.l.length+1),.int s.rounds,.sl [] true,.sl [] true]] .live none)):=⟨_,rfl⟩
 rw [←hh5]
 have hlow:∀ k,k<c0→k≠go→¬an r.which k→¬an r.vals k→h5 k=h0 k:=fun k hk n1 n2 n3=>by
  rw [hh5,ad n1,v4 k (by omega) n3,hh3,ad (by omega),hha,ad (by omega),hk2' k (by omega) n1 n2]
 have ln:=hr.now.nb
 have lx:=hr.now.wb
 have nv0:¬an r.vals c0:=fun h=>by have:=lv _ h; omega
 have hc05:h5 c0=some (.row 1 (ak (s.l.map fun i=>(i.num:Int))++[[.int num]]) .live none):=by
  rw [hh5,ad (by omega),v4 c0 (by omega) nv0,hh3,ad (by omega),hha,ad (by omega),hh2,ad (by omega),p2]
 have hc25:h5 (c0+1+1)=_:=(congrFun hh5 _).trans ((ad (by omega)).trans v2)
 refine ⟨⟨r.names,r.now,.row c0 1 0 (s.l.length+1),.row (c0+1+1) 1 0 (s.l.length+1)⟩,⟨⟨?_,?_,?_,?_,?_,?_⟩,?_,?_,?_,?_,?_,?_,?_,?_,hr.gg,?_,hr.rounds⟩,?_⟩
 ·exact (congrFun hh5 gr).trans ((ad hr.gg).trans hgr4)
 ·exact hr.now.hnames.frame fun k hk=>hlow k (ln k hk) (hr.d1 k hk).2.1 (hr.d1 k hk).2.2.2.1 (hr.d1 k hk).2.2.2.2
 ·exact hr.now.hnow.frame fun k hk=>hlow k (lx k hk) (hr.d2 k hk).2.1 (hr.d2 k hk).2.2.1 (hr.d2 k hk).2.2.2
 ·omega
 ·intro k hk; have:=ln k hk; omega
 ·intro k hk; have:=lx k hk; omega
 ·exact (congrFun hh5 go).trans ah
 ·exact .inr ⟨c0,by simp [ak],by rw [hc05]; simp [ak]⟩
 ·exact .inr ⟨c0+1+1,by simp,by rw [hc25]; simp⟩
 ·rintro k (h | h | h | h | h | h)
  ·omega
  ·omega
  ·have:=ln k h; omega
  ·have:=lx k h; omega
  ·have:=au.1 h; omega
  ·have:=au.1 h; omega
 ·intro k hk
  have:=ln k hk
  have d:=hr.d1 k hk
  exact ⟨d.1,d.2.1,d.2.2.1,fun h=>by have:=au.1 h; omega,fun h=>by have:=au.1 h; omega⟩
 ·intro k hk
  have:=lx k hk
  have d:=hr.d2 k hk
  exact ⟨d.1,d.2.1,fun h=>by have:=au.1 h; omega,fun h=>by have:=au.1 h; omega⟩
 ·intro k hk
  have:=au.1 hk
  exact ⟨by omega,by omega,fun h=>by have:=au.1 h; omega⟩
 ·intro k hk
  have:=au.1 hk
  exact ⟨by omega,by omega⟩
 ·simp; omega
 ·refine ⟨fun k hk hk2=>hlow k hk (fun h=>hk2 (.inr (.inl h))) (fun h=>hk2 (.inr (.inr (.inr (.inr (.inl h)))))) (fun h=>hk2 (.inr (.inr (.inr (.inr (.inr h)))))),?_⟩
  rintro k (h | h | h | h | h | h)
  ·exact .inl (.inl h)
  ·exact .inl (.inr (.inl h))
  ·exact .inl (.inr (.inr (.inl h)))
  ·exact .inl (.inr (.inr (.inr (.inl h))))
  ·have:=au.1 h; exact .inr (by omega)
  ·have:=au.1 h; exact .inr (by omega)
end Go.Proofs.YtjhogglgkjcacaaGreat
set_option maxRecDepth 20000
set_option maxHeartbeats 4000000
namespace Go.Proofs.YtjhogglgkjcacaaGreat
open Go.AM Go.Wb
def rE (gr go:Nat) (stm:AV) (e:Env) (r:RR) (o:Int×RS) (c0:Nat) (h0:Heap) (av:AV) (s':St):Prop:=
 av=.int o.1∧∃ r':RR,RFp c0 (r.own gr go) (r'.own gr go) h0 s'.h∧(o.1=0→RI s'.h s'.c gr go stm e r' o.2)
theorem RI.re {h h':Heap} {c c' gr go:Nat} {stm:AV} {e e':Env} {r:RR} {s:RS} {names now:AV} (x:RI h c gr go stm e r s) (hgr:h' gr=some (.row 4 [[.ptr go 0 0,.int 0,names,now]] .live none))
  (hN:RowPre h' 1 names (ay (e'.map (·.1)))) (hW:RowPre h' 1 now (ak (e'.map (·.2)))) (hk:∀ k,k=go∨an r.which k∨an r.vals k→h' k=h k) (hc:c≤c')
  (nN:∀ k,an names k→an r.names k∨(c≤k∧k<c')) (nW:∀ k,an now k→an r.now k∨(c≤k∧k<c')) (nd:∀ k,an names k→¬an now k):RI h' c' gr go stm e' ⟨names,now,r.which,r.vals⟩ s:=by
 have lgr:=x.lt gr (.inl rfl)
 have lgo:=x.lt go (.inr (.inl rfl))
 have lw:∀ k,an r.which k→k<c:=fun k hk=>x.lt k (.inr (.inr (.inr (.inr (.inl hk)))))
 have lv:∀ k,an r.vals k→k<c:=fun k hk=>x.lt k (.inr (.inr (.inr (.inr (.inr hk)))))
 have bN:∀ k,an names k→k<c':=fun k hk=>(nN k hk).elim (fun h=>by have:=x.now.nb k h; omega) fun h=>h.2
 have bW:∀ k,an now k→k<c':=fun k hk=>(nW k hk).elim (fun h=>by have:=x.now.wb k h; omega) fun h=>h.2
 refine ⟨⟨hgr,hN,hW,by omega,bN,bW⟩,(hk go (.inl rfl)).trans x.obj,x.which.frame fun k h=>hk k (.inr (.inl h)),x.vals.frame fun k h=>hk k (.inr (.inr h)),?_,?_,?_,x.d3,x.d4,x.gg,x.len,x.rounds⟩
 ·rintro k (h | h | h | h | h | h)
  ·omega
  ·omega
  ·exact bN k h
  ·exact bW k h
  ·have:=lw k h; omega
  ·have:=lv k h; omega
 ·intro k hk
  rcases nN k hk with h | h
  ·have d:=x.d1 k h
   exact ⟨d.1,d.2.1,nd k hk,d.2.2.2.1,d.2.2.2.2⟩
  ·exact ⟨by omega,by omega,nd k hk,fun h=>by have:=lw k h; omega,fun h=>by have:=lv k h; omega⟩
 ·intro k hk
  rcases nW k hk with h | h
  ·have d:=x.d2 k h
   exact ⟨d.1,d.2.1,d.2.2.1,d.2.2.2⟩
  ·exact ⟨by omega,by omega,fun h=>by have:=lw k h; omega,fun h=>by have:=lv k h; omega⟩
theorem RI.setRounds {h:Heap} {c gr go:Nat} {stm:AV} {e:Env} {r:RR} {s:RS} (x:RI h c gr go stm e r s) (n:Int) (hn:0≤n∧n≤200000) :
  RI (AM.upd h go (some (.row 6 [[stm,r.which,r.vals,.int n,.sl [] true,.sl [] true]] .live none))) c gr go stm e r ⟨n,s.l⟩:=by
 have hne:∀ k,k≠go→AM.upd h go (some (.row 6 [[stm,r.which,r.vals,.int n,.sl [] true,.sl [] true]] .live none)) k=h k:=fun k hk=>ad hk
 exact ⟨⟨(hne gr x.gg).trans x.now.at_,x.now.hnames.frame fun k hk=>hne k (x.d1 k hk).2.1,x.now.hnow.frame fun k hk=>hne k (x.d2 k hk).2.1,x.now.gr,x.now.nb,x.now.wb⟩,ah,x.which.frame fun k hk=>hne k (x.d3 k hk).2.1,x.vals.frame fun k hk=>hne k (x.d4 k hk).2,x.lt,x.d1,x.d2,x.d3,x.d4,x.gg,x.len,hn⟩
theorem RI.setLast {h:Heap} {c gr go:Nat} {stm:AV} {e:Env} {name:ByteArray} {u:Int} {r:RR} {s:RS} (x:RI h c gr go stm (e++[(name,u)]) r s) (v:Int) :
  ∃ g full,r.now=.row g 1 0 (e.length+1)∧h g=some (.row 1 (ak (e.map (·.2))++[.int u]::full) .live none)∧RI (AM.upd h g (some (.row 1 (ak (e.map (·.2))++[.int v]::full) .live none))) c gr go stm (e++[(name,v)]) r s∧r.own gr go g∧gr≠g∧go≠g:=by
 have hw:=x.now.hnow
 have e1:ak ((e++[(name,u)]).map (·.2))=ak (e.map (·.2))++[[.int u]]:=by simp [ak]
 have e2:ak ((e++[(name,v)]).map (·.2))=ak (e.map (·.2))++[[.int v]]:=by simp [ak]
 have e3:(ak (e.map (·.2))).length=e.length:=by simp [ak]
 rw [e1] at hw
 obtain ⟨g,full,h1,h2⟩:=hw.last
 rw [e3] at h1
 have hg:an r.now g:=by rw [h1]; exact au.2 rfl
 have d:=x.d2 g hg
 have hne:∀ k,k≠g→AM.upd h g (some (.row 1 (ak (e.map (·.2))++[.int v]::full) .live none)) k=h k:=fun k hk=>ad hk
 refine ⟨g,full,h1,h2,?_,.inr (.inr (.inr (.inl hg))),Ne.symm d.1,Ne.symm d.2.1⟩
 have hn:=x.now.hnames
 rw [List.map_append] at hn
 refine x.re (c':=c) (names:=r.names) (now:=r.now) ((hne gr (Ne.symm d.1)).trans x.now.at_) ?_ ?_ ?_ (Nat.le_refl _) (fun k hk=>.inl hk) (fun k hk=>.inl hk) (fun k hk=>(x.d1 k hk).2.2.1)
 ·rw [List.map_append]
  exact hn.frame fun k hk=>hne k fun h=>(x.d1 k hk).2.2.1 (h▸hg)
 ·rw [e2]
  exact .inr ⟨g,full,by rw [h1]; simp [ak],by rw [ah]; simp⟩
 ·intro k hk
  refine hne k fun h=>?_
  subst h
  rcases hk with hk | hk | hk
  ·exact d.2.1 hk
  ·exact d.2.2.1 hk
  ·exact d.2.2.2 hk
theorem oM:∀ x:Wb.Step,cW x≤count x
 | .mk kind name low high conds body array subs expr=>by
  have:=setsL_le' body
  simp only [cW,count]; split <;> omega
where
 setsL_le':∀ l:List Wb.Step,fT l≤az l
  | []=>Nat.le_refl _
  | x::xs=>by simp only [fT,az]; have:=oM x; have:=setsL_le' xs; omega
def se (A:List Wb.Array) (gr go:Nat) (stm:AV) (N:Nat):Prop:=∀ (l:List Wb.Step),az l≤N→∀ (num:Nat) (e:Env) (way:List Int) (r:RR) (s:RS) (h0:Heap) (c0:Nat),
  cP A (e.map (·.1)) l→d6 e→(e.map (·.1)).Nodup→e.length+N≤900→num+az l≤100000→RI h0 c0 gr go stm e r s →
  ACalls Pg Fn285.n [.ptr gr 0 0,row (l.map Step.cells),.int num] ⟨h0,c0⟩ (rE gr go stm e r (aU num e way 0 l s) c0 h0)
theorem ul (A:List Wb.Array) (gr go:Nat) (stm:AV) (N:Nat) (ih:se A gr go stm N) (name:ByteArray) (low high:List Wb.Bound) (conds:List Wb.Form) (body:List Wb.Step) (hb:az body≤N) (array:ByteArray) (subs:List Wb.Form) (expr:Wb.Expr)
  (num:Nat) (e:Env) (way:List Int) (r:RR) (s:RS) (h0:Heap) (c0:Nat) (hnm:inL name (e.map (·.1))=false) (hl0:low≠[]) (hh0:high≠[]) (hlb:∀ b∈low,cw b) (hhb:∀ b∈high,cw b) (hbd:cP A (e.map (·.1)++[name]) body)
  (he:d6 e) (hnd:(e.map (·.1)).Nodup) (hel:e.length+N+1≤900) (hnl:num+az body≤100000) (hr:RI h0 c0 gr go stm e r s) :
  ACalls Pg Fn327.n [.ptr gr 0 0,.zp (Wb.Step.mk 1 name low high conds body array subs expr).cells 0,.int num] ⟨h0,c0⟩ (rE gr go stm e r (bD num e way (.mk 1 name low high conds body array subs expr) s) c0 h0):=by
 obtain ⟨op,n,form,ea,es,args⟩:=expr
 refine Fn327.calls .keep ?_
 unfold Fn327.ac
 have hends:=ut (.mk 1 name low high conds body array subs (.mk op n form ea es args)) low high ⟨_,_,_,_,_,_,_,rfl⟩ hlb hhb hl0 hh0 Fn359.n [.ptr gr 0 0] [] (aA e) (cB he) h0 c0
  (fun x hx h c hF=>pB x hx e he hnd (by omega) gr go 0 r.names r.now h c (hr.now.fr hF))
 rw [Step.av_mk] at hends
 simp [Step.cells_mk]
 refine ACalls.at hends fun c1 hc1=>?_
 have hlo:=lT (cB he) hlb
 have hhi:=kN (cB he) hhb
 obtain ⟨lo,hlo'⟩:∃ lo,lo=eg (aA e) low:=⟨_,rfl⟩
 obtain ⟨hi',hhi'⟩:∃ hi',hi'=ei (aA e) high:=⟨_,rfl⟩
 obtain ⟨F,hF⟩:∃ F:Int→RS→Int×RS,F=fun v s=>aU num (e++[(name,v)]) way 0 body s:=⟨_,rfl⟩
 have hrun:bD num e way (.mk 1 name low high conds body array subs (.mk op n form ea es args)) s=cj F (hi'-lo+1).toNat lo s:=by rw [hlo',hhi',hF]; simp [bD]
 rw [←hlo'] at hlo
 rw [←hhi'] at hhi
 rw [hrun]
 have hat:=hr.now.at_
 have ln:=hr.now.nb
 have lx:=hr.now.wb
 have lgr:=hr.lt gr (.inl rfl)
 have lgo:=hr.lt go (.inr (.inl rfl))
 have lw:∀ k,an r.which k→k<c0:=fun k hk=>hr.lt k (.inr (.inr (.inr (.inr (.inl hk)))))
 have lv:∀ k,an r.vals k→k<c0:=fun k hk=>hr.lt k (.inr (.inr (.inr (.inr (.inr hk)))))
 have e1:(ay (e.map (·.1))).length=e.length:=by simp [ay]
 have e2:(ak (e.map (·.2))).length=e.length:=by simp [ak]
 obtain ⟨n',h2,c2,p1,p2,p3,p4,p5,p6,gn,p7⟩:=hr.now.hnames.push (c:=c1) (bytes:=16) (md:=.plain) (b:=true) (e:=[.str name]) (by decide) (by decide) (by decide) (by decide) rfl (fun e he=>by obtain ⟨t,_,rfl⟩:=List.mem_map.1 he; rfl) (by rw [e1]; omega) (fun k hk=>by have:=ln k hk; omega)
 have hgr2:=(p5 gr (by omega) (fun h=>(hr.d1 gr h).1 rfl)).trans hat
 have hnow2:RowPre h2 1 r.now (ak (e.map (·.2))):=hr.now.hnow.frame fun k hk=>p5 k (by have:=lx k hk; omega) fun h=>(hr.d1 k h).2.2.1 hk
 obtain ⟨w',h3,c3,q1,q2,q3,q4,q5,q6,gw,q7⟩:=hnow2.push (c:=c2) (bytes:=8) (md:=.plain) (b:=true) (e:=[.int 0]) (by decide) (by decide) (by decide) (by decide) rfl (fun e he=>List.all_eq_true.1 (nS _) e he) (by rw [e2]; omega) (fun k hk=>by have:=lx k hk; omega)
 have hgr3:=(q5 gr (by omega) (fun h=>(hr.d2 gr h).1 rfl)).trans hgr2
 rw [e1] at p7
 rw [e2] at q7
 subst p7
 subst q7
 simp [←hlo',←hhi',hat,bsI,aw,p1,hgr2,q1,hgr3]
 obtain ⟨h4,hh4⟩:∃ h4,h4=upd h3 gr (some (.row 4 [[.ptr go 0 0,.int 0,.row gn 1 0 (e.length+1),.row gw 1 0 (e.length+1)]] .live none)):=⟨_,rfl⟩
 rw [←hh4]
 have hgr4:h4 gr=_:=(congrFun hh4 gr).trans ah
 have hk4:∀ k,k≠gr→h4 k=h3 k:=fun k hk=>by rw [hh4,ad hk]
 have lgn:gn<c2∧gn≠gr∧gn≠go∧¬an r.now gn∧¬an r.which gn∧¬an r.vals gn:=by
  rcases p4 gn (au.2 rfl) with h | ⟨h,h'⟩
  ·have d:=hr.d1 gn h
   exact ⟨by have:=ln gn h; omega,d⟩
  ·exact ⟨by omega,by omega,by omega,fun h=>by have:=lx gn h; omega,fun h=>by have:=lw gn h; omega,fun h=>by have:=lv gn h; omega⟩
 have lgw:gw<c3∧gw≠gr∧gw≠gn:=by
  rcases q4 gw (au.2 rfl) with h | ⟨h,h'⟩
  ·exact ⟨by have:=lx gw h; omega,(hr.d2 gw h).1,fun h2=>lgn.2.2.2.1 (h2▸h)⟩
  ·exact ⟨by omega,by omega,by omega⟩
 have hlow4:∀ k,k<c0→k≠gr→¬an r.names k→¬an r.now k→h4 k=h0 k:=fun k a b d f=>by rw [hk4 k b,q5 k (by omega) f,p5 k (by omega) d]
 have hr4:RI h4 c3 gr go stm (e++[(name,0)]) ⟨.row gn 1 0 (e.length+1),.row gw 1 0 (e.length+1),r.which,r.vals⟩ s:=by
  refine hr.re hgr4 ?_ ?_ ?_ (by omega) ?_ ?_ ?_
  ·rw [show ay ((e++[(name,(0:Int))]).map (·.1))=ay (e.map (·.1))++[[.str name]] by simp [ay]]
   refine p2.frame fun k hk=>?_
   have:=au.1 hk
   subst this
   rw [hk4 _ lgn.2.1,q5 _ (by omega) lgn.2.2.2.1]
  ·rw [show ak ((e++[(name,(0:Int))]).map (·.2))=ak (e.map (·.2))++[[.int 0]] by simp [ak]]
   refine q2.frame fun k hk=>?_
   have:=au.1 hk
   subst this
   exact hk4 _ lgw.2.1
  ·rintro k (rfl | hk | hk)
   ·exact hlow4 _ lgo (Ne.symm hr.gg) (fun h=>(hr.d1 _ h).2.1 rfl) fun h=>(hr.d2 _ h).2.1 rfl
   ·have d:=hr.d3 k hk
    exact hlow4 _ (lw k hk) d.1 (fun h=>(hr.d1 _ h).2.2.2.1 hk) fun h=>(hr.d2 _ h).2.2.1 hk
   ·have d:=hr.d4 k hk
    exact hlow4 _ (lv k hk) d.1 (fun h=>(hr.d1 _ h).2.2.2.2 hk) fun h=>(hr.d2 _ h).2.2.2 hk
  ·intro k hk
   rcases p4 k hk with h | ⟨h,h'⟩
   ·exact .inl h
   ·exact .inr ⟨by omega,by omega⟩
  ·intro k hk
   rcases q4 k hk with h | ⟨h,h'⟩
   ·exact .inl h
   ·exact .inr ⟨by omega,by omega⟩
  ·intro k hk hk2
   have:=au.1 hk
   have:=au.1 hk2
   omega
 have hf4:RFp c0 (r.own gr go) (RR.own ⟨.row gn 1 0 (e.length+1),.row gw 1 0 (e.length+1),r.which,r.vals⟩ gr go) h0 h4:=by
  refine ⟨fun k hk hk2=>hlow4 k hk (fun h=>hk2 (.inl h)) (fun h=>hk2 (.inr (.inr (.inl h)))) (fun h=>hk2 (.inr (.inr (.inr (.inl h))))),?_⟩
  rintro k (h | h | h | h | h | h)
  ·exact .inl (.inl h)
  ·exact .inl (.inr (.inl h))
  ·rcases p4 k h with h | ⟨h,_⟩
   ·exact .inl (.inr (.inr (.inl h)))
   ·exact .inr (by omega)
  ·rcases q4 k h with h | ⟨h,_⟩
   ·exact .inl (.inr (.inr (.inr (.inl h))))
   ·exact .inr (by omega)
  ·exact .inl (.inr (.inr (.inr (.inr (.inl h)))))
  ·exact .inl (.inr (.inr (.inr (.inr (.inr h)))))
 obtain ⟨Inv,hInv⟩:∃ Inv:Nat→Slots→St→Prop,Inv=fun (m:Nat) sl s'=>∃ (v:Int) (s2:RS) (r2:RR) (u:Int),sl 9=.int v∧m=(hi'-v+1).toNat ∧ -12001000000≤v∧v≤12001000001∧RI s'.h s'.c gr go stm (e++[(name,u)]) r2 s2∧RFp c0 (r.own gr go) (r2.own gr go) h0 s'.h∧c0≤s'.c∧cj F (hi'-lo+1).toNat lo s=cj F m v s2:=⟨_,rfl⟩
 refine co Fn327.W0 (by rfl) Inv (hi'-lo+1).toNat ?_ ?_
 ·rw [hInv]
  exact ⟨lo,s,_,0,by simp,rfl,by omega,by omega,hr4,hf4,by show c0≤c3; omega,rfl⟩
 ·intro m v' s' hI
  rw [hInv] at hI
  obtain ⟨vv,s2,r2,u,z1,z2,z3,z4,z5,z6,z7,z8⟩:=hI
  obtain ⟨h5,c5⟩:=s'
  simp at z1
  simp only at z5 z6 z7
  rw [z8]
  have hat5:=z5.now.at_
  have hgo5:=z5.obj
  by_cases hle:vv≤hi'
  case neg=>
   have hm0:m=0:=by omega
   subst hm0
   have hN5:=z5.now.hnames
   have hW5:=z5.now.hnow
   rw [show ay ((e++[(name,u)]).map (·.1))=ay (e.map (·.1))++[[.str name]] by simp [ay]] at hN5
   rw [show ak ((e++[(name,u)]).map (·.2))=ak (e.map (·.2))++[[.int u]] by simp [ak]] at hW5
   obtain ⟨gN,n1,n2,n3⟩:=hN5.pop
   obtain ⟨gW,m1,m2,m3⟩:=hW5.pop
   rw [e1] at n1 n2 n3
   rw [e2] at m1 m2 m3
   rw [n1] at n2
   rw [m1] at m2
   have dN:=z5.d1 gN (by rw [n1]; exact au.2 rfl)
   have dW:=z5.d2 gW (by rw [m1]; exact au.2 rfl)
   have hwe:=ae (x:=(e.length:Int)) (by omega) (by omega)
   rw [n1,m1] at hat5
   simp [z1,hle,hat5,hwe,n2,m2]
   obtain ⟨h6,hh6⟩:∃ h6,h6=upd h5 gr (some (.row 4 [[.ptr go 0 0,.int 0,.row gN 1 0 e.length,.row gW 1 0 e.length]] .live none)):=⟨_,rfl⟩
   rw [←hh6]
   have hk6:∀ k,k≠gr→h6 k=h5 k:=fun k hk=>by rw [hh6,ad hk]
   have oN:∀ k,an (.row gN 1 0 e.length) k→an r2.names k:=fun k hk=>by rw [n1]; exact au.2 (au.1 hk)
   have oW:∀ k,an (.row gW 1 0 e.length) k→an r2.now k:=fun k hk=>by rw [m1]; exact au.2 (au.1 hk)
   refine ⟨rfl,⟨.row gN 1 0 e.length,.row gW 1 0 e.length,r2.which,r2.vals⟩,⟨fun k hk hk2=>?_,?_⟩,fun _=>?_⟩
   ·show h6 k=h0 k
    rw [hk6 k fun h=>hk2 (.inl h)]
    exact z6.same k hk hk2
   ·rintro k (h | h | h | h | h | h)
    ·exact .inl (.inl h)
    ·exact .inl (.inr (.inl h))
    ·exact z6.rows k (.inr (.inr (.inl (oN k h))))
    ·exact z6.rows k (.inr (.inr (.inr (.inl (oW k h)))))
    ·exact z6.rows k (.inr (.inr (.inr (.inr (.inl h)))))
    ·exact z6.rows k (.inr (.inr (.inr (.inr (.inr h)))))
   ·refine z5.re ((congrFun hh6 gr).trans ah) (n3.frame fun k hk=>hk6 k (by have:=au.1 hk; subst this; exact dN.1)) (m3.frame fun k hk=>hk6 k (by have:=au.1 hk; subst this; exact dW.1)) ?_ (Nat.le_refl _) (fun k hk=>.inl (oN k hk)) (fun k hk=>.inl (oW k hk)) fun k hk hk2=>(z5.d1 k (oN k hk)).2.2.1 (oW k hk2)
    rintro k (rfl | hk | hk)
    ·exact hk6 _ (Ne.symm z5.gg)
    ·exact hk6 _ (z5.d3 k hk).1
    ·exact hk6 _ (z5.d4 k hk).1
  obtain ⟨m',rfl⟩:∃ m',m=m'+1:=⟨m-1,by omega⟩
  have hrd:=z5.rounds
  simp [z1,hle]
  refine ACalls.pure (ep _ _ _) fun c6 hc6=>?_
  by_cases hin:-1000000≤vv∧vv≤1000000
  case neg=>
   simp [hin]
   have hF1:cj F (m'+1) vv s2=(1,s2):=by simp only [cj]; rw [if_pos hin]
   rw [hF1]
   exact ⟨rfl,r2,z6,fun h=>by cases h⟩
  have hw1:=ae (x:=s2.rounds+1) (by omega) (by omega)
  simp [hin,hat5,hgo5,hw1]
  obtain ⟨h6,hh6⟩:∃ h6,h6=upd h5 go (some (.row 6 [[stm,r2.which,r2.vals,.int (s2.rounds+1),.sl [] true,.sl [] true]] .live none)):=⟨_,rfl⟩
  have hf6:RFp c0 (r.own gr go) (r2.own gr go) h0 h6:=⟨fun k hk hk2=>by
   have:k≠go:=fun h=>hk2 (.inr (.inl h))
   rw [hh6,ad this]; exact z6.same k hk hk2,z6.rows⟩
  have hgr6:h6 gr=_:=(congrFun hh6 gr).trans ((ad z5.gg).trans hat5)
  have hgo6:h6 go=_:=(congrFun hh6 go).trans ah
  have hgg:=z5.gg
  simp [←hh6,hgr6,hgo6]
  by_cases hr2:200000<s2.rounds+1
  ·simp [hr2]
   have hF1:cj F (m'+1) vv s2=(12,⟨s2.rounds+1,s2.l⟩):=by simp only [cj]; rw [if_neg (not_not_intro hin),if_pos hr2]
   rw [hF1]
   exact ⟨rfl,r2,hf6,fun h=>by cases h⟩
  have hr6:=z5.setRounds (s2.rounds+1) ⟨by omega,by omega⟩
  rw [←hh6] at hr6
  obtain ⟨g,full,l1,l2,l3,l4,l5,l6⟩:=hr6.setLast vv
  have hwe:=ae (x:=(e.length:Int)) (by omega) (by omega)
  rw [l1] at hgr6
  have hlt:(e.length:Int)<(e.length:Int)+1:=by omega
  have hge:(ak (e.map (·.2))++[AV.int u]::full)[e.length]?=some [.int u]:=by
   rw [List.getElem?_append_right (by omega),e2,Nat.sub_self]; rfl
  have hset:(ak (e.map (·.2))++[AV.int u]::full).set e.length [.int vv]=ak (e.map (·.2))++[.int vv]::full:=by
   have:=we (es:=ak (e.map (·.2))) (full:=full) (b:=[AV.int u]) (x:=[AV.int vv])
   rwa [e2] at this
  have hget:(ak (e.map (·.2))++[AV.int u]::full)[(ak (e.map (·.2))).length]?=some [.int u]:=by rw [e2]; exact hge
  obtain ⟨h7,hh7⟩:∃ h7,h7=upd h6 g (some (.row 1 (ak (e.map (·.2))++[.int vv]::full) .live none)):=⟨_,rfl⟩
  rw [←hh7] at l3
  have heok:d6 (e++[(name,vv)]):=fun p hp=>by
   rcases List.mem_append.1 hp with hp | hp
   ·exact he p hp
   ·simp at hp; subst hp; exact hin
  have hndp:((e++[(name,vv)]).map (·.1)).Nodup:=by
   rw [List.map_append,List.nodup_append]
   refine ⟨hnd,by simp,fun a ha b hb2=>?_⟩
   simp at hb2
   subst hb2
   exact fun h=>rq hnm (h▸ha)
  have hstep:=ih body hb num (e++[(name,vv)]) way r2 ⟨s2.rounds+1,s2.l⟩ h7 c6 (by rw [List.map_append]; exact hbd) heok hndp (by simp; omega) (by omega) (l3.frame hc6 fun _ _=>rfl)
  simp [z1,hr2,hgr6,hwe,hlt,l2,hge,hset,←hh7]
  refine hstep.mono ?_
  rintro av ⟨h8,c8⟩ hc8 ⟨rfl,r8,j1,j2⟩
  simp only at hc8 j1 j2
  have hFv:F vv ⟨s2.rounds+1,s2.l⟩=aU num (e++[(name,vv)]) way 0 body ⟨s2.rounds+1,s2.l⟩:=by rw [hF]
  rw [←hFv] at j2 ⊢
  have hf7:RFp c0 (r.own gr go) (r2.own gr go) h0 h7:=⟨fun k hk hk2=>by
   have:k≠g:=fun h=>(hf6.rows g l4).elim (fun h2=>hk2 (h▸h2)) fun h2=>by omega
   rw [hh7,ad this]; exact hf6.same k hk hk2,hf6.rows⟩
  have hf8:RFp c0 (r.own gr go) (r8.own gr go) h0 h8:=hf7.trans j1 (by omega)
  by_cases hz:(F vv ⟨s2.rounds+1,s2.l⟩).1=0
  ·have hwv:=ae (x:=vv+1) (by omega) (by omega)
   simp [hz,z1,hwv]
   refine ⟨m',by omega,?_⟩
   rw [hInv]
   refine ⟨vv+1,(F vv ⟨s2.rounds+1,s2.l⟩).2,r8,vv,by simp,by omega,by omega,by omega,j2 hz,hf8,by show c0≤c8; omega,?_⟩
   rw [z8]; simp only [cj]; rw [if_neg (not_not_intro hin),if_neg hr2,if_pos hz]
  ·simp [hz]
   have hF1:cj F (m'+1) vv s2=F vv ⟨s2.rounds+1,s2.l⟩:=by simp only [cj]; rw [if_neg (not_not_intro hin),if_neg hr2,if_neg hz]
   rw [hF1]
   exact ⟨rfl,r8,hf8,fun h=>absurd h hz⟩
theorem uh (A:List Wb.Array) (gr go:Nat) (stm:AV):∀ (N:Nat),se A gr go stm N:=by
 intro N
 induction N with
 | zero=>
  intro l hl
  have:l=[]:=by
   cases l with
   | nil=>rfl
   | cons x xs=>obtain ⟨_,_,_,_,_,body,_,_,_⟩:=x; simp [az,count] at hl
  subst this
  intro num e way r s h0 c0 hok he hnd hel hnl hr
  refine Fn285.calls .keep ?_
  unfold Fn285.ac
  simp
  refine bq 13 Fn285.W0 ([]:List Wb.Step) (fun (i:Nat) r sl s'=>s'=⟨h0,c0⟩) (by rfl) (by rfl) ?_ ?_ ?_
  ·simp
  ·intro v s' hv hI
   simp at hv
   subst hI
   simp [hv,aU]
   exact ⟨rfl,r,RFp.refl,fun _=>hr⟩
  ·intro i x xs v s' hi; simp at hi
 | succ N ih=>
  intro l hl num e way r s h0 c0 hok he hnd hel hnl hr
  have hlc:l.length≤1000000:=by
   have:l.length≤az l:=by
    clear hl hok hnl
    induction l with
    | nil=>simp
    | cons x xs ih=>obtain ⟨_,_,_,_,_,body,_,_,_⟩:=x; simp [az,count]; omega
   omega
  refine Fn285.calls .keep ?_
  unfold Fn285.ac
  simp
  obtain ⟨Inv,hInv⟩:∃ Inv:Nat→List Wb.Step→Slots→St→Prop,Inv=fun i rs sl s'=>∃ (s1:RS) (r1:RR) (num1:Nat),sl 2=.int num1∧num1+az rs≤num+az l∧RI s'.h s'.c gr go stm e r1 s1∧RFp c0 (r.own gr go) (r1.own gr go) h0 s'.h∧c0≤s'.c∧aU num e way 0 l s=aU num1 e way i rs s1:=⟨_,rfl⟩
  refine bq 13 Fn285.W0 l Inv (by rfl) (by rfl) ?_ ?_ ?_
  ·rw [hInv]
   exact ⟨by simp,s,r,num,by simp,Nat.le_refl _,hr,RFp.refl,Nat.le_refl _,rfl⟩
  ·intro v s' hv hI
   rw [hInv] at hI
   obtain ⟨s1,r1,num1,i0,i00,i1,i2,i3,i6⟩:=hI
   have hrr:aU num e way 0 l s=(0,s1):=by rw [i6]; rfl
   simp [hv,hrr]
   exact ⟨rfl,r1,i2,fun _=>i1⟩
  ·intro i x xs v s' hi hx hl2 hv hI
   rw [hInv] at hI
   obtain ⟨s1,r1,num1,i0,i00,i1,i2,i3,i6⟩:=hI
   obtain ⟨h,c⟩:=s'
   simp only at i1 i2 i3
   simp at i0
   have hwi:=ae (x:=(i:Int)+1) (by omega) (by omega)
   have hxok:=jd hok x (aR hl2)
   have hcut:=d9 hl2
   obtain ⟨X,hX⟩:∃ X,X=x:=⟨_,rfl⟩
   have hsc:cW X≤count X:=oM X
   have hcx:az (x::xs)=count X+az xs:=by rw [hX]; rfl
   obtain ⟨kind,name,low,high,conds,body,array,subs,⟨op,n,form,ea,es,args⟩⟩:=x
   have hbody:az body≤N:=by simp [count] at hcut; omega
   have hbx:az body+1≤count X:=by rw [hX]; simp [count]; omega
   have hws:=ae (x:=(num1:Int)+cW X) (by omega) (by omega)
   have hcont:∀ h5 c5 (r5:RR) s5,c≤c5→RI h5 c5 gr go stm e r5 s5→RFp c (r1.own gr go) (r5.own gr go) h h5→bD num1 e (way++[(i:Int)]) X s1=(0,s5)→∀ sl',sl' 2=.int ((num1:Int)+cW X)→Inv (i+1) xs sl' ⟨h5,c5⟩:=by
    intro h5 c5 r5 s5 hc5 hr5 hf5 hrun sl' hsl
    rw [hInv]
    refine ⟨s5,r5,num1+cW X,by rw [hsl]; push_cast; rfl,by omega,hr5,i2.trans hf5 i3,by show c0≤c5; omega,?_⟩
    rw [i6,hX]; rw [hX] at hrun; simp only [aU,hrun,if_true]
   have hfail:∀ h5 c5 (r5:RR) f s5,f≠0→RFp c (r1.own gr go) (r5.own gr go) h h5→bD num1 e (way++[(i:Int)]) X s1=(f,s5)→rE gr go stm e r (aU num e way 0 l s) c0 h0 (.int f) ⟨h5,c5⟩:=by
    intro h5 c5 r5 f s5 hf0 hf5 hrun
    have hrr:aU num e way 0 l s=(f,s5):=by rw [i6]; rw [hX] at hrun; simp [aU,hrun,hf0]
    rw [hrr]
    exact ⟨rfl,r5,i2.trans hf5 i3,fun h=>absurd h hf0⟩
   have hgo:∀ {o:Int×RS} {av:AV} {s5:St},bD num1 e (way++[(i:Int)]) X s1=o→rE gr go stm e r1 o c h av s5→c≤s5.c→True:=fun _ _ _=>trivial
   simp [hv,hi,hx,Step.cells_mk]
   by_cases k1:kind=1
   ·subst k1
    have hpc:=py body (by omega)
    have hok1:inL name (e.map (·.1))=false∧low≠[]∧high≠[]∧(∀ b∈low,cw b)∧(∀ b∈high,cw b)∧cP A (e.map (·.1)++[name]) body:=by
     simp only [dV] at hxok
     rcases hxok with hx | hx | hx
     ·exact hx.2
     ·exact absurd hx.1 (by decide)
     ·exact absurd hx.1 (by decide)
    obtain ⟨hnm,hl0,hh0,hlb,hhb,hbd⟩:=hok1
    have hsX:cW X=fT body:=by rw [hX]; simp [cW]
    rw [hsX] at hcont hws
    simp
    refine ACalls.pure hpc fun c2 hc2=>?_
    have hlp:=ul A gr go stm N ih name low high conds body hbody array subs (.mk op n form ea es args) num1 e (way++[(i:Int)]) r1 s1 h c2 hnm hl0 hh0 hlb hhb hbd he hnd (by omega) (by omega) (i1.frame hc2 fun _ _=>rfl)
    rw [Step.cells_mk,←hX] at hlp
    simp [i0]
    refine hlp.mono ?_
    rintro av ⟨h5,c5⟩ hc5 ⟨rfl,r5,j1,j2⟩
    have j1':RFp c (r1.own gr go) (r5.own gr go) h h5:=⟨fun k hk a=>j1.same k (by omega) a,fun k hk=>(j1.rows k hk).imp id fun h=>by omega⟩
    simp only at hc5 j1 j2
    by_cases hz:(bD num1 e (way++[(i:Int)]) X s1).1=0
    ·simp [hz,hv,hwi,hws,i0]
     exact hcont h5 c5 r5 _ (by omega) (j2 hz) j1' (Prod.ext hz rfl) _ (by simp)
    ·simp [hz]
     exact hfail h5 c5 r5 _ _ hz j1' rfl
   by_cases k2:kind=2
   ·subst k2
    have hpc:=py body (by omega)
    have hok2:(∀ f∈conds,OkForm f)∧cP A (e.map (·.1)) body:=by
     simp only [dV] at hxok
     rcases hxok with hx | hx | hx
     ·exact absurd hx.1 (by decide)
     ·exact hx.2
     ·exact absurd hx.1 (by decide)
    have hrun:bD num1 e (way++[(i:Int)]) X s1=if conds.all (fun f=>decide (0≤aH (aA e) f))=true then aU num1 e (way++[(i:Int)]) 0 body s1 else (0,s1):=by rw [hX]; simp [bD]
    have hsX:cW X=fT body:=by rw [hX]; simp [cW]
    rw [hsX] at hcont hws
    simp
    refine ACalls.pure hpc fun c2 hc2=>?_
    have i1':=i1.frame hc2 fun _ _=>rfl
    simp
    refine ACalls.at (um conds hok2.1 e he hnd (by omega) gr go 0 r1.names r1.now h c2 i1'.now) fun c3 hc3=>?_
    by_cases hall:conds.all (fun f=>decide (0≤aH (aA e) f))=true
    ·rw [if_pos hall] at hrun
     simp [hall,i0]
     refine (ih body hbody num1 e (way++[(i:Int)]) r1 s1 h c3 hok2.2 he hnd (by omega) (by omega) (i1'.frame hc3 fun _ _=>rfl)).mono ?_
     rintro av ⟨h5,c5⟩ hc5 ⟨rfl,r5,j1,j2⟩
     have j1':RFp c (r1.own gr go) (r5.own gr go) h h5:=⟨fun k hk a=>j1.same k (by omega) a,fun k hk=>(j1.rows k hk).imp id fun h=>by omega⟩
     simp only at hc5 j1 j2
     rw [←hrun] at j2 ⊢
     by_cases hz:(bD num1 e (way++[(i:Int)]) X s1).1=0
     ·simp [hz,hv,hwi,hws,i0]
      exact hcont h5 c5 r5 _ (by omega) (j2 hz) j1' (Prod.ext hz rfl) _ (by simp)
     ·simp [hz]
      exact hfail h5 c5 r5 _ _ hz j1' rfl
    ·rw [if_neg hall] at hrun
     simp [hall,hv,hwi,hws,i0]
     exact hcont h c3 r1 s1 (by omega) (i1'.frame hc3 fun _ _=>rfl) RFp.refl hrun _ (by simp)
   have hok3:kind=3∧body=[]:=by
    simp only [dV] at hxok
    rcases hxok with hx | hx | hx
    ·exact absurd hx.1 k1
    ·exact absurd hx.1 k2
    ·exact ⟨hx.1,hx.2.1⟩
   obtain ⟨rfl,rfl⟩:=hok3
   have hsX:cW X=1:=by rw [hX]; simp [cW,fT]
   rw [hsX] at hcont
   have hws:=ae (x:=(num1:Int)+1) (by omega) (by omega)
   have hset:=uo num1 (by omega) X (way++[(i:Int)]) e (by omega) gr go stm r1 s1 h c i1
   simp [i0]
   refine hset.mono ?_
   rintro av ⟨h5,c5⟩ hc5 hq
   simp only at hc5 hq
   by_cases hfull:s1.l.length=50000
   ·rw [if_pos hfull] at hq
    obtain ⟨rfl,rfl⟩:=hq
    simp
    exact hfail h5 c5 r1 12 s1 (by decide) RFp.refl (by rw [hX]; simp [bD,hfull])
   ·rw [if_neg hfull] at hq
    obtain ⟨rfl,r5,j1,j2⟩:=hq
    simp [hv,hwi,hws,i0]
    exact hcont h5 c5 r5 _ hc5 j1 j2 (by rw [hX]; simp [bD,hfull]) _ (by simp)
end Go.Proofs.YtjhogglgkjcacaaGreat
set_option maxRecDepth 20000
set_option maxHeartbeats 4000000
namespace Go.Proofs.YtjhogglgkjcacaaGreat
open Go.AM Go.Wb
def stCells (y:Wb.Step×List Wb.Step):List AV:=y.1.cells++[row (y.2.map Step.cells),row ((cV (Step.expr y.1)).map Expr.cells)]
theorem qz (around:List Wb.Step) (l:List Wb.Step):((bK around l).filter ed).map fL=(bR around l).map stCells:=by
 rw [jj,List.map_map]; rfl
structure PlayAt (h:Heap) (c0 c go:Nat) (p:Wb.Prog) (stm which vals acc frm:AV):Prop where
 obj:h go=some (.row 6 [[stm,which,vals,.int (aE p).2.rounds,acc,frm]] .live none)
 hstm:RowAt h 17 stm ((bR [] p.steps).map stCells)
 hwhich:RowAt h 1 which (ak ((aE p).2.l.map fun i=>(i.num:Int)))
 hvals:RowAt h 1 vals ((aE p).2.l.map fun i=>[row (ak (i.env.map (·.2)))])
 goc:c0≤go∧go<c
 sc:∀ k,an stm k→c0≤k∧k<c∧k≠go
 wc:∀ k,an which k→c0≤k∧k<c∧k≠go
 vc:∀ k,an vals k→c0≤k∧k<c∧k≠go
 len:(aE p).2.l.length≤50000
 rounds:0≤(aE p).2.rounds∧(aE p).2.rounds≤200000
 d:∀ k,(an stm k→¬an which k∧¬an vals k)∧(an which k→¬an vals k)
theorem nH {A:List Wb.Array}:∀ (around:List Wb.Step) (x:Wb.Step) (L:List ByteArray),dV A L x→∀ y∈fq around x,Step.kind y.1=3→cr (Step.expr y.1)≤4096
 | around,.mk kind name low high conds body array subs expr,L,h=>by
  intro y hy hk
  simp only [fq,List.mem_cons] at hy
  rcases hy with rfl | hy
  ·simp only [Step.kind] at hk
   simp only [dV] at h
   rcases h with h | h | h
   ·exact absurd (h.1.symm.trans hk) (by decide)
   ·exact absurd (h.1.symm.trans hk) (by decide)
   ·exact h.2.2.2.2
  ·simp only [dV] at h
   rcases h with h | h | h
   ·exact walk_readsL _ body _ h.2.2.2.2.2.2 y hy hk
   ·exact walk_readsL _ body _ h.2.2 y hy hk
   ·rw [h.2.1] at hy; simp [bK] at hy
where
 walk_readsL:∀ (around:List Wb.Step) (l:List Wb.Step) (L:List ByteArray),cP A L l→∀ y∈bK around l,Step.kind y.1=3→cr (Step.expr y.1)≤4096
  | around,[],L,_,y,hy,_=>by simp [bK] at hy
  | around,s::ss,L,h,y,hy,hk=>by
   simp only [bK,List.mem_append] at hy
   rcases hy with hy | hy
   ·exact nH around s L h.1 y hy hk
   ·exact walk_readsL around ss L h.2 y hy hk
theorem u6 (gb gp:Nat) (hgg:gb≠gp):Sees Fn284.n [] [.ptr gb 0 0] (mp gb gp) 1000 (fun X=>Step.kind X=3→cr (Step.expr X)≤4096):=by
 have hfr:∀ {v F h h'},mp gb gp v F h→(∀ k,F k→h' k=h k)→mp gb gp v F h':=by
  rintro v F h h' ⟨i1,stm,i2,i3,i4⟩ hh
  exact ⟨(hh gb ((i4 gb).2 (.inl rfl))).trans i1,stm,(hh gp ((i4 gp).2 (.inr (.inl rfl)))).trans i2,i3.frame fun k hk=>hh k ((i4 k).2 (.inr (.inr hk))),i4⟩
 have hpar:∀ {v F h},mp gb gp v F h→∀ k,F k→pb h k:=by
  rintro v F h ⟨i1,stm,i2,i3,i4⟩ k hk sz es st p e
  rcases (i4 k).1 hk with rfl | rfl | hk
  ·rw [i1] at e; cases e
  ·rw [i2] at e; cases e
  ·rcases i3 with ⟨e1,_⟩ | ⟨g,e1,hg⟩
   ·rw [e1] at hk; exact aK hk
   ·rw [e1] at hk; have:=au.1 hk; subst this; rw [hg] at e; cases e
 refine ⟨hfr,hpar,fun v F X around x h c hv hok hI hF hx har=>?_⟩
 refine ACalls.dropF c (ug (X,around) hok har x gb gp hgg v (by omega) F h c hI hF hx) ?_
 rintro av ⟨h2,c2⟩ hc2 ⟨F',j1,j2,j3⟩
 refine ⟨F',hfr j1 fun k hk=>jR (hpar j1 k hk),j2,fun k hk hkF=>(fD hk).trans (j3 k hk hkF),fun k hk sz es st p e=>?_⟩
 obtain ⟨_,q⟩:=eb e
 rcases q with q | q
 ·omega
 ·exact q _ _ _ _ rfl
theorem tP (p:Wb.Prog) (hp:Right p) (hc:az p.steps≤300) (h0:Heap) (c0:Nat) :
  ACalls Pg Fn213.n [p.av] ⟨h0,c0⟩ fun av s'=>Fr c0 h0 s'.h s'.c∧if (aE p).1=0 then ∃ go stm which vals,av=.tup [.ptr go 0 0,.int 0]∧PlayAt s'.h c0 s'.c go p stm which vals (.sl [] true) (.sl [] true) else av=.tup [.nilp,.int (aE p).1]:=by
 refine Fn213.calls .keep ?_
 unfold Fn213.ac
 simp [Prog.av,aM]
 obtain ⟨hA,hhA⟩:∃ hA,hA=upd (upd (upd h0 c0 (some (.row 2 [[row (p.arrays.map Array.cells),row (p.steps.map Step.cells)]] .live none))) (c0+1) (some (.row 6 [[AV.nil,AV.nil,AV.nil,AV.int 0,AV.nil,AV.nil]] .live none))) (c0+1+1) (some (.row 1 [[.ptr (c0+1) 0 0]] .live none)):=⟨_,rfl⟩
 rw [←hhA]
 have a0:hA c0=some (.row 2 [[row (p.arrays.map Array.cells),row (p.steps.map Step.cells)]] .live none):=by rw [hhA,ad (by omega),ad (by omega),ah]
 have a1:hA (c0+1)=some (.row 6 [[AV.nil,AV.nil,AV.nil,AV.int 0,AV.nil,AV.nil]] .live none):=by rw [hhA,ad (by omega),ah]
 have a2:hA (c0+1+1)=some (.row 1 [[.ptr (c0+1) 0 0]] .live none):=by rw [hhA,ah]
 have alow:∀ k,k<c0→hA k=h0 k:=fun k hk=>by rw [hhA,ad (by omega),ad (by omega),ad (by omega)]
 have hst:mp (c0+1+1) (c0+1) [] (fun k=>k=c0+1+1∨k=c0+1) hA:=⟨a2,.sl [] true,a1,.inl ⟨rfl,rfl⟩,fun k=>⟨fun h=>h.elim .inl fun h=>.inr (.inl h),fun h=>by
  rcases h with h | h | h
  ·exact .inl h
  ·exact .inr h
  ·exact absurd h aK⟩⟩
 have hw:=po (u6 (c0+1+1) (c0+1) (by omega)) (az p.steps) p.steps (Nat.le_refl _) [] (fun k=>k=c0+1+1∨k=c0+1) [] (.sl [] true) hA (c0+1+1+1) (by simp; omega) (fun y hy=>nH.walk_readsL [] p.steps [] hp.steps y hy) hst (fun k hk=>by omega) (.inl ⟨rfl,rfl⟩) (by simp; omega)
 simp [a0]
 refine hw.mono ?_
 rintro av ⟨h2,c2⟩ hc2 ⟨F',⟨j1,stm,j2,j3,j4⟩,f1,f2,_,_⟩
 rw [List.nil_append,qz] at j3
 simp only at hc2 j1 j2 j3 f1 f2
 have g0:h2 c0=_:=(f2 c0 (by omega) (by omega) aK).trans a0
 have glow:∀ k,k<c0→h2 k=h0 k:=fun k hk=>(f2 k (by omega) (by omega) aK).trans (alow k hk)
 have gst:∀ k,an stm k→c0≤k∧k<c2∧k≠c0+1:=fun k hk=>by
  have h1:k≠c0+1:=by
   rintro rfl
   rcases j3 with ⟨e,_⟩ | ⟨g,e,hg⟩
   ·rw [e] at hk; exact aK hk
   ·rw [e] at hk; have:=au.1 hk; subst this; rw [j2] at hg; cases hg
  rcases f1 k ((j4 k).2 (.inr (.inr hk))) with h | h
  ·omega
  ·omega
 obtain ⟨h3,hh3⟩:∃ h3,h3=upd h2 c2 (some (.row 4 [[.ptr (c0+1) 0 0,.int 0,.nil,.nil]] .live none)):=⟨_,rfl⟩
 have b3:h3 c2=_:=(congrFun hh3 c2).trans ah
 have k3:∀ k,k<c2→h3 k=h2 k:=fun k hk=>by rw [hh3,ad (by omega)]
 have hri:RI h3 (c2+1) c2 (c0+1) stm [] ⟨.sl [] true,.sl [] true,.sl [] true,.sl [] true⟩ ⟨0,[]⟩:=by
  refine ⟨⟨b3,.inl ⟨rfl,rfl⟩,.inl ⟨rfl,rfl⟩,by omega,fun k hk=>absurd hk aK,fun k hk=>absurd hk aK⟩,(k3 _ (by omega)).trans j2,.inl ⟨rfl,rfl⟩,.inl ⟨rfl,rfl⟩,?_,fun k hk=>absurd hk aK,fun k hk=>absurd hk aK,fun k hk=>absurd hk aK,fun k hk=>absurd hk aK,by omega,by simp,by simp⟩
  rintro k (h | h | h | h | h | h)
  ·omega
  ·omega
  all_goals exact absurd h aK
 have hrun:=uh p.arrays c2 (c0+1) stm (az p.steps) p.steps (Nat.le_refl _) 0 [] [] _ ⟨0,[]⟩ h3 (c2+1) hp.steps (fun q hq=>by cases hq) (by simp) (by simp; omega) (by omega) hri
 have g3:h3 c0=_:=(k3 c0 (by omega)).trans g0
 simp [j1,aM,←hh3,g3]
 refine hrun.mono ?_
 rintro av ⟨h4,c4⟩ hc4 ⟨rfl,r',q1,q2⟩
 simp only at hc4 q1 q2
 have hown:∀ k,RR.own ⟨.sl [] true,.sl [] true,.sl [] true,.sl [] true⟩ c2 (c0+1) k→k=c2∨k=c0+1:=by
  rintro k (h | h | h | h | h | h)
  ·exact .inl h
  ·exact .inr h
  all_goals exact absurd h aK
 have k4:∀ k,k<c2→k≠c0+1→h4 k=h2 k:=fun k hk hk2=>(q1.same k (by omega) fun h=>by have:=hown k h; omega).trans (k3 k hk)
 have b4:h4 (c0+1+1)=_:=(k4 _ (by omega) (by omega)).trans j1
 have hlow:∀ k,k<c0→h4 k=h0 k:=fun k hk=>(k4 k (by omega) (by omega)).trans (glow k hk)
 have hrp:aU 0 [] [] 0 p.steps ⟨0,[]⟩=aE p:=rfl
 rw [hrp] at q2 ⊢
 by_cases hz:(aE p).1=0
 ·have x:=q2 hz
  have lw:∀ k,an r'.which k→c2+1≤k∧k<c4:=fun k hk=>by
   have d:=x.d3 k hk
   have hb:=x.lt k (.inr (.inr (.inr (.inr (.inl hk)))))
   rcases q1.rows k (.inr (.inr (.inr (.inr (.inl hk))))) with h | h
   ·have:=hown k h; omega
   ·omega
  have lv:∀ k,an r'.vals k→c2+1≤k∧k<c4:=fun k hk=>by
   have d:=x.d4 k hk
   have hb:=x.lt k (.inr (.inr (.inr (.inr (.inr hk)))))
   rcases q1.rows k (.inr (.inr (.inr (.inr (.inr hk))))) with h | h
   ·have:=hown k h; omega
   ·omega
  simp [hz,b4]
  refine ⟨⟨by show c0≤c4; omega,hlow⟩,stm,r'.which,r'.vals,x.obj,j3.frame fun k hk=>k4 k (gst k hk).2.1 (gst k hk).2.2,x.which,x.vals,⟨by omega,by omega⟩,fun k hk=>by have:=gst k hk; omega,fun k hk=>by have:=lw k hk; have:=(x.d3 k hk).2.1; omega,fun k hk=>by have:=lv k hk; have:=(x.d4 k hk).2; omega,x.len,x.rounds,fun k=>⟨fun hk=>⟨fun h=>?_,fun h=>?_⟩,fun hk=>(x.d3 k hk).2.2⟩⟩
  ·have:=gst k hk; have:=lw k h; omega
  ·have:=gst k hk; have:=lv k h; omega
 ·simp [hz]
  exact ⟨by show c0≤c4; omega,hlow⟩
end Go.Proofs.YtjhogglgkjcacaaGreat
set_option maxRecDepth 20000
set_option maxHeartbeats 4000000
namespace Go.Proofs.YtjhogglgkjcacaaGreat
open Go.AM Go.Wb
structure PlO (h:Heap) (c go:Nat) (st:List (Wb.Step×List Wb.Step)) (l:List Inst) (stm which vals:AV):Prop where
 obj:∃ a b d,h go=some (.row 6 [[stm,which,vals,a,b,d]] .live none)
 hstm:RowAt h 17 stm (st.map stCells)
 hwhich:RowAt h 1 which (ak (l.map fun i=>(i.num:Int)))
 hvals:RowAt h 1 vals (l.map fun i=>[row (ak (i.env.map (·.2)))])
 goc:go<c
 sb:∀ k,an stm k→k<c
 wb:∀ k,an which k→k<c
 vb:∀ k,an vals k→k<c
theorem PlO.fr {h h':Heap} {c c' go:Nat} {st:List (Wb.Step×List Wb.Step)} {l:List Inst} {stm which vals:AV} (x:PlO h c go st l stm which vals) (hF:Fr c h h' c'):PlO h' c' go st l stm which vals:=by
 obtain ⟨⟨a,b,d,x1⟩,x2,x3,x4,x5,x6,x7,x8⟩:=x
 have:=hF.c
 exact ⟨⟨a,b,d,(hF.h go x5).trans x1⟩,x2.frame fun k hk=>hF.h k (x6 k hk),x3.frame fun k hk=>hF.h k (x7 k hk),x4.frame fun k hk=>hF.h k (x8 k hk),by omega,fun k hk=>by have:=x6 k hk; omega,fun k hk=>by have:=x7 k hk; omega,fun k hk=>by have:=x8 k hk; omega⟩
theorem _root_.Go.AM.RowAt.at {h:Heap} {sz:Nat} {x:AV} {es:List (List AV)} (r:RowAt h sz x es) {i:Nat} (hi:i<es.length):∃ g,x=.row g sz 0 es.length∧h g=some (.row sz es .live none):=by
 rcases r with ⟨_,rfl⟩ | ⟨g,rfl,hg⟩
 ·simp at hi
 ·exact ⟨g,rfl,hg⟩
theorem up (x:ByteArray) (st:List (Wb.Step×List Wb.Step)) (l:List Inst) (stm which vals:AV) (go i b7 b3 b4:Nat) (I:Inst) (lps:List Wb.Step) (h0:Heap) (c0:Nat) (hp:PlO h0 c0 go st l stm which vals) (hi:i<l.length) (hI:l[i]=I) (hl:lps.map Step.name=I.env.map (·.1)) (hlen:lps.length≤1000000)
  (g7:h0 b7=some (.row 1 [[row (lps.map Step.cells)]] .live none)) (g3:h0 b3=some (.row 1 [[.ptr go 0 0]] .live none)) (g4:h0 b4=some (.row 1 [[.int i]] .live none)) :
  ACalls Pg Fn331.n [.str x,.ptr b7 0 0,.ptr b3 0 0,.ptr b4 0 0] ⟨h0,c0⟩ fun av s'=>av=.int (aA I.env x)∧s'.h=h0:=by
 refine Fn331.calls .frz ?_
 unfold Fn331.ac
 obtain ⟨⟨a,b,d,o1⟩,o2,o3,o4,o5,o6,o7,o8⟩:=hp
 obtain ⟨gv,v1,v2⟩:=o4.at (i:=i) (by simpa using hi)
 rw [v1] at o1
 have hel:I.env.length=lps.length:=by have:=congrArg List.length hl; simpa using this.symm
 simp [g7]
 obtain ⟨Inv,hInv⟩:∃ Inv:Nat→List Wb.Step→Slots→St→Prop,Inv=fun i r sl s'=>s'=⟨h0,c0⟩∧bS I.env x=bS (I.env.drop i) x:=⟨_,rfl⟩
 refine bq 9 Fn331.W0 lps Inv (by rfl) (by rfl) ?_ ?_ ?_
 ·rw [hInv]; exact ⟨by simp,rfl,rfl⟩
 ·intro v s' hv hI2
  rw [hInv] at hI2
  obtain ⟨rfl,hI2⟩:=hI2
  rw [List.drop_of_length_le (by omega)] at hI2
  simp [hv,aA,hI2,bS]
 ·intro j X xs v s' hj hx hl2 hv hI2
  rw [hInv] at hI2
  obtain ⟨rfl,hI2⟩:=hI2
  have hw:=ae (x:=(j:Int)+1) (by omega) (by omega)
  have hje:j<I.env.length:=by omega
  have hnm:(I.env[j]).1=Step.name X:=by
   have h1:(lps.map Step.name)[j]?=(I.env.map (·.1))[j]?:=by rw [hl]
   simp [hj,hje,hx] at h1
   exact h1.symm
  rw [List.drop_eq_getElem_cons hje] at hI2
  obtain ⟨kind,name,low,high,conds,body,array,subs,⟨op,n2,form,ea,es,args⟩⟩:=X
  simp only [Step.name] at hnm
  have hgv:(l.map fun i=>[row (ak (i.env.map (·.2)))])[i]?=some [row (ak (I.env.map (·.2)))]:=by simp [hi,hI]
  have hge:(ak (I.env.map (·.2)))[j]?=some [.int (I.env[j]).2]:=by simp [ak,hje]
  have hve:l[i].env=I.env:=by rw [hI]
  simp [hv,hj,hx,g7,Step.cells_mk]
  by_cases hxn:name=x
  ·simp only [bS] at hI2
   rw [if_pos (hxn.symm.trans hnm.symm)] at hI2
   simp [hxn,g3,g4,o1,hi,v2,hv,hve,hge,hje,aA,hI2]
  ·simp only [bS] at hI2
   rw [if_neg (fun h=>hxn (h.trans hnm).symm)] at hI2
   simp [hxn,hv,hw]
   rw [hInv]
   exact ⟨rfl,hI2⟩
theorem ui (A:List Wb.Array) (st:List (Wb.Step×List Wb.Step)) (l:List Inst) (stm which vals:AV) (go i:Nat) (I:Inst) (hI:l[i]?=some I) (hok:InstOk A st I) (hst:∀ y∈st,y.2.length≤1000000) (f:Wb.Form) (hf:OkForm f) (h0:Heap) (c0:Nat) (hp:PlO h0 c0 go st l stm which vals) :
  ACalls Pg Fn286.n [.ptr go 0 0,.int i,f.av] ⟨h0,c0⟩ fun av s'=>av=.int (aH (aA I.env) f)∧s'.h=h0:=by
 refine Fn286.calls .frz ?_
 unfold Fn286.ac
 obtain ⟨hi,hIe⟩:=List.getElem?_eq_some_iff.1 hI
 obtain ⟨lps,hat,hnm⟩:=hok.at_
 obtain ⟨hn,hne⟩:=List.getElem?_eq_some_iff.1 hat
 have hlen:=hst _ (List.mem_of_getElem? hat)
 have hF0:Fr c0 h0 (upd (upd (upd h0 c0 (some (.row 1 [[.ptr go 0 0]] .live none))) (c0+1) (some (.row 1 [[.int i]] .live none))) (c0+1+1) (some (.row 2 [[.int f.const,row (f.terms.map Term.cells)]] .live none))) (c0+1+1+1):=⟨by omega,fun k hk=>by rw [ad (by omega),ad (by omega),ad (by omega)]⟩
 obtain ⟨h3,hh3⟩:∃ h3,h3=upd (upd (upd h0 c0 (some (.row 1 [[.ptr go 0 0]] .live none))) (c0+1) (some (.row 1 [[.int i]] .live none))) (c0+1+1) (some (.row 2 [[.int f.const,row (f.terms.map Term.cells)]] .live none)):=⟨_,rfl⟩
 have b3:h3 c0=some (.row 1 [[.ptr go 0 0]] .live none):=by rw [hh3,ad (by omega),ad (by omega),ah]
 have b4:h3 (c0+1)=some (.row 1 [[.int i]] .live none):=by rw [hh3,ad (by omega),ah]
 have b5:h3 (c0+1+1)=some (.row 2 [[.int f.const,row (f.terms.map Term.cells)]] .live none):=by rw [hh3,ah]
 rw [←hh3] at hF0
 have hp3:=hp.fr hF0
 have hp3':=hp3
 obtain ⟨⟨a,b,d,o1⟩,o2,o3,o4,o5,o6,o7,o8⟩:=hp3
 obtain ⟨gs,s1,s2⟩:=o2.at (i:=I.num) (by simpa using hn)
 obtain ⟨gw,w1,w2⟩:=o3.at (i:=i) (by simpa [ak] using hi)
 have el1:(st.map stCells).length=st.length:=by simp
 have el2:(ak (l.map fun i=>(i.num:Int))).length=l.length:=by simp [ak]
 rw [s1,w1,el1,el2] at o1
 have hgw:(ak (l.map fun i=>(i.num:Int)))[i]?=some [.int I.num]:=by simp [ak,hi,hIe]
 have hgs:(st.map stCells)[I.num]?=some (stCells (I.step,lps)):=by simp [hn,hne]
 have hst15:stCells (I.step,lps)=I.step.cells++[row (lps.map Step.cells),row ((cV (Step.expr I.step)).map Expr.cells)]:=rfl
 have hc15:(stCells (I.step,lps))[15]?=some (row (lps.map Step.cells)):=by rw [hst15,List.getElem?_append_right (by rw [eS]; omega),eS]; rfl
 have hnl:(I.num:Int)<st.length:=by omega
 simp [Form.av,Form.cells,←hh3]
 have hIn:l[i].num=I.num:=by rw [hIe]
 have lgs:=o6 gs (by rw [s1]; exact au.2 rfl)
 have lgw:=o7 gw (by rw [w1]; exact au.2 rfl)
 have n0:∀ {b:Option Body},upd h3 (c0+1+1+1) b c0=some (.row 1 [[.ptr go 0 0]] .live none):=fun {b}=>by rw [ad (by omega)]; exact b3
 have n1:∀ {b:Option Body},upd h3 (c0+1+1+1) b (c0+1)=some (.row 1 [[.int i]] .live none):=fun {b}=>by rw [ad (by omega)]; exact b4
 have n2:∀ {b:Option Body},upd h3 (c0+1+1+1) b (c0+1+1)=some (.row 2 [[.int f.const,row (f.terms.map Term.cells)]] .live none):=fun {b}=>by rw [ad (by omega)]; exact b5
 have n3:∀ {b:Option Body},upd h3 (c0+1+1+1) b go=_:=fun {b}=>by rw [ad (by omega)]
 have n4:∀ {b:Option Body},upd h3 (c0+1+1+1) b gs=_:=fun {b}=>by rw [ad (by omega)]
 have n5:∀ {b:Option Body},upd h3 (c0+1+1+1) b gw=_:=fun {b}=>by rw [ad (by omega)]
 have hF4:Fr (c0+1+1+1) h3 (upd h3 (c0+1+1+1) (some (.row 1 [[row (lps.map Step.cells)]] .live none))) (c0+1+1+1+1):=(Fr.refl _ _).upd (Nat.le_refl _) (Nat.le_succ _)
 have hsay:SaysI Fn331.n [] [.ptr (c0+1+1+1) 0 0,.ptr c0 0 0,.ptr (c0+1) 0 0] (upd h3 (c0+1+1+1) (some (.row 1 [[row (lps.map Step.cells)]] .live none))) (c0+1+1+1+1) (aA I.env):=fun x h c hF=>
  up x st l stm which vals go i _ _ _ I lps h c ((hp3'.fr hF4).fr hF) hi hIe hnm hlen ((hF.h _ (by omega)).trans ah) ((hF.h _ (by omega)).trans n0) ((hF.h _ (by omega)).trans n1)
 have hlv:=pz f hf Fn331.n [] [.ptr (c0+1+1+1) 0 0,.ptr c0 0 0,.ptr (c0+1) 0 0] (aA I.env) (cB hok.env) _ _ hsay
 rw [Form.av,Form.cells] at hlv
 simp [b3,b4,b5,o1,hi,w2,hgw,hIn,hn,s2,hne,hc15,n0,n1,n2,n3,n4,n5]
 refine ACalls.at hlv fun c5 hc5=>?_
 simp
 exact aC fun k hk=>by rw [ad (by omega)]; exact hF0.h k hk
theorem gI {φ:ByteArray→Int}:∀ {zs:List Int} {fs:List Wb.Form} {n:Int},(cE φ zs fs n false).2=false
 | [],_,_=>by cases ‹List Wb.Form› <;> rfl
 | _::_,[],_=>rfl
 | z::zs,f::fs,n=>by simp only [cE,Bool.false_and]; exact gI
theorem tR (A:List Wb.Array) (st:List (Wb.Step×List Wb.Step)) (l:List Inst) (stm which vals:AV) (go i:Nat) (I:Inst) (hI:l[i]?=some I) (hok:InstOk A st I) (hst:∀ y∈st,y.2.length≤1000000) (a:Wb.Array) (subs:List Wb.Form) (hsubs:∀ f∈subs,OkForm f) (hlen:a.sizes.length=subs.length) (h0:Heap) (c0:Nat) (hp:PlO h0 c0 go st l stm which vals) :
  ACalls Pg Fn215.n [.ptr go 0 0,.int i,.agg a.cells,row (subs.map Form.cells)] ⟨h0,c0⟩ fun av s'=>s'.h=h0∧∃ n:Int,av=.tup [.int n,.bool (cE (aA I.env) a.sizes subs 0 true).2]∧((cE (aA I.env) a.sizes subs 0 true).2=true→n=(cE (aA I.env) a.sizes subs 0 true).1):=by
 refine ACalls.small fun hsm=>?_
 have hsl:subs.length≤68719476736:=by simp at hsm; omega
 refine Fn215.calls .frz ?_
 unfold Fn215.ac
 have hφ:=cB hok.env
 simp [Array.cells]
 obtain ⟨h1,hh1⟩:∃ h1,h1=upd h0 c0 (some (.row 2 [[.str a.key,row (ak a.sizes)]] .live none)):=⟨_,rfl⟩
 rw [←hh1]
 have hb:h1 c0=_:=(congrFun hh1 c0).trans ah
 have hF1:Fr c0 h0 h1 (c0+1):=by rw [hh1]; exact (Fr.refl _ _).upd (Nat.le_refl _) (Nat.le_succ _)
 obtain ⟨Inv,hInv⟩:∃ Inv:Nat→List Wb.Form→Slots→St→Prop,Inv=fun i r sl s'=>∃ n:Int,sl 10=.int n∧cE (aA I.env) (a.sizes.drop i) r n true=cE (aA I.env) a.sizes subs 0 true:=⟨_,rfl⟩
 refine aX 16 Fn215.W0 subs Inv (by rfl) (by rfl) ?_ ?_ ?_
 ·rw [hInv]; exact ⟨by simp,0,by simp,rfl⟩
 ·intro v h c hv hF hI2
  rw [hInv] at hI2
  obtain ⟨n,h10,hs⟩:=hI2
  rw [List.drop_of_length_le (by omega)] at hs
  simp only [cE] at hs
  simp at h10
  rw [←hs]
  simp [hv,h10]
  exact (hF1.trans hF).retH
 ·intro j f fs v h c hj hx hl2 hv hF hI2
  rw [hInv] at hI2
  obtain ⟨n,h10,hs⟩:=hI2
  simp at h10
  have hw:=ae (x:=(j:Int)+1) (by omega) (by omega)
  have hjz:j<a.sizes.length:=by omega
  rw [List.drop_eq_getElem_cons hjz] at hs
  simp only [cE] at hs
  have hcc:=hF.c
  have hzj:(ak a.sizes)[j]?=some [.int a.sizes[j]]:=by simp [ak,hjz]
  obtain ⟨h2,hh2⟩:∃ h2,h2=upd h c (some (.row 2 [[.int f.const,row (f.terms.map Term.cells)]] .live none)):=⟨_,rfl⟩
  have hF2:Fr (c0+1) h1 h2 (c+1):=by rw [hh2]; exact hF.upd hcc (Nat.le_succ _)
  have hb2:h2 c0=_:=(hF2.h c0 (by omega)).trans hb
  have hf2:h2 c=_:=(congrFun hh2 c).trans ah
  have hva:=ui A st l stm which vals go i I hI hok hst f (hsubs f (aR hl2)) h2 (c+1) (hp.fr (hF1.trans hF2))
  rw [Form.av,Form.cells] at hva
  obtain ⟨u,hu⟩:∃ u,u=aH (aA I.env) f:=⟨_,rfl⟩
  obtain ⟨z,hz⟩:∃ z,z=a.sizes[j]:=⟨_,rfl⟩
  rw [←hz] at hzj
  rw [←hu,←hz] at hs
  rw [←hu] at hva
  have hend:retH c0 h0 h2=h0:=(hF1.trans hF2).retH
  simp [hv,hj,hx,Form.cells,←hh2,hf2]
  refine ACalls.at hva fun c2 hc2=>?_
  by_cases hneg:u<0
  ·have hno:¬(0≤u∧u≤z-1):=by omega
   rw [decide_eq_false hno,Bool.and_false] at hs
   have hf:(cE (aA I.env) a.sizes subs 0 true).2=false:=by rw [←hs]; exact gI
   simp [hneg,hf]
   exact hend
  by_cases hbig:z≤u
  ·have hno:¬(0≤u∧u≤z-1):=by omega
   rw [decide_eq_false hno,Bool.and_false] at hs
   have hf:(cE (aA I.env) a.sizes subs 0 true).2=false:=by rw [←hs]; exact gI
   simp [hneg,hbig,hf,hb2,hjz,hzj]
   exact hend
  ·have hyes:0≤u∧u≤z-1:=by omega
   rw [decide_eq_true hyes,Bool.and_true] at hs
   simp [hneg,hbig,hb2,hjz,hzj,h10,hv,hw]
   refine ⟨⟨by show c0+1≤c2; omega,hF2.h⟩,?_⟩
   rw [hInv]
   exact ⟨_,by simp,hs⟩
end Go.Proofs.YtjhogglgkjcacaaGreat
set_option maxRecDepth 20000
set_option maxHeartbeats 4000000
namespace Go.Proofs.YtjhogglgkjcacaaGreat
open Go.AM Go.Wb
structure RunI (h:Heap) (c go b9:Nat) (st:List (Wb.Step×List Wb.Step)) (l:List Inst) (stm which vals rnd acc frm:AV) (n:Int) (es frs:List (List AV)):Prop where
 plo:PlO h c go st l stm which vals
 obj:h go=some (.row 6 [[stm,which,vals,rnd,acc,frm]] .live none)
 hacc:RowAt h 4 acc es
 hfrm:RowAt h 1 frm frs
 cnt:h b9=some (.row 1 [[.int n]] .live none)
 bc:b9<c
 ab:∀ k,an acc k→k<c∧k≠go∧k≠b9∧¬an frm k
 fb:∀ k,an frm k→k<c∧k≠go∧k≠b9
 gb:go≠b9
 nd:∀ k,an stm k∨an which k∨an vals k→k≠go∧k≠b9∧¬an acc k∧¬an frm k
 rc:rnd.cell=true
 esok:∀ e∈es,aB 4 e=true
 frok:∀ e∈frs,aB 1 e=true
 len:(es.length:Int)≤n∧es.length≤200000∧frs.length≤100000
 nb:0≤n∧n≤1000000000
def qr (go b9:Nat) (acc frm:AV) (k:Nat):Prop:=k=go∨k=b9∨an acc k∨an frm k
theorem RunI.frame {h h':Heap} {c c' go b9:Nat} {st:List (Wb.Step×List Wb.Step)} {l:List Inst} {stm which vals rnd acc frm:AV} {n:Int} {es frs:List (List AV)} (x:RunI h c go b9 st l stm which vals rnd acc frm n es frs) (hF:Fr c h h' c'):RunI h' c' go b9 st l stm which vals rnd acc frm n es frs:=by
 have hc:=hF.c
 exact ⟨x.plo.fr hF,(hF.h _ x.plo.goc).trans x.obj,x.hacc.frame fun k hk=>hF.h k (x.ab k hk).1,x.hfrm.frame fun k hk=>hF.h k (x.fb k hk).1,(hF.h _ x.bc).trans x.cnt,by have:=x.bc; omega,fun k hk=>⟨by have:=(x.ab k hk).1; omega,(x.ab k hk).2⟩,fun k hk=>⟨by have:=(x.fb k hk).1; omega,(x.fb k hk).2⟩,x.gb,x.nd,x.rc,x.esok,x.frok,x.len,x.nb⟩
theorem RunI.count {h:Heap} {c go b9:Nat} {st:List (Wb.Step×List Wb.Step)} {l:List Inst} {stm which vals rnd acc frm:AV} {n:Int} {es frs:List (List AV)} (x:RunI h c go b9 st l stm which vals rnd acc frm n es frs) (hn:n<1000000000):RunI (AM.upd h b9 (some (.row 1 [[.int (n+1)]] .live none))) c go b9 st l stm which vals rnd acc frm (n+1) es frs:=by
 have hne:∀ k,k≠b9→AM.upd h b9 (some (.row 1 [[.int (n+1)]] .live none)) k=h k:=fun k hk=>ad hk
 have p:=x.plo
 obtain ⟨a,b,d,o⟩:=p.obj
 exact ⟨⟨⟨a,b,d,(hne _ x.gb).trans o⟩,p.hstm.frame fun k hk=>hne k (x.nd k (.inl hk)).2.1,p.hwhich.frame fun k hk=>hne k (x.nd k (.inr (.inl hk))).2.1,p.hvals.frame fun k hk=>hne k (x.nd k (.inr (.inr hk))).2.1,p.goc,p.sb,p.wb,p.vb⟩,(hne _ x.gb).trans x.obj,x.hacc.frame fun k hk=>hne k (x.ab k hk).2.2.1,x.hfrm.frame fun k hk=>hne k (x.fb k hk).2.2,ah,x.bc,x.ab,x.fb,x.gb,x.nd,x.rc,x.esok,x.frok,by have:=x.len; omega,by have:=x.nb; omega⟩
theorem RunI.re {h h':Heap} {c c' go b9:Nat} {st:List (Wb.Step×List Wb.Step)} {l:List Inst} {stm which vals rnd acc frm acc' frm':AV} {n:Int} {es frs es' frs':List (List AV)} (x:RunI h c go b9 st l stm which vals rnd acc frm n es frs)
  (ho:h' go=some (.row 6 [[stm,which,vals,rnd,acc',frm']] .live none)) (ha:RowAt h' 4 acc' es') (hf:RowAt h' 1 frm' frs') (hk:∀ k,k<c→k≠go→¬an acc k→¬an frm k→h' k=h k) (hc:c≤c')
  (nA:∀ k,an acc' k→an acc k∨(c≤k∧k<c')) (nF:∀ k,an frm' k→an frm k∨(c≤k∧k<c')) (nd:∀ k,an acc' k→¬an frm' k)
  (he:∀ e∈es',aB 4 e=true) (hfe:∀ e∈frs',aB 1 e=true) (hl:(es'.length:Int)≤n∧es'.length≤200000∧frs'.length≤100000):RunI h' c' go b9 st l stm which vals rnd acc' frm' n es' frs':=by
 have p:=x.plo
 have bc:=x.bc
 have hs:∀ k,an stm k∨an which k∨an vals k→h' k=h k:=fun k h=>by
  have d:=x.nd k h
  have:k<c:=h.elim (p.sb k) fun h=>h.elim (p.wb k) (p.vb k)
  exact hk k this d.1 d.2.2.1 d.2.2.2
 have hlt:∀ k,an stm k∨an which k∨an vals k→k<c:=fun k h=>h.elim (p.sb k) fun h=>h.elim (p.wb k) (p.vb k)
 refine ⟨⟨⟨_,_,_,ho⟩,p.hstm.frame fun k h=>hs k (.inl h),p.hwhich.frame fun k h=>hs k (.inr (.inl h)),p.hvals.frame fun k h=>hs k (.inr (.inr h)),by have:=p.goc; omega,fun k h=>by have:=p.sb k h; omega,fun k h=>by have:=p.wb k h; omega,fun k h=>by have:=p.vb k h; omega⟩,ho,ha,hf,(hk b9 bc (Ne.symm x.gb) (fun h=>(x.ab b9 h).2.2.1 rfl) (fun h=>(x.fb b9 h).2.2 rfl)).trans x.cnt,by omega,?_,?_,x.gb,?_,x.rc,he,hfe,hl,x.nb⟩
 ·intro k h
  have goc:=p.goc
  rcases nA k h with h2 | h2
  ·have d:=x.ab k h2
   exact ⟨by omega,d.2.1,d.2.2.1,nd k h⟩
  ·exact ⟨by omega,by omega,by omega,nd k h⟩
 ·intro k h
  have goc:=p.goc
  rcases nF k h with h2 | h2
  ·have d:=x.fb k h2
   exact ⟨by omega,d.2.1,d.2.2⟩
  ·exact ⟨by omega,by omega,by omega⟩
 ·intro k h
  have d:=x.nd k h
  have:=hlt k h
  exact ⟨d.1,d.2.1,fun h2=>(nA k h2).elim d.2.2.1 fun h3=>by omega,fun h2=>(nF k h2).elim d.2.2.2 fun h3=>by omega⟩
def bE (k:Nat) (w:Bool) (s:Wb.Spot):List AV:=[.int k,.bool w,.str s.array,.int s.cell]
theorem tQ (A:List Wb.Array) (st:List (Wb.Step×List Wb.Step)) (l:List Inst) (stm which vals rnd acc frm:AV) (go b4 b6 b9 gm ver i:Nat) (I:Inst) (hI:l[i]?=some I) (hok:InstOk A st I) (hst:∀ y∈st,y.2.length≤1000000) (w:Bool) (key:ByteArray) (subs:List Wb.Form) (hsubs:ej A key subs) (n:Int) (es frs:List (List AV)) (hn:n<1000000000)
  (h0:Heap) (c0:Nat) (hr:RunI h0 c0 go b9 st l stm which vals rnd acc frm n es frs) (g4:h0 b4=some (.row 1 [[.ptr go 0 0]] .live none)) (g6:h0 b6=some (.row 1 [[.map gm]] .live none)) (b4c:b4<c0∧b4≠b9) (b6c:b6<c0∧b6≠b9) (gmc:gm<c0) (m:List (ByteArray×Wb.Array)) (hgm:h0 gm=some (.map (kvs AV.str (fun a=>AV.agg (Array.cells a)) m) ver)) (hm:∀ (j:Nat) (a:Wb.Array),A[j]?=some a→bS m a.key=some a) :
  ACalls Pg Fn214.n [.int i,.bool w,.str key,row (subs.map Form.cells),.ptr b4 0 0,.ptr b6 0 0,.ptr b9 0 0] ⟨h0,c0⟩ fun av s'=>av=.bool (bQ A (aA I.env) key subs).2 ∧
   ((bQ A (aA I.env) key subs).2=true→∃ acc',RunI s'.h s'.c go b9 st l stm which vals rnd acc' frm (n+1) (if n+1≤200000 then es++[bE i w (bQ A (aA I.env) key subs).1] else es) frs∧(∀ k,an acc' k→an acc k∨c0≤k))∧∀ k,k<c0→¬qr go b9 acc frm k→s'.h k=h0 k:=by
 obtain ⟨j,a,hj,hja,hak,hlen,hforms⟩:=hsubs
 have hsz:=kc hj hja
 have hmg:=hm j a hj
 rw [hak] at hmg
 have hspot:bQ A (aA I.env) key subs=(⟨key,(cE (aA I.env) a.sizes subs 0 true).1⟩,(cE (aA I.env) a.sizes subs 0 true).2):=by unfold bQ; rw [hsz]
 have hlk:=jw ew (f:=fun a:Wb.Array=>AV.agg (Array.cells a)) (z:=.agg [.str ⟨#[]⟩,.nil]) (ok:=false) (s:=⟨h0,c0⟩) hgm key
 rw [hmg] at hlk
 have hcell:=tR A st l stm which vals go i I hI hok hst a subs hforms hlen h0 c0 hr.plo
 rw [hspot]
 refine Fn214.calls .keep ?_
 unfold Fn214.ac
 simp [g4,g6,hlk]
 refine hcell.mono ?_
 rintro av ⟨h1,c1⟩ hc1 ⟨hh,cell,rfl,hcn⟩
 simp only at hh hc1
 subst hh
 have hcnt:=hr.cnt
 have hnb:=hr.nb
 have hw:=ae (x:=n+1) (by omega) (by omega)
 have hr1:=(hr.count hn).frame (Fr.le hc1)
 obtain ⟨h2,hh2⟩:∃ h2,h2=upd h1 b9 (some (.row 1 [[.int (n+1)]] .live none)):=⟨_,rfl⟩
 rw [←hh2] at hr1
 have q9:h2 b9=_:=hr1.cnt
 have q4:h2 b4=_:=(congrFun hh2 b4).trans ((ad b4c.2).trans g4)
 simp [hcnt,hw,←hh2,q9]
 have hsame2:∀ k,k<c0→¬qr go b9 acc frm k→h2 k=h1 k:=fun k hk hk2=>by rw [hh2,ad fun h=>hk2 (.inr (.inl h))]
 by_cases hle:n+1≤200000
 ·have hlen2:=hr1.len
  obtain ⟨h3,p1,p2,p3,p4⟩:=hr1.hacc.push (c:=c1) (bytes:=40) (md:=.plain) (b:=true) (e:=[.int i,.bool w,.str key,.int cell]) (by decide) (by decide) (by decide) (by decide) rfl hr1.esok (by omega) (fun k hk=>(hr1.ab k hk).1)
  have o2:=hr1.obj
  have goc:=hr1.plo.goc
  have ngo:¬an acc go:=fun h=>(hr1.ab go h).2.1 rfl
  have o3:=(p4 go (by omega) ngo).trans o2
  have nb4:¬an acc b4:=fun h=>by
   rcases hr.hacc with ⟨e,_⟩ | ⟨g,e,hg⟩
   ·rw [e] at h; exact aK h
   ·rw [e] at h; have:=au.1 h; subst this; rw [g4] at hg; cases hg
  have q43:=(p4 b4 (by omega) nb4).trans q4
  simp [hle,q4,o2,aM,bsI,aw,p1,o3,q43]
  obtain ⟨h4,hh4⟩:∃ h4,h4=upd h3 go (some (.row 6 [[stm,which,vals,rnd,.row c1 4 0 (es.length+1),frm]] .live none)):=⟨_,rfl⟩
  have hk4:∀ k,k<c1→k≠go→¬an acc k→h4 k=h2 k:=fun k a b d=>by rw [hh4,ad b,p4 k (by omega) d]
  rw [←hh4]
  refine ⟨fun hs=>⟨.row c1 4 0 (es.length+1),?_,fun k hk=>.inr (by have:=au.1 hk; omega)⟩,fun k hk hk2=>(hk4 k (by omega) (fun h=>hk2 (.inl h)) fun h=>hk2 (.inr (.inr (.inl h)))).trans (hsame2 k hk hk2)⟩
  refine hr1.re (acc':=.row c1 4 0 (es.length+1)) (frm':=frm) ((congrFun hh4 go).trans ah) ?_ (hr1.hfrm.frame fun k hk=>hk4 k (hr1.fb k hk).1 (hr1.fb k hk).2.1 fun h=>(hr1.ab k h).2.2.2 hk) (fun k a b d _=>hk4 k a b d) (Nat.le_succ _) (fun k hk=>.inr (by have:=au.1 hk; omega)) (fun k hk=>.inl hk) (fun k hk h=>by have:=au.1 hk; have:=(hr1.fb k h).1; omega) ?_ hr1.frok (by have:=hr.len; simp; omega)
  ·refine .inr ⟨c1,by simp,?_⟩
   rw [hh4,ad (by omega),p2,hcn hs]
   simp [bE]
  ·intro e he
   rcases List.mem_append.1 he with he | he
   ·exact hr1.esok e he
   ·rw [List.mem_singleton.1 he]; rfl
 ·simp [hle]
  exact ⟨fun _=>⟨acc,hr1,fun k hk=>.inl hk⟩,hsame2⟩
def qH:Wb.Expr→ByteArray | .mk _ _ _ array _ _=>array
def nI:Wb.Expr→List Wb.Form | .mk _ _ _ _ subs _=>subs
def fV (A:List Wb.Array) (φ:ByteArray→Int) (x:Wb.Expr):Wb.Spot×Bool:=bQ A φ (qH x) (nI x)
mutual
theorem jX (A:List Wb.Array) (φ:ByteArray→Int):∀ e:Wb.Expr,cC A φ e=((cV e).map fun x=>(fV A φ x).1,(cV e).all fun x=>(fV A φ x).2)
 | .mk op n form array subs args=>by
  simp only [cC,cV]
  split
  ·simp [fV,qH,nI]
  ·exact qm A φ args
theorem qm (A:List Wb.Array) (φ:ByteArray→Int):∀ l:List Wb.Expr,cy A φ l=((bn l).map fun x=>(fV A φ x).1,(bn l).all fun x=>(fV A φ x).2)
 | []=>rfl
 | e::es=>by simp [cy,bn,jX A φ e,qm A φ es]
end
mutual
theorem kX {A:List Wb.Array}:∀ e:Wb.Expr,eG A e→∀ x∈cV e,ej A (qH x) (nI x)
 | .mk op n form array subs args,h,x,hx=>by
  simp only [cV] at hx
  simp only [eG] at h
  split at hx
  ·rename_i h3
   rw [List.mem_singleton.1 hx]
   rcases h with h | h | h | h
   ·exact absurd (h.1.symm.trans h3) (by decide)
   ·exact absurd (h.1.symm.trans h3) (by decide)
   ·exact h.2.2
   ·omega
  ·rcases h with h | h | h | h
   ·rw [h.2.1] at hx; simp [bn] at hx
   ·rw [h.2.1] at hx; simp [bn] at hx
   ·rw [h.2.1] at hx; simp [bn] at hx
   ·exact nw args h.2.2.2 x hx
theorem nw {A:List Wb.Array}:∀ l:List Wb.Expr,fH A l→∀ x∈bn l,ej A (qH x) (nI x)
 | [],_,x,hx=>by simp [bn] at hx
 | e::es,h,x,hx=>by
  simp only [bn,List.mem_append] at hx
  simp only [fH] at h
  rcases hx with hx | hx
  ·exact kX e h.1 x hx
  ·exact nw es h.2 x hx
end
def iO (A:List Wb.Array) (k:Nat) (x:Inst):List (List AV):=(x.reads A).map (bE k false)++[bE k true (x.sets A)]
def cY (A:List Wb.Array):Nat→List Inst→List (List AV)
 | _,[]=>[]
 | k,x::xs=>iO A k x++cY A (k+1) xs
theorem mq (A:List Wb.Array):∀ (k:Nat) (a b:List Inst),cY A k (a++b)=cY A k a++cY A (k+a.length) b
 | k,[],b=>by simp [cY]
 | k,x::a,b=>by simp [cY,mq A (k+1) a b,Nat.add_assoc,Nat.add_comm 1]
theorem n9 (A:List Wb.Array) (k:Nat) (x:Inst):(iO A k x).length=(x.reads A).length+1:=by simp [iO]
theorem mr (A:List Wb.Array):∀ (k:Nat) (l:List Inst),((cY A k l).length:Int)=cF A l
 | k,[]=>rfl
 | k,x::xs=>by
  have:=mr A (k+1) xs
  simp only [cY,List.length_append,n9,cF,List.map_cons,List.sum_cons] at this ⊢
  push_cast; omega
def hU (A:List Wb.Array):Nat→List Inst→List Int
 | _,[]=>[]
 | n,x::xs=>(n:Int)::hU A (n+(x.reads A).length+1) xs
theorem om (A:List Wb.Array):∀ (n k:Nat) (a b:List Inst),hU A n (a++b)=hU A n a++hU A (n+(cY A k a).length) b
 | n,k,[],b=>by simp [hU,cY]
 | n,k,x::a,b=>by
  simp only [List.cons_append,hU,om A _ (k+1) a b,cY,List.length_append,n9]
  rw [show n+(x.reads A).length+1+(cY A (k+1) a).length=n+((x.reads A).length+1+(cY A (k+1) a).length) by omega]
theorem uO (A:List Wb.Array) (a b:List Inst):cF A (a++b)=cF A a+cF A b:=by simp [cF]
theorem uP (A:List Wb.Array) (x:Inst):cF A [x]=(x.reads A).length+1:=by simp [cF]
theorem lU:∀ {A:List Wb.Array},(∀ (i j:Nat) (a b:Wb.Array),A[i]?=some a→A[j]?=some b→j<i→b.key≠a.key)→∀ (j:Nat) (a:Wb.Array),A[j]?=some a→bS (A.map fun a=>(a.key,a)) a.key=some a
 | [],_,j,a,h=>by simp at h
 | x::A,hA,0,a,h=>by
  simp at h; subst h
  simp [bS]
 | x::A,hA,j+1,a,h=>by
  have h':A[j]?=some a:=by simpa using h
  have hne:¬a.key=x.key:=fun e=>hA (j+1) 0 a x h rfl (by omega) e.symm
  simp only [List.map_cons,bS,if_neg hne]
  exact lU (fun i j a b h1 h2 h3=>hA (i+1) (j+1) a b (by simpa using h1) (by simpa using h2) (by omega)) j a h'
theorem oD {κ β:Type} [DecidableEq κ] {m:List (κ×β)} {k:κ} {v:β} (h:∀ p∈m,p.1≠k):dC m k v=m++[(k,v)]:=by
 induction m with
 | nil=>rfl
 | cons p m ih=>
  have hne:¬k=p.1:=fun e=>h p List.mem_cons_self e.symm
  simp only [dC,if_neg hne]
  rw [ih fun q hq=>h q (List.mem_cons_of_mem _ hq)]; rfl
end Go.Proofs.YtjhogglgkjcacaaGreat
set_option maxRecDepth 20000
set_option maxHeartbeats 4000000
namespace Go.Proofs.YtjhogglgkjcacaaGreat
open Go.AM Go.Wb
structure RanAt (h:Heap) (c go:Nat) (p:Wb.Prog) (stm which vals rnd acc frm:AV):Prop where
 plo:PlO h c go (bR [] p.steps) (aE p).2.l stm which vals
 obj:h go=some (.row 6 [[stm,which,vals,rnd,acc,frm]] .live none)
 hacc:RowAt h 4 acc (cY p.arrays 0 (aE p).2.l)
 hfrm:RowAt h 1 frm (ak (hU p.arrays 0 (aE p).2.l))
 ab:∀ k,an acc k→k<c
 fb:∀ k,an frm k→k<c
def d5 (p:Wb.Prog):Int:=if (aE p).1=0 then cq p.arrays (aE p).2.l else (aE p).1
theorem tf:∀ (around:List Wb.Step) (x:Wb.Step),∀ y∈gR around x,y.2.length≤around.length+count x
 | around,.mk kind name low high conds body array subs expr=>by
  intro y hy
  rw [jk] at hy
  obtain ⟨z,hz,rfl⟩:=List.mem_map.1 hy
  have h1:(z.2.filter isLoop).length≤z.2.length:=List.length_filter_le _ _
  have h2:=walk_around around (.mk kind name low high conds body array subs expr) z (List.mem_filter.1 hz).1
  show (z.2.filter isLoop).length≤_
  omega
where
 walk_around:∀ (around:List Wb.Step) (x:Wb.Step),∀ y∈fq around x,y.2.length≤around.length+count x
  | around,.mk kind name low high conds body array subs expr=>by
   intro y hy
   simp only [fq,List.mem_cons] at hy
   rcases hy with rfl | hy
   ·simp
   ·have:=walk_aroundL _ body y hy
    simp [count] at this ⊢; omega
 walk_aroundL:∀ (around:List Wb.Step) (l:List Wb.Step),∀ y∈bK around l,y.2.length≤around.length+az l
  | around,[]=>by simp [bK]
  | around,s::ss=>by
   intro y hy
   simp only [bK,List.mem_append] at hy
   rcases hy with hy | hy
   ·have:=walk_around around s y hy; simp [az]; omega
   ·have:=walk_aroundL around ss y hy; simp [az]; omega
theorem oZ (p:List Wb.Step) (y:Wb.Step×List Wb.Step) (hy:y∈bR [] p):y.2.length≤az p:=by
 rw [jj] at hy
 obtain ⟨z,hz,rfl⟩:=List.mem_map.1 hy
 have h1:(z.2.filter isLoop).length≤z.2.length:=List.length_filter_le _ _
 have h2:=tf.walk_aroundL [] p z (List.mem_filter.1 hz).1
 show (z.2.filter isLoop).length≤_
 simp at h2; omega
theorem rt {A:List Wb.Array}:∀ {l:List Inst},(∀ x∈l,(x.reads A).length≤4096)→cF A l≤4097*l.length
 | [],_=>by simp [cF]
 | x::xs,h=>by
  have h1:=h x List.mem_cons_self
  have h2:=rt fun y hy=>h y (List.mem_cons_of_mem _ hy)
  simp only [cF,List.map_cons,List.sum_cons,List.length_cons] at h2 ⊢
  push_cast; omega
theorem tv (p:Wb.Prog) (hp:Right p) (hc:az p.steps≤300) (h0:Heap) (c0:Nat) :
  ACalls Pg Fn147.n [p.av] ⟨h0,c0⟩ fun av s'=>Fr c0 h0 s'.h s'.c∧if d5 p=0 then ∃ go stm which vals rnd acc frm,av=.tup [.ptr go 0 0,.int 0]∧RanAt s'.h s'.c go p stm which vals rnd acc frm∧∀ k,an acc k→c0≤k else av=.tup [.nilp,.int (d5 p)]:=by
 refine ACalls.small fun hsm=>?_
 have hal:p.arrays.length≤68719476736:=by simp [Prog.av] at hsm; omega
 refine Fn147.calls .keep ?_
 unfold Fn147.ac
 have hinst:=fun h c=>tP p hp hc h c
 simp only [Prog.av] at hinst
 simp [Prog.av]
 refine (hinst _ _).mono ?_
 rintro av ⟨h1,c1⟩ hc1 ⟨hF1,hq⟩
 simp only at hc1 hF1 hq
 have hF01:Fr c0 h0 h1 c1:=⟨by omega,fun k hk=>by rw [hF1.h k (by omega),ad (by omega)]⟩
 have hbox1:h1 c0=some (.row 2 [[row (p.arrays.map Array.cells),row (p.steps.map Step.cells)]] .live none):=by rw [hF1.h c0 (by omega),ah]
 by_cases hz:(aE p).1=0
 case neg=>
  rw [if_neg hz] at hq
  subst hq
  have hpf:d5 p=(aE p).1:=by simp [d5,hz]
  rw [hpf]
  simp [hz]
  refine ⟨by show c0≤c1+1; omega,fun k hk=>?_⟩
  show upd h1 c1 _ k=_
  rw [ad (by omega)]; exact hF01.h k hk
 rw [if_pos hz] at hq
 obtain ⟨go,stm,which,vals,rfl,hPl⟩:=hq
 have hpf:d5 p=cq p.arrays (aE p).2.l:=by simp [d5,hz]
 rw [hpf]
 simp
 obtain ⟨hA,hhA⟩:∃ hA,hA=upd (upd (upd h1 c1 (some (.row 1 [[.ptr go 0 0]] .live none))) (c1+1) (some (.map [] (c1+1)))) (c1+1+1) (some (.row 1 [[.map (c1+1)]] .live none)):=⟨_,rfl⟩
 rw [←hhA]
 have a4:hA c1=some (.row 1 [[.ptr go 0 0]] .live none):=by rw [hhA,ad (by omega),ad (by omega),ah]
 have am:hA (c1+1)=some (.map [] (c1+1)):=by rw [hhA,ad (by omega),ah]
 have a6:hA (c1+1+1)=some (.row 1 [[.map (c1+1)]] .live none):=by rw [hhA,ah]
 have alow:∀ k,k<c1→hA k=h1 k:=fun k hk=>by rw [hhA,ad (by omega),ad (by omega),ad (by omega)]
 have abox:=(alow c0 (by omega)).trans hbox1
 simp [abox]
 obtain ⟨Inv,hInv⟩:∃ Inv:Nat→List Wb.Array→Slots→St→Prop,Inv=fun i r sl s'=>(∃ ver,s'.h (c1+1)=some (.map (kvs AV.str (fun a:Wb.Array=>AV.agg (Array.cells a)) ((p.arrays.take i).map fun a=>(a.key,a))) ver))∧(∀ k,k<c1+1+1+1→k≠c1+1→s'.h k=hA k)∧c1+1+1+1≤s'.c:=⟨_,rfl⟩
 refine bq 28 Fn147.W0 p.arrays Inv (by rfl) (by rfl) ?_ ?_ ?_
 ·rw [hInv]; exact ⟨by simp,⟨c1+1,am⟩,fun _ _ _=>rfl,Nat.le_refl _⟩
 ·intro v s' hv hI
  rw [hInv] at hI
  obtain ⟨⟨ver,m1⟩,m2,m3⟩:=hI
  obtain ⟨h2,c2⟩:=s'
  simp only at m1 m2 m3
  rw [List.take_length] at m1
  have q4:=(m2 c1 (by omega) (by omega)).trans a4
  have q6:=(m2 (c1+1+1) (by omega) (by omega)).trans a6
  have qlow:∀ k,k<c1→h2 k=h1 k:=fun k hk=>(m2 k (by omega) (by omega)).trans (alow k hk)
  obtain ⟨hB,hhB⟩:∃ hB,hB=upd h2 c2 (some (.row 1 [[.int 0]] .live none)):=⟨_,rfl⟩
  have blow:∀ k,k<c2→hB k=h2 k:=fun k hk=>by rw [hhB,ad (by omega)]
  have r4:=(blow c1 (by omega)).trans q4
  have r6:=(blow (c1+1+1) (by omega)).trans q6
  have rm:=(blow (c1+1) (by omega)).trans m1
  have r9:hB c2=_:=(congrFun hhB c2).trans ah
  have rlow:∀ k,k<c1→hB k=h1 k:=fun k hk=>(blow k (by omega)).trans (qlow k hk)
  have hgl:=hPl.goc
  have robj:=(rlow go (by omega)).trans hPl.obj
  obtain ⟨l,hl⟩:∃ l,l=(aE p).2.l:=⟨_,rfl⟩
  have hlen:=hPl.len
  have hinv:=gH hp
  have hplo:PlO hB (c2+1) go (bR [] p.steps) l stm which vals:=⟨⟨_,_,_,robj⟩,hPl.hstm.frame fun k hk=>rlow k (hPl.sc k hk).2.1,by rw [hl]; exact hPl.hwhich.frame fun k hk=>rlow k (hPl.wc k hk).2.1,by rw [hl]; exact hPl.hvals.frame fun k hk=>rlow k (hPl.vc k hk).2.1,by omega,fun k hk=>by have:=hPl.sc k hk; omega,fun k hk=>by have:=hPl.wc k hk; omega,fun k hk=>by have:=hPl.vc k hk; omega⟩
  have hri:RunI hB (c2+1) go c2 (bR [] p.steps) l stm which vals (.int (aE p).2.rounds) (.sl [] true) (.sl [] true) 0 [] []:=by
   refine ⟨hplo,robj,.inl ⟨rfl,rfl⟩,.inl ⟨rfl,rfl⟩,r9,by omega,fun k hk=>absurd hk aK,fun k hk=>absurd hk aK,by omega,?_,rfl,by simp,by simp,by simp,by omega⟩
   rintro k (h | h | h)
   ·have:=hPl.sc k h; exact ⟨by omega,by omega,aK,aK⟩
   ·have:=hPl.wc k h; exact ⟨by omega,by omega,aK,aK⟩
   ·have:=hPl.vc k h; exact ⟨by omega,by omega,aK,aK⟩
  have hwl:=hplo.hwhich.len ⟨hB,c2+1⟩
  have ewl:(ak (l.map fun i=>(i.num:Int))).length=l.length:=by simp [ak]
  rw [ewl] at hwl
  rw [←hl] at hinv hlen
  rw [←hl]
  simp [hv]
  rw [←hhB]
  simp [r4,robj,hwl]
  obtain ⟨rnd,hrnd⟩:∃ rnd,rnd=AV.int (aE p).2.rounds:=⟨_,rfl⟩
  rw [←hrnd] at hri
  obtain ⟨Own,hOwn⟩:∃ Own:Heap→Nat→Prop,Own=fun h c=>h c1=some (.row 1 [[.ptr go 0 0]] .live none)∧h (c1+1+1)=some (.row 1 [[.map (c1+1)]] .live none)∧h (c1+1)=hB (c1+1)∧(∀ k,k<c0→h k=h0 k)∧c2+1≤c:=⟨_,rfl⟩
  obtain ⟨Inv,hInv⟩:∃ Inv:Nat→List Inst→Slots→St→Prop,Inv=fun i r sl s'=>∃ (acc frm:AV) (n:Int) (es frs:List (List AV)),RunI s'.h s'.c go c2 (bR [] p.steps) l stm which vals rnd acc frm n es frs∧n=cF p.arrays (l.take i)∧(n≤200000→es=cY p.arrays 0 (l.take i)∧frs=ak (hU p.arrays 0 (l.take i)))∧frs.length=i∧(∀ x∈l.take i,x.ok p.arrays=true)∧Own s'.h s'.c∧∀ k,an acc k∨an frm k→c2<k:=⟨_,rfl⟩
  refine bq 43 Fn147.W1 l Inv (by rfl) (by rfl) ?_ ?_ ?_
  ·rw [hInv]
   refine ⟨by simp,.sl [] true,.sl [] true,0,[],[],hri,rfl,fun _=>⟨rfl,rfl⟩,rfl,by simp,?_,fun k hk=>absurd hk (fun h=>h.elim aK aK)⟩
   rw [hOwn]
   exact ⟨r4,r6,rfl,fun k hk=>(rlow k (by omega)).trans (hF01.h k hk),Nat.le_refl _⟩
  ·intro v s' hv hI
   rw [hInv] at hI
   obtain ⟨acc,frm,n,es,frs,i1,i2,i3,i4,i5,i6,i7⟩:=hI
   obtain ⟨h3,c3⟩:=s'
   rw [List.take_length] at i2 i3 i5
   rw [hOwn] at i6
   obtain ⟨o1,o2,o3,o4,o5⟩:=i6
   simp only at i1 o1 o2 o3 o4 o5
   have hcnt:=i1.cnt
   have hno:(l.any fun i=>!i.ok p.arrays)=false:=by
    rw [List.any_eq_false]
    intro x hx
    simp [i5 x hx]
   have hFF:Fr c0 h0 h3 c3:=⟨by omega,o4⟩
   simp [hv,hcnt]
   by_cases hbig:200000<n
   ·have haf:cq p.arrays l=2:=by unfold cq; rw [hno,←i2]; simp [hbig]
    simp [hbig,haf]
    exact hFF
   ·have haf:cq p.arrays l=0:=by unfold cq; rw [hno,←i2]; simp [hbig]
    obtain ⟨e1,e2⟩:=i3 (by omega)
    simp [hbig,haf,o1]
    refine ⟨hFF,stm,which,vals,rnd,acc,⟨frm,by rw [hl] at i1; exact i1.plo,i1.obj,by rw [←hl,←e1]; exact i1.hacc,by rw [←hl,←e2]; exact i1.hfrm,fun k hk=>(i1.ab k hk).1,fun k hk=>(i1.fb k hk).1⟩,fun k hk=>by have:=i7 k (.inl hk); omega⟩
  ·intro i x xs v s' hi hx hl2 hv hI
   rw [hInv] at hI
   obtain ⟨acc,frm,n,es,frs,i1,i2,i3,i4,i5,i6,i7⟩:=hI
   obtain ⟨h3,c3⟩:=s'
   rw [hOwn] at i6
   obtain ⟨o1,o2,o3,o4,o5⟩:=i6
   simp only at i1 o1 o2 o3 o4 o5
   have hw:=ae (x:=(i:Int)+1) (by omega) (by omega)
   have hxI:l[i]?=some x:=by rw [List.getElem?_eq_getElem hi,hx]
   have hxok:=hinv x (aR hl2)
   obtain ⟨gw,w1,w2⟩:=i1.plo.hwhich.at (i:=i) (by rw [ewl]; exact hi)
   rw [ewl] at w1
   have hgw:(ak (l.map fun i=>(i.num:Int)))[i]?=some [.int x.num]:=by simp [ak,hi,hx]
   have iobj:=i1.obj
   have i1len:=i1.len
   have hel:=i1.hacc.len ⟨h3,c3⟩
   obtain ⟨h4,p1,p2,p3,p4⟩:=i1.hfrm.push (c:=c3) (bytes:=8) (md:=.plain) (b:=true) (e:=[.int es.length]) (by decide) (by decide) (by decide) (by decide) rfl i1.frok (by omega) (fun k hk=>(i1.fb k hk).1)
   have goc:=i1.plo.goc
   have ngo:¬an frm go:=fun h=>(i1.fb go h).2.1 rfl
   have nb4:¬an frm c1:=fun h=>by have:=i7 c1 (.inr h); omega
   have q4:=(p4 c1 (by omega) nb4).trans o1
   have qgo:=(p4 go (by omega) ngo).trans iobj
   obtain ⟨h5,hh5⟩:∃ h5,h5=upd h4 go (some (.row 6 [[stm,which,vals,rnd,acc,.row c3 1 0 (frs.length+1)]] .live none)):=⟨_,rfl⟩
   have hk5:∀ k,k<c3→k≠go→¬an frm k→h5 k=h3 k:=fun k a b d=>by rw [hh5,ad b,p4 k (by omega) d]
   have hr5:RunI h5 (c3+1) go c2 (bR [] p.steps) l stm which vals rnd acc (.row c3 1 0 (frs.length+1)) n es (frs++[[.int es.length]]):=by
    refine i1.re (acc':=acc) (frm':=.row c3 1 0 (frs.length+1)) ((congrFun hh5 go).trans ah) (i1.hacc.frame fun k hk=>hk5 k (i1.ab k hk).1 (i1.ab k hk).2.1 (i1.ab k hk).2.2.2) ?_ (fun k a b _ d=>hk5 k a b d) (Nat.le_succ _) (fun k hk=>.inl hk) (fun k hk=>.inr (by have:=au.1 hk; omega)) (fun k hk h=>by have:=au.1 h; have:=(i1.ab k hk).1; omega) i1.esok ?_ (by simp; omega)
    ·refine .inr ⟨c3,by simp,?_⟩
     rw [hh5,ad (by omega),p2]
    ·intro e he
     rcases List.mem_append.1 he with he | he
     ·exact i1.frok e he
     ·rw [List.mem_singleton.1 he]; rfl
   have z1:=(hk5 c1 (by omega) (by omega) nb4).trans o1
   have hobj5:=hr5.obj
   obtain ⟨lps,hat,hnm⟩:=hxok.at_
   obtain ⟨hnl,hne⟩:=List.getElem?_eq_some_iff.1 hat
   obtain ⟨gs,s1,s2⟩:=hr5.plo.hstm.at (i:=x.num) (by simpa using hnl)
   have el1:((bR [] p.steps).map stCells).length=(bR [] p.steps).length:=by simp
   rw [el1] at s1
   have hgs:((bR [] p.steps).map stCells)[x.num]?=some (stCells (x.step,lps)):=by simp [hnl,hne]
   simp [hv,hi,w1,w2,hgw,o1,iobj,hel,bsI,aw,p1,q4,qgo]
   rw [w1] at hh5
   rw [←hh5]
   obtain ⟨X,hX⟩:∃ X,X=x.step:=⟨_,rfl⟩
   rw [←hX] at hne hgs
   obtain ⟨kind,name,low,high,conds,body,array,subs,⟨op,n2,form,ea,es2,args⟩⟩:=X
   obtain ⟨rd,hrd⟩:∃ rd,rd=cV (.mk op n2 form ea es2 args):=⟨_,rfl⟩
   have hst:stCells (.mk kind name low high conds body array subs (.mk op n2 form ea es2 args),lps)=[.int kind,.str name,row (low.map Bound.cells),row (high.map Bound.cells),row (conds.map Form.cells),row (body.map Step.cells),.str array,row (subs.map Form.cells),.int op,.int n2,.int form.const,row (form.terms.map Term.cells),.str ea,row (es2.map Form.cells),row (args.map Expr.cells),row (lps.map Step.cells),row (rd.map Expr.cells)]:=by
    rw [hrd]; simp [stCells,Step.cells_mk,Step.expr]
   obtain ⟨h6,hh6⟩:∃ h6,h6=upd h5 (c3+1) (some (.row 17 [stCells (.mk kind name low high conds body array subs (.mk op n2 form ea es2 args),lps)] .live none)):=⟨_,rfl⟩
   have hF6:Fr (c3+1) h5 h6 (c3+1+1):=by rw [hh6]; exact (Fr.refl _ _).upd (Nat.le_refl _) (Nat.le_succ _)
   have hbx6:h6 (c3+1)=_:=(congrFun hh6 _).trans ah
   rw [hst] at hbx6 hh6
   simp [z1,hobj5,s1,hnl,s2,hne,hst]
   rw [←hh6]
   have hr6:=hr5.frame hF6
   have y1:=(hF6.h c1 (by omega)).trans z1
   have y6:=(hF6.h (c1+1+1) (by omega)).trans ((hk5 (c1+1+1) (by omega) (by omega) (fun h=>by have:=i7 _ (.inr h); omega)).trans o2)
   have ym:=(hF6.h (c1+1) (by omega)).trans ((hk5 (c1+1) (by omega) (by omega) (fun h=>by have:=i7 _ (.inr h); omega)).trans (o3.trans rm))
   obtain ⟨φ,hφ⟩:∃ φ,φ=aA x.env:=⟨_,rfl⟩
   have hsteq:x.step=.mk kind name low high conds body array subs (.mk op n2 form ea es2 args):=hX.symm
   have hexp:Step.expr x.step=.mk op n2 form ea es2 args:=by rw [hsteq]; rfl
   have hreads:x.reads p.arrays=rd.map fun y=>(fV p.arrays φ y).1:=by unfold Inst.reads; rw [jX,hexp,←hrd,←hφ]
   have hsetsp:x.sets p.arrays=(bQ p.arrays φ array subs).1:=by unfold Inst.sets; rw [hsteq,←hφ]; rfl
   have hokx:x.ok p.arrays=((rd.all fun y=>(fV p.arrays φ y).2)&&(bQ p.arrays φ array subs).2):=by unfold Inst.ok; rw [jX,hexp,←hrd,hsteq,←hφ]; rfl
   have hxe:=hxok.expr
   rw [hexp] at hxe
   have hrdok:=kX _ hxe
   rw [←hrd] at hrdok
   have hxs:=hxok.subs
   rw [hsteq] at hxs
   have hrdl:rd.length≤4096:=by have:=hxok.nr; rw [hexp,←j8,←hrd] at this; exact this
   have hnle:n≤4097*i:=by
    have:=rt (A:=p.arrays) (l:=l.take i) fun y hy=>by unfold Inst.reads; rw [ii]; exact (hinv y (List.mem_of_mem_take hy)).nr
    rw [←i2,List.length_take] at this; omega
   have hnn:=i1.nb.1
   obtain ⟨C,hC⟩:∃ C:Heap→Nat→Prop,C=fun h c=>h c1=some (.row 1 [[.ptr go 0 0]] .live none)∧h (c1+1+1)=some (.row 1 [[.map (c1+1)]] .live none)∧h (c1+1)=hB (c1+1)∧h (c3+1)=h6 (c3+1)∧(∀ k,k<c0→h k=h0 k)∧c3+1+1≤c:=⟨_,rfl⟩
   have hCF:∀ {h c h' c'},C h c→Fr c h h' c'→C h' c':=fun {h c h' c'} hc hf=>by
    rw [hC] at hc ⊢
    obtain ⟨k1,k2,k3,k4,k5,k6⟩:=hc
    have:=hf.c
    exact ⟨(hf.h _ (by omega)).trans k1,(hf.h _ (by omega)).trans k2,(hf.h _ (by omega)).trans k3,(hf.h _ (by omega)).trans k4,fun k hk=>(hf.h k (by omega)).trans (k5 k hk),by omega⟩
   have hC6:C h6 (c3+1+1):=by
    rw [hC]
    refine ⟨y1,y6,ym.trans rm.symm,rfl,fun k hk=>?_,Nat.le_refl _⟩
    rw [hF6.h k (by omega),hk5 k (by omega) (by omega) (fun h=>by have:=i7 k (.inr h); omega)]; exact o4 k hk
   obtain ⟨frm5,hfrm5⟩:∃ f,f=AV.row c3 1 0 (frs.length+1):=⟨_,rfl⟩
   obtain ⟨frs5,hfrs5⟩:∃ f,f=frs++[[AV.int es.length]]:=⟨_,rfl⟩
   rw [←hfrm5,←hfrs5] at hr6
   have htake:∀ (w:Bool) (key:ByteArray) (sb:List Wb.Form),ej p.arrays key sb→∀ (acc2:AV) (n3:Int) (es3:List (List AV)) (h7:Heap) (c7:Nat),RunI h7 c7 go c2 (bR [] p.steps) l stm which vals rnd acc2 frm5 n3 es3 frs5→C h7 c7→(∀ k,an acc2 k→c2<k∧k≠c3+1)→n3<1000000000 →
     ACalls Pg Fn214.n [.int i,.bool w,.str key,row (sb.map Form.cells),.ptr c1 0 0,.ptr (c1+1+1) 0 0,.ptr c2 0 0] ⟨h7,c7⟩ fun av s'=>av=.bool (bQ p.arrays φ key sb).2 ∧
      ((bQ p.arrays φ key sb).2=true→∃ acc3,RunI s'.h s'.c go c2 (bR [] p.steps) l stm which vals rnd acc3 frm5 (n3+1) (if n3+1≤200000 then es3++[bE i w (bQ p.arrays φ key sb).1] else es3) frs5∧∀ k,an acc3 k→c2<k∧k≠c3+1)∧C s'.h s'.c:=by
    intro w key sb hsb acc2 n3 es3 h7 c7 hr7 hC7 ha7 hn7
    rw [hC] at hC7
    obtain ⟨k1,k2,k3,k4,k5,k6⟩:=hC7
    have hcall:=tQ p.arrays (bR [] p.steps) l stm which vals rnd acc2 frm5 go c1 (c1+1+1) c2 (c1+1) ver i x hxI hxok (fun y hy=>by have:=oZ _ y hy; omega) w key sb hsb n3 es3 frs5 hn7 h7 c7 hr7 k1 k2 ⟨by omega,by omega⟩ ⟨by omega,by omega⟩ (by omega) _ (k3.trans rm) (lU hp.apart)
    rw [←hφ] at hcall
    refine hcall.mono ?_
    rintro av ⟨h8,c8⟩ hc8 ⟨t1,t2,t3⟩
    simp only at hc8 t3
    have hno:∀ k,k≠go→k≠c2→(k≤c2∨k=c3+1)→¬qr go c2 acc2 frm5 k:=by
     rintro k e1 e2 e3 (h | h | h | h)
     ·exact e1 h
     ·exact e2 h
     ·have:=ha7 k h; omega
     ·rw [hfrm5] at h; have:=au.1 h; omega
    refine ⟨t1,fun hk=>?_,?_⟩
    ·obtain ⟨acc3,u1,u2⟩:=t2 hk
     refine ⟨acc3,u1,fun k hk=>?_⟩
     rcases u2 k hk with h | h
     ·exact ha7 k h
     ·exact ⟨by omega,by omega⟩
    ·rw [hC]
     exact ⟨(t3 _ (by omega) (hno _ (by omega) (by omega) (by omega))).trans k1,(t3 _ (by omega) (hno _ (by omega) (by omega) (by omega))).trans k2,(t3 _ (by omega) (hno _ (by omega) (by omega) (by omega))).trans k3,(t3 _ (by omega) (hno _ (by omega) (by omega) (by omega))).trans k4,fun k hk=>(t3 k (by omega) (hno k (by omega) (by omega) (by omega))).trans (k5 k hk),by show _≤c8; omega⟩
   have hbad:x.ok p.arrays=false→∀ {h c},C h c→Fr c0 h0 h c∧(if cq p.arrays l=0 then False else AV.tup [AV.nilp,.int 16]=AV.tup [AV.nilp,.int (cq p.arrays l)]):=by
    intro hb h c hc
    rw [hC] at hc
    have hf:cq p.arrays l=16:=by
     unfold cq
     rw [if_pos]
     rw [List.any_eq_true]
     exact ⟨x,aR hl2,by simp [hb]⟩
    rw [hf]
    exact ⟨⟨by omega,hc.2.2.2.2.1⟩,by simp⟩
   obtain ⟨Inv2,hInv2⟩:∃ Inv:Nat→List Wb.Expr→Slots→St→Prop,Inv=fun (j:Nat) r sl s'=>∃ (acc2:AV) (es3:List (List AV)),RunI s'.h s'.c go c2 (bR [] p.steps) l stm which vals rnd acc2 frm5 (n+j) es3 frs5∧(n+j≤200000→es3=es++(rd.take j).map fun y=>bE i false (fV p.arrays φ y).1)∧(∀ y∈rd.take j,(fV p.arrays φ y).2=true)∧C s'.h s'.c∧∀ k,an acc2 k→c2<k∧k≠c3+1:=⟨_,rfl⟩
   refine bq 72 Fn147.W2 rd Inv2 (by rfl) (by rfl) ?_ ?_ ?_
   ·rw [hInv2]
    refine ⟨by simp,acc,es,by simpa using hr6,fun _=>by simp,by simp,hC6,fun k hk=>⟨i7 k (.inl hk),by have:=(i1.ab k hk).1; omega⟩⟩
   ·intro v2 s7 hv2 hI2
    rw [hInv2,List.take_length] at hI2
    obtain ⟨acc2,es3,j1,j2,j3,j4,j5⟩:=hI2
    obtain ⟨h7,c7⟩:=s7
    simp only at j1 j4
    have hall:(rd.all fun y=>(fV p.arrays φ y).2)=true:=List.all_eq_true.2 fun y hy=>j3 y hy
    have hb7:h7 (c3+1)=h6 (c3+1):=by rw [hC] at j4; exact j4.2.2.2.1
    rw [hbx6] at hb7
    rw [hall,Bool.true_and] at hokx
    have hlast:=htake true array subs hxs acc2 _ es3 h7 c7 j1 j4 j5 (by omega)
    simp [hv2,hb7]
    refine hlast.mono ?_
    rintro av ⟨h8,c8⟩ hc8 ⟨rfl,t2,t3⟩
    simp only at hc8 t3
    rw [←hokx] at t2 ⊢
    by_cases hk:x.ok p.arrays=true
    ·obtain ⟨acc3,u1,u2⟩:=t2 hk
     simp only at u1
     simp [hk,hv,hw]
     rw [hInv]
     have htk:l.take (i+1)=l.take i++[x]:=by rw [List.take_add_one,hxI]; rfl
     have hmany:n+(rd.length:Int)+1=cF p.arrays (l.take (i+1)):=by rw [htk,uO,uP,←i2,hreads]; simp; omega
     rw [hmany] at u1
     refine ⟨acc3,frm5,_,_,frs5,u1,rfl,fun hle=>?_,by rw [hfrs5]; simp [i4],?_,?_,fun k hk=>?_⟩
     ·rw [if_pos hle]
      have hle2:n+(rd.length:Int)≤200000:=by omega
      obtain ⟨e1,e2⟩:=i3 (by omega)
      have hlen0:(l.take i).length=i:=by rw [List.length_take]; omega
      refine ⟨?_,?_⟩
      ·rw [j2 hle2,e1,htk,mq,Nat.zero_add,hlen0]
       simp [cY,iO,hreads,hsetsp]
      ·rw [hfrs5,e2,e1,htk,om p.arrays 0 0]
       simp [hU,ak]
     ·rw [htk]
      intro y hy
      rcases List.mem_append.1 hy with hy | hy
      ·exact i5 y hy
      ·rw [List.mem_singleton.1 hy]; exact hk
     ·rw [hC] at t3
      rw [hOwn]
      exact ⟨t3.1,t3.2.1,t3.2.2.1,t3.2.2.2.2.1,by show c2+1≤c8; have:=t3.2.2.2.2.2; omega⟩
     ·rcases hk with hk | hk
      ·exact (u2 k hk).1
      ·rw [hfrm5] at hk; have:=au.1 hk; omega
    ·have hkf:x.ok p.arrays=false:=by simpa using hk
     simp [hkf]
     simpa using hbad hkf t3
   ·intro j y ys v2 s7 hj hy hl3 hv2 hI2
    rw [hInv2] at hI2
    obtain ⟨acc2,es3,j1,j2,j3,j4,j5⟩:=hI2
    obtain ⟨h7,c7⟩:=s7
    simp only at j1 j4
    have hwj:=ae (x:=(j:Int)+1) (by omega) (by omega)
    obtain ⟨Y,hY⟩:∃ Y,Y=y:=⟨_,rfl⟩
    have hyok:=hrdok y (aR hl3)
    obtain ⟨yop,yn,yform,yarr,ysubs,yargs⟩:=y
    simp only [qH,nI] at hyok
    obtain ⟨h8,hh8⟩:∃ h8,h8=upd h7 c7 (some (.row 7 [[.int yop,.int yn,.int yform.const,row (yform.terms.map Term.cells),.str yarr,row (ysubs.map Form.cells),row (yargs.map Expr.cells)]] .live none)):=⟨_,rfl⟩
    have hF8:Fr c7 h7 h8 (c7+1):=by rw [hh8]; exact (Fr.refl _ _).upd (Nat.le_refl _) (Nat.le_succ _)
    have hb8:h8 c7=_:=(congrFun hh8 c7).trans ah
    have hone:=htake false yarr ysubs hyok acc2 _ es3 h8 (c7+1) (j1.frame hF8) (hCF j4 hF8) j5 (by omega)
    simp [hv2,hj,hy,Expr.cells_mk,←hh8,hb8]
    refine hone.mono ?_
    rintro av ⟨h9,c9⟩ hc9 ⟨rfl,t2,t3⟩
    simp only at hc9 t3
    have hysp:fV p.arrays φ (.mk yop yn yform yarr ysubs yargs)=bQ p.arrays φ yarr ysubs:=rfl
    by_cases hk:(bQ p.arrays φ yarr ysubs).2=true
    ·obtain ⟨acc3,u1,u2⟩:=t2 hk
     simp only at u1
     simp [hk,hv2,hwj]
     rw [hInv2]
     have htk:rd.take (j+1)=rd.take j++[.mk yop yn yform yarr ysubs yargs]:=by rw [List.take_add_one,List.getElem?_eq_getElem hj,hy]; rfl
     refine ⟨acc3,_,by rw [show n+((j+1:Nat):Int)=n+j+1 by push_cast; omega]; exact u1,fun hle=>?_,?_,t3,u2⟩
     ·rw [if_pos (by push_cast at hle; omega),htk,j2 (by push_cast at hle; omega)]
      simp [hysp]
     ·rw [htk]
      intro z hz
      rcases List.mem_append.1 hz with hz | hz
      ·exact j3 z hz
      ·rw [List.mem_singleton.1 hz]; exact hk
    ·have hkf:(bQ p.arrays φ yarr ysubs).2=false:=by simpa using hk
     have hxf:x.ok p.arrays=false:=by
      rw [hokx,Bool.and_eq_false_iff]
      refine .inl ?_
      rw [List.all_eq_false]
      exact ⟨_,aR hl3,by rw [hysp,hkf]; decide⟩
     simp [hkf]
     simpa using hbad hxf t3
 ·intro i x xs v s' hi hx hl hv hI
  rw [hInv] at hI
  obtain ⟨⟨ver,m1⟩,m2,m3⟩:=hI
  obtain ⟨h2,c2⟩:=s'
  simp only at m1 m2 m3
  have hw:=ae (x:=(i:Int)+1) (by omega) (by omega)
  have q6:=(m2 (c1+1+1) (by omega) (by omega)).trans a6
  have hnew:dC ((p.arrays.take i).map fun a=>(a.key,a)) x.key x=(p.arrays.take (i+1)).map fun a=>(a.key,a):=by
   rw [oD,List.take_add_one,List.getElem?_eq_getElem hi,hx,List.map_append]
   ·rfl
   ·intro q hq
    obtain ⟨a,ha,rfl⟩:=List.mem_map.1 hq
    obtain ⟨j,hj,hja⟩:=List.mem_iff_getElem.1 ha
    simp at hj hja
    exact hp.apart i j x a (by rw [List.getElem?_eq_getElem hi,hx]) (by rw [List.getElem?_eq_getElem (by omega),hja]) (by omega)
  have hmu:=jx ew (f:=fun a:Wb.Array=>AV.agg (Array.cells a)) (g:=c1+1) (s:=⟨upd h2 c2 (some (.row 2 [[.str x.key,row (ak x.sizes)]] .live none)),c2+1⟩) ((ad (by omega)).trans m1) x.key x
  rw [hnew] at hmu
  have hc16:¬c1+1+1=c2:=by omega
  simp only [Array.cells] at hmu
  simp [hv,hi,hx,Array.cells,q6,hc16,hmu,hw]
  rw [hInv]
  refine ⟨⟨c2+1,by show upd _ _ _ _=_; rw [ah,List.map_take]; rfl⟩,fun k hk hk2=>?_,by show _≤c2+1+1; omega⟩
  show upd (upd h2 c2 _) (c1+1) _ k=_
  rw [ad hk2,ad (by omega)]; exact m2 k hk hk2
end Go.Proofs.YtjhogglgkjcacaaGreat
namespace Go.Proofs.YtjhogglgkjcacaaGreat
open Go.AM Go.Wb
deriving instance DecidableEq for Wb.Spot
def UsesN (h:Heap) (c:Nat) (A:List Wb.Array) (x:AV) (l:List Inst):Prop:=
 ∃ es,(0<es.length→∃ g,x=.row g 22 0 es.length∧h g=some (.row 22 es .live none))∧es.length=l.length∧(∀ (k:Nat) (e:List AV) (i:Inst),es[k]?=some e→l[k]?=some i→∃ ge,ge<c∧dd h ge i.env∧e=eJ A i ge)∧∀ s,ee 1 x s=some (.int es.length)
theorem UsesAt.n {h:Heap} {c:Nat} {A:List Wb.Array} {x:AV} {l:List Inst} (u:UsesAt h c A x l):UsesN h c A (norm x) l:=by
 obtain ⟨es,h1,h2,h3⟩:=u
 refine ⟨es,fun h0=>?_,h2,h3,fun s=>?_⟩
 ·obtain ⟨g,rfl,hg⟩:=h1.at h0
  exact ⟨g,rfl,hg⟩
 ·rcases h1 with ⟨rfl,rfl⟩ | ⟨g,rfl,hg⟩ <;> rfl
theorem UsesN.at {h:Heap} {c:Nat} {A:List Wb.Array} {x:AV} {l:List Inst} (u:UsesN h c A x l) {i:Nat} (hi:i<l.length):∃ (es:List (List AV)) (g ge:Nat),x=.row g 22 0 l.length∧h g=some (.row 22 es .live none)∧es[i]?=some (eJ A l[i] ge):=by
 obtain ⟨es,h1,h2,h3,_⟩:=u
 obtain ⟨g,e1,e2⟩:=h1 (by omega)
 have hx:es[i]?=some es[i]:=List.getElem?_eq_getElem (by omega)
 obtain ⟨ge,_,_,e3⟩:=h3 i _ _ hx (List.getElem?_eq_getElem hi)
 exact ⟨es,g,ge,by rw [e1,h2],e2,by rw [hx,e3]⟩
theorem UsesN.len {h:Heap} {c:Nat} {A:List Wb.Array} {x:AV} {l:List Inst} (u:UsesN h c A x l) (s:St):ee 1 x s=some (.int l.length):=by
 obtain ⟨es,h1,h2,h3,h4⟩:=u
 rw [h4,h2]
theorem UsesN.fr {h h':Heap} {c c':Nat} {A:List Wb.Array} {x:AV} {l:List Inst} (u:UsesN h c A x l) (hx:∀ k,an x k→k<c) (hF:Fr c h h' c'):UsesN h' c' A x l:=by
 obtain ⟨es,h1,h2,h3,h4⟩:=u
 refine ⟨es,fun h0=>?_,h2,fun k e i he hi=>?_,h4⟩
 ·obtain ⟨g,e1,e2⟩:=h1 h0
  exact ⟨g,e1,(hF.h g (hx g (by rw [e1]; exact au.2 rfl))).trans e2⟩
 ·obtain ⟨ge,g1,⟨ver,g2⟩,g3⟩:=h3 k e i he hi
  exact ⟨ge,Nat.lt_of_lt_of_le g1 hF.c,⟨ver,(hF.h ge g1).trans g2⟩,g3⟩
end Go.Proofs.YtjhogglgkjcacaaGreat
set_option maxRecDepth 20000
set_option maxHeartbeats 4000000
namespace Go.Proofs.YtjhogglgkjcacaaGreat
open Go.AM Go.Wb
abbrev Mem:=Wb.Spot→Int
def dh (M:Mem) (a:Wb.Array):List Int:=(List.range (ba a.sizes).toNat).map fun (j:Nat)=>M ⟨a.key,j⟩
def iz (A:List Wb.Array) (s:Wb.Spot):Prop:=∃ a∈A,a.key=s.array∧0≤s.cell∧s.cell<ba a.sizes
theorem kL (l:List Int):∀ k:Int,l.foldl (·*·) k=k*l.foldl (·*·) 1:=by
 induction l with
 | nil=>intro k; simp
 | cons z l ih=>intro k; simp only [List.foldl_cons,Int.one_mul]; rw [ih (k*z),ih z,Int.mul_assoc]
theorem dY:∀ (l:List Int),(∀ z∈l,1≤z)→1≤l.foldl (·*·) 1
 | [],_=>by simp
 | z::l,h=>by
  simp only [List.foldl_cons,Int.one_mul]
  rw [kL]
  have h1:=h z List.mem_cons_self
  have h2:=dY l fun y hy=>h y (List.mem_cons_of_mem _ hy)
  exact Int.le_trans (by omega) (Int.mul_le_mul h1 h2 (by omega) (by omega))
theorem qx (φ:ByteArray→Int):∀ (zs:List Int) (fs:List Wb.Form) (n K:Int),(∀ z∈zs,1≤z∧z≤20000)→zs.length=fs.length→0≤n→n<K→K*zs.foldl (·*·) 1≤20000→(cE φ zs fs n true).2=true→0≤(cE φ zs fs n true).1∧(cE φ zs fs n true).1<K*zs.foldl (·*·) 1
 | [],[],n,K,_,_,h0,h1,h2,_=>by simp [cE]; omega
 | [],_::_,_,_,_,h,_,_,_,_=>by simp at h
 | _::_,[],_,_,_,h,_,_,_,_=>by simp at h
 | z::zs,f::fs,n,K,hz,hl,h0,h1,h2,hok=>by
  simp only [cE,Bool.true_and] at hok ⊢
  simp only [List.foldl_cons,Int.one_mul] at h2 ⊢
  rw [kL,←Int.mul_assoc] at h2 ⊢
  have hz1:=hz z List.mem_cons_self
  have hp:=dY zs fun y hy=>(hz y (List.mem_cons_of_mem _ hy)).1
  by_cases hin:0≤aH φ f∧aH φ f≤z-1
  ·rw [decide_eq_true hin] at hok ⊢
   have hKz:K*z≤20000:=by
    have:K*z*1≤K*z*zs.foldl (·*·) 1:=Int.mul_le_mul_of_nonneg_left hp (Int.mul_nonneg (by omega) (by omega))
    omega
   have hnz:0≤n*z:=Int.mul_nonneg h0 (by omega)
   have hnK:n*z+z≤K*z:=by
    have:(n+1)*z≤K*z:=Int.mul_le_mul_of_nonneg_right (by omega) (by omega)
    rw [Int.add_mul,Int.one_mul] at this; exact this
   have w1:=ae (x:=n*z) (by omega) (by omega)
   have w2:=ae (x:=n*z+aH φ f) (by omega) (by omega)
   rw [w1,w2] at hok ⊢
   exact qx φ zs fs _ (K*z) (fun y hy=>hz y (List.mem_cons_of_mem _ hy)) (by simpa using hl) (by omega) (by omega) h2 hok
  ·rw [decide_eq_false hin] at hok
   rw [gI] at hok; cases hok
theorem oQ {A:List Wb.Array} (hA:∀ a∈A,OkArray a) {φ:ByteArray→Int} {key:ByteArray} {subs:List Wb.Form} (hs:ej A key subs) (hok:(bQ A φ key subs).2=true):iz A (bQ A φ key subs).1:=by
 obtain ⟨i,a,h1,h2,h3,h4,h5⟩:=hs
 have ha:=hA a (List.mem_of_getElem? h1)
 have hsz:=kc h1 h2
 unfold bQ at hok ⊢
 rw [hsz] at hok ⊢
 have hc:=ha.cells
 have:=qx φ a.sizes subs 0 1 ha.sizes h4 (by omega) (by omega) (by unfold ba at hc; omega) hok
 refine ⟨a,List.mem_of_getElem? h1,h3,this.1,?_⟩
 have h6:=this.2
 rw [Int.one_mul] at h6
 exact h6
theorem Inst.ok_in {A:List Wb.Array} (hA:∀ a∈A,OkArray a) {all:List (Wb.Step×List Wb.Step)} {x:Inst} (hx:InstOk A all x) (hok:x.ok A=true):(∀ s∈x.reads A,iz A s)∧iz A (x.sets A):=by
 unfold Inst.ok at hok
 rw [Bool.and_eq_true] at hok
 refine ⟨fun s hs=>?_,oQ hA hx.subs hok.2⟩
 unfold Inst.reads at hs
 rw [jX] at hs hok
 obtain ⟨y,hy,rfl⟩:=List.mem_map.1 hs
 exact oQ hA (kX _ hx.expr y hy) (List.all_eq_true.1 hok.1 y hy)
end Go.Proofs.YtjhogglgkjcacaaGreat
set_option maxRecDepth 20000
set_option maxHeartbeats 4000000
namespace Go.Proofs.YtjhogglgkjcacaaGreat
open Go.AM Go.Wb
def RdAt (h:Heap) (sz:Nat) (rv:AV) (es:List (List AV)):Prop:=∃ g all off st,rv=.row g sz off es.length∧h g=some (.row sz all st none)∧(all.drop off).take es.length=es∧off+es.length≤all.length
theorem RdAt.cell {h:Heap} {sz:Nat} {rv:AV} {es:List (List AV)} (r:RdAt h sz rv es):rv.cell=true:=by
 obtain ⟨g,all,off,st,rfl,_⟩:=r; rfl
theorem RdAt.frame {h h':Heap} {sz:Nat} {rv:AV} {es:List (List AV)} (r:RdAt h sz rv es) (hh:∀ k,an rv k→h' k=h k):RdAt h' sz rv es:=by
 obtain ⟨g,all,off,st,rfl,h2,h3,h4⟩:=r
 exact ⟨g,all,off,st,rfl,(hh g (au.2 rfl)).trans h2,h3,h4⟩
def RdN (h:Heap) (sz:Nat) (rv:AV) (es:List (List AV)):Prop:=(es=[]∧∃ b,rv=.sl [] b)∨RdAt h sz rv es
theorem RdN.frame {h h':Heap} {sz:Nat} {rv:AV} {es:List (List AV)} (r:RdN h sz rv es) (hh:∀ k,an rv k→h' k=h k):RdN h' sz rv es:=r.imp id fun r=>r.frame hh
def qw (s:Wb.Spot):AV:=.agg (Spot.cells s)
theorem qe:KeyOk (.agg [.str,.int]) qw where
 wf a:=rfl
 eq a b:=by
  obtain ⟨a1,a2⟩:=a
  obtain ⟨b1,b2⟩:=b
  simp [qw,Spot.cells,fQ,ci,fN]
  rfl
end Go.Proofs.YtjhogglgkjcacaaGreat
set_option maxRecDepth 20000
set_option maxHeartbeats 4000000
namespace Go.Proofs.YtjhogglgkjcacaaGreat
open Go.AM Go.Wb
def wI (A:List Wb.Array) (G:List Nat):List (ByteArray×AV):=List.zipWith (fun a gi=>(a.key,AV.row gi 1 0 (ba a.sizes).toNat)) A G
def vg (A:List Wb.Array):Prop:=∀ (i j:Nat) (a b:Wb.Array),A[i]?=some a→A[j]?=some b→j<i→b.key≠a.key
structure MemAt (h:Heap) (c g:Nat) (A:List Wb.Array) (M:Mem) (G:List Nat):Prop where
 len:G.length=A.length
 map:∃ ver,h g=some (.map (kvs AV.str (fun v:AV=>v) (wI A G)) ver)
 rows:∀ (i:Nat) (a:Wb.Array) (gi:Nat),A[i]?=some a→G[i]?=some gi→h gi=some (.row 1 (ak (dh M a)) .live none)
 lt:∀ gi∈G,gi<c∧gi≠g
 nd:G.Nodup
 gc:g<c
theorem MemAt.frame {h h':Heap} {c c' g:Nat} {A:List Wb.Array} {M:Mem} {G:List Nat} (x:MemAt h c g A M G) (hc:c≤c') (hh:∀ k,k=g∨k∈G→h' k=h k):MemAt h' c' g A M G:=by
 obtain ⟨ver,hm⟩:=x.map
 exact ⟨x.len,⟨ver,(hh g (.inl rfl)).trans hm⟩,fun i a gi h1 h2=>(hh gi (.inr (List.mem_of_getElem? h2))).trans (x.rows i a gi h1 h2),fun gi hg=>⟨by have:=(x.lt gi hg).1; omega,(x.lt gi hg).2⟩,x.nd,by have:=x.gc; omega⟩
theorem MemAt.set {h:Heap} {c g:Nat} {A:List Wb.Array} {M:Mem} {G:List Nat} (x:MemAt h c g A M G) (hA:vg A) {s:Wb.Spot} {i n gi:Nat} {a:Wb.Array} (h1:A[i]?=some a) (h2:G[i]?=some gi) (h3:a.key=s.array) (h4:s.cell=n) (h5:n<(ba a.sizes).toNat) (v:Int) :
  MemAt (AM.upd h gi (some (.row 1 ((ak (dh M a)).set n [.int v]) .live none))) c g A (fun s'=>if s'=s then v else M s') G:=by
 obtain ⟨ver,hm⟩:=x.map
 have hg:=x.lt gi (List.mem_of_getElem? h2)
 refine ⟨x.len,⟨ver,(ad (Ne.symm hg.2)).trans hm⟩,fun j b gj e1 e2=>?_,x.lt,x.nd,x.gc⟩
 by_cases hij:j=i
 ·subst hij
  rw [h1] at e1; injection e1 with e1; subst e1
  rw [h2] at e2; injection e2 with e2; subst e2
  rw [ah]
  have:(ak (dh M a)).set n [.int v]=ak (dh (fun s'=>if s'=s then v else M s') a):=by
   refine List.ext_getElem? fun k=>?_
   by_cases hk:k<(ba a.sizes).toNat
   ·by_cases hkn:k=n
    ·subst hkn
     have:(⟨a.key,(k:Int)⟩:Wb.Spot)=s:=by
      obtain ⟨sa,sc⟩:=s
      simp only at h3 h4
      simp [h3,h4]
     rw [List.getElem?_set_self (by rw [show (ak (dh M a)).length=(ba a.sizes).toNat by simp [ak,dh]]; exact hk)]
     simp [ak,dh,hk,this]
    ·have:¬(⟨a.key,(k:Int)⟩:Wb.Spot)=s:=by
      obtain ⟨sa,sc⟩:=s
      simp only at h3 h4
      simp [h4]; omega
     rw [List.getElem?_set_ne (fun e=>hkn e.symm)]
     simp [ak,dh,hk,this]
   ·rw [List.getElem?_eq_none (by simp [ak,dh]; omega),List.getElem?_eq_none (by simp [ak,dh]; omega)]
  rw [this]
 ·have hne:gj≠gi:=fun e=>by
   subst e
   have hj1:=List.getElem?_eq_some_iff.1 e2
   have hi1:=List.getElem?_eq_some_iff.1 h2
   obtain ⟨hj2,hj3⟩:=hj1
   obtain ⟨hi2,hi3⟩:=hi1
   have:=List.pairwise_iff_getElem.1 x.nd
   rcases Nat.lt_trichotomy i j with h | h | h
   ·exact this i j hi2 hj2 h (by rw [hi3,hj3])
   ·exact hij h.symm
   ·exact this j i hj2 hi2 h (by rw [hi3,hj3])
  rw [ad hne,x.rows j b gj e1 e2]
  have hkey:b.key≠s.array:=by
   rw [←h3]
   rcases Nat.lt_trichotomy i j with h | h | h
   ·exact fun e=>hA j i b a e1 h1 h e.symm
   ·exact absurd h.symm hij
   ·exact fun e=>hA i j a b h1 e1 h e
  have:dh (fun s'=>if s'=s then v else M s') b=dh M b:=by
   unfold dh
   refine List.map_congr_left fun k _=>?_
   refine if_neg fun e=>?_
   exact hkey (by rw [←e])
  rw [this]
end Go.Proofs.YtjhogglgkjcacaaGreat
set_option maxRecDepth 20000
set_option maxHeartbeats 4000000
namespace Go.Proofs.YtjhogglgkjcacaaGreat
open Go.AM Go.Wb
def rT (go:Nat) (stm which vals:AV) (k:Nat):Prop:=k=go∨an stm k∨an which k∨an vals k
theorem PlO.re {h h':Heap} {c c' go:Nat} {st:List (Wb.Step×List Wb.Step)} {l:List Inst} {stm which vals:AV} (x:PlO h c go st l stm which vals) (hc:c≤c') (hh:∀ k,rT go stm which vals k→h' k=h k):PlO h' c' go st l stm which vals:=by
 obtain ⟨⟨a,b,d,x1⟩,x2,x3,x4,x5,x6,x7,x8⟩:=x
 exact ⟨⟨a,b,d,(hh go (.inl rfl)).trans x1⟩,x2.frame fun k hk=>hh k (.inr (.inl hk)),x3.frame fun k hk=>hh k (.inr (.inr (.inl hk))),x4.frame fun k hk=>hh k (.inr (.inr (.inr hk))),by omega,fun k hk=>by have:=x6 k hk; omega,fun k hk=>by have:=x7 k hk; omega,fun k hk=>by have:=x8 k hk; omega⟩
theorem PlO.plt {h:Heap} {c go:Nat} {st:List (Wb.Step×List Wb.Step)} {l:List Inst} {stm which vals:AV} (x:PlO h c go st l stm which vals) {k:Nat} (hk:rT go stm which vals k):k<c:=by
 rcases hk with rfl | hk | hk | hk
 ·exact x.goc
 ·exact x.sb k hk
 ·exact x.wb k hk
 ·exact x.vb k hk
end Go.Proofs.YtjhogglgkjcacaaGreat
set_option maxRecDepth 20000
set_option maxHeartbeats 4000000
namespace Go.Proofs.YtjhogglgkjcacaaGreat
open Go.AM Go.Wb
def td (go:Nat) (stm which vals acc frm:AV) (k:Nat):Prop:=rT go stm which vals k∨an acc k∨an frm k
theorem RanAt.re {h h':Heap} {c c' go:Nat} {p:Wb.Prog} {stm which vals rnd acc frm:AV} (x:RanAt h c go p stm which vals rnd acc frm) (hc:c≤c') (hh:∀ k,td go stm which vals acc frm k→h' k=h k):RanAt h' c' go p stm which vals rnd acc frm:=
 ⟨x.plo.re hc fun k hk=>hh k (.inl hk),(hh go (.inl (.inl rfl))).trans x.obj,x.hacc.frame fun k hk=>hh k (.inr (.inl hk)),x.hfrm.frame fun k hk=>hh k (.inr (.inr hk)),fun k hk=>by have:=x.ab k hk; omega,fun k hk=>by have:=x.fb k hk; omega⟩
theorem RanAt.lt {h:Heap} {c go:Nat} {p:Wb.Prog} {stm which vals rnd acc frm:AV} (x:RanAt h c go p stm which vals rnd acc frm) {k:Nat} (hk:td go stm which vals acc frm k):k<c:=by
 rcases hk with hk | hk | hk
 ·exact x.plo.plt hk
 ·exact x.ab k hk
 ·exact x.fb k hk
end Go.Proofs.YtjhogglgkjcacaaGreat
set_option maxRecDepth 20000
set_option maxHeartbeats 4000000
namespace Go.Proofs.YtjhogglgkjcacaaGreat
open Go.AM Go.Wb
@[simp] theorem vV (l:List Int):(ak l).length=l.length:=by simp [ak]
@[simp] theorem zC (l:List Int) (i:Nat) (h:i<(ak l).length):(ak l)[i]=[.int (l[i]'(by simpa using h))]:=by simp [ak]
theorem lK {n:Int} {r:List Int} (hn:1≤n) (hr:∀ z∈r,1≤z) (hc:r.foldl (·*·) n≤20000):n≤20000:=by
 rw [kL] at hc
 have:=dY r hr
 have h2:n*1≤n*r.foldl (·*·) 1:=Int.mul_le_mul_of_nonneg_left this (by omega)
 omega
theorem jE (a:Wb.Array) (ha:OkArray a):aO Pg Fn118.n [.agg a.cells] (.int (ba a.sizes)):=by
 rintro ⟨h0,c0⟩
 refine Fn118.calls .frz ?_
 unfold Fn118.ac
 have hl4:=ha.len
 have hc:=ha.cells
 simp [Array.cells]
 obtain ⟨Inv,hInv⟩:∃ Inv:Nat→List Int→Slots→St→Prop,Inv=fun (i:Nat) r sl s'=>∃ n:Int,sl 3=.int n∧r.foldl (·*·) n=ba a.sizes∧1≤n:=⟨_,rfl⟩
 refine aX 9 Fn118.W0 a.sizes Inv (by rfl) (by rfl) ?_ ?_ ?_
 ·rw [hInv]; exact ⟨by simp,1,by simp,rfl,by omega⟩
 ·intro v h c hv hF hI
  rw [hInv] at hI
  obtain ⟨n,h3,h4,h5⟩:=hI
  simp at h3
  simp only [List.foldl_nil] at h4
  simp [hv,h3,h4]
  exact aC fun k hk=>by rw [hF.h k (by omega),ad (by omega)]
 ·intro i z zs v h c hi hz hl hv hF hI
  rw [hInv] at hI
  obtain ⟨n,h3,h4,h5⟩:=hI
  simp at h3
  simp only [List.foldl_cons] at h4
  have hzz:=(ha.sizes z (aR hl)).1
  have h1:1≤n*z:=Int.le_trans (by omega) (Int.mul_le_mul h5 hzz (by omega) (by omega))
  have hb:=lK h1 (fun y hy=>(ha.sizes y (by rw [hl]; exact List.mem_append_right _ (List.mem_cons_of_mem _ hy))).1) (by rw [h4]; exact hc)
  have hw:=ae (x:=n*z) (by omega) (by omega)
  have hwi:=ae (x:=(i:Int)+1) (by omega) (by omega)
  have hzi:(ak a.sizes)[i]?=some [.int z]:=by simp [ak,hi,hz]
  simp [hv,hi,hzi,h3,hw,hwi,hz]
  refine ⟨hF,?_⟩
  rw [hInv]
  exact ⟨n*z,by simp,h4,h1⟩
theorem nK (a:Wb.Array) (ha:OkArray a):aO Pg Fn63.n [.agg a.cells] (.int (ba a.sizes)):=by
 rintro ⟨h0,c0⟩
 refine Fn63.calls .frz ?_
 unfold Fn63.ac
 have hl4:=ha.len
 have hc:=ha.cells
 simp [Array.cells]
 obtain ⟨Inv,hInv⟩:∃ Inv:Nat→List Int→Slots→St→Prop,Inv=fun (i:Nat) r sl s'=>∃ n:Int,sl 3=.int n∧r.foldl (·*·) n=ba a.sizes∧1≤n:=⟨_,rfl⟩
 refine aX 9 Fn63.W0 a.sizes Inv (by rfl) (by rfl) ?_ ?_ ?_
 ·rw [hInv]; exact ⟨by simp,1,by simp,rfl,by omega⟩
 ·intro v h c hv hF hI
  rw [hInv] at hI
  obtain ⟨n,h3,h4,h5⟩:=hI
  simp at h3
  simp only [List.foldl_nil] at h4
  simp [hv,h3,h4]
  exact aC fun k hk=>by rw [hF.h k (by omega),ad (by omega)]
 ·intro i z zs v h c hi hz hl hv hF hI
  rw [hInv] at hI
  obtain ⟨n,h3,h4,h5⟩:=hI
  simp at h3
  simp only [List.foldl_cons] at h4
  have hzz:=(ha.sizes z (aR hl)).1
  have h1:1≤n*z:=Int.le_trans (by omega) (Int.mul_le_mul h5 hzz (by omega) (by omega))
  have hb:=lK h1 (fun y hy=>(ha.sizes y (by rw [hl]; exact List.mem_append_right _ (List.mem_cons_of_mem _ hy))).1) (by rw [h4]; exact hc)
  have hw:=ae (x:=n*z) (by omega) (by omega)
  have hwi:=ae (x:=(i:Int)+1) (by omega) (by omega)
  have hzi:(ak a.sizes)[i]?=some [.int z]:=by simp [ak,hi,hz]
  simp [hv,hi,hzi,h3,hw,hwi,hz]
  refine ⟨hF,?_⟩
  rw [hInv]
  exact ⟨n*z,by simp,h4,h1⟩
end Go.Proofs.YtjhogglgkjcacaaGreat
set_option maxRecDepth 20000
set_option maxHeartbeats 4000000
namespace Go.Proofs.YtjhogglgkjcacaaGreat
open Go.AM Go.Wb
theorem mQ {A:List Wb.Array} {key:ByteArray} (h:¬bh A key<0):∃ (i:Nat) (a:Wb.Array),A[i]?=some a∧bh A key=i∧i<A.length∧fK A key=a.sizes∧a.key=key:=by
 obtain ⟨i,a,hi,h1,h2,h3,h4⟩:=eE h
 exact ⟨i,a,by rw [List.getElem?_eq_getElem hi,h2],h1,hi,h4,h3⟩
end Go.Proofs.YtjhogglgkjcacaaGreat
set_option maxRecDepth 20000
set_option maxHeartbeats 4000000
namespace Go.Proofs.YtjhogglgkjcacaaGreat
open Go.AM Go.Wb
end Go.Proofs.YtjhogglgkjcacaaGreat
set_option maxRecDepth 20000
set_option maxHeartbeats 4000000
namespace Go.Proofs.YtjhogglgkjcacaaGreat
open Go.AM Go.Wb
theorem oX (p:Wb.Prog):bv p=if bB p=0 then d5 p else bB p:=rfl
theorem MemAt.put {h:Heap} {c g:Nat} {A:List Wb.Array} {M M':Mem} {G:List Nat} (x:MemAt h c g A M G) (hA:vg A) {i gi:Nat} {a:Wb.Array} (h1:A[i]?=some a) (h2:G[i]?=some gi) {vs:List Int} (e1:dh M' a=vs) (e2:∀ s,s.array≠a.key→M' s=M s) :
  MemAt (AM.upd h gi (some (.row 1 (ak vs) .live none))) c g A M' G:=by
 obtain ⟨ver,hm⟩:=x.map
 have hg:=x.lt gi (List.mem_of_getElem? h2)
 refine ⟨x.len,⟨ver,(ad (Ne.symm hg.2)).trans hm⟩,fun j b gj f1 f2=>?_,x.lt,x.nd,x.gc⟩
 by_cases hij:j=i
 ·subst hij
  rw [h1] at f1; injection f1 with f1; subst f1
  rw [h2] at f2; injection f2 with f2; subst f2
  rw [ah,e1]
 ·have hne:gj≠gi:=fun e=>by
   subst e
   obtain ⟨hj2,hj3⟩:=List.getElem?_eq_some_iff.1 f2
   obtain ⟨hi2,hi3⟩:=List.getElem?_eq_some_iff.1 h2
   have:=List.pairwise_iff_getElem.1 x.nd
   rcases Nat.lt_trichotomy i j with h | h | h
   ·exact this i j hi2 hj2 h (by rw [hi3,hj3])
   ·exact hij h.symm
   ·exact this j i hj2 hi2 h (by rw [hi3,hj3])
  rw [ad hne,x.rows j b gj f1 f2]
  have hkey:b.key≠a.key:=by
   rcases Nat.lt_trichotomy i j with h | h | h
   ·exact fun e=>hA j i b a f1 h1 h e.symm
   ·exact absurd h.symm hij
   ·exact fun e=>hA i j a b h1 f1 h e
  have:dh M' b=dh M b:=by
   unfold dh
   exact List.map_congr_left fun k _=>e2 _ hkey
  rw [this]
end Go.Proofs.YtjhogglgkjcacaaGreat
set_option maxRecDepth 20000
set_option maxHeartbeats 4000000
namespace Go.Proofs.YtjhogglgkjcacaaGreat
open Go.AM Go.Wb
end Go.Proofs.YtjhogglgkjcacaaGreat
set_option maxRecDepth 20000
set_option maxHeartbeats 4000000
namespace Go.Proofs.YtjhogglgkjcacaaGreat
open Go.AM Go.Wb
structure GV (h:Heap) (c0:Nat) (V:ByteArray→List Int) (es:List (List AV)):Prop where
 el:∀ e∈es,∃ (key:ByteArray) (gv:Nat),e=[.str key,.row gv 1 0 (V key).length]∧c0≤gv∧h gv=some (.row 1 (ak (V key)) .live none)
def rJ (e:List AV):ByteArray:=match e with
 | .sc (.string a)::_=>a
 | _=>⟨#[]⟩
def gOf (V:ByteArray→List Int) (e:List AV):Wb.Grid:=⟨rJ e,V (rJ e)⟩
theorem GV.frz {h:Heap} {c0 go:Nat} {V:ByteArray→List Int} {es:List (List AV)} (H:GV h c0 V es) (hg:h go=some (.row 2 es .live none)) (hc:c0≤go):Frz h (fun k=>c0≤k) (.row go 2 0 es.length) (row ((es.map (gOf V)).map Grid.cells)):=by
 have hel:=H.el
 have hgs:∀ (i:Nat) (e y:List AV),es[i]?=some e→((es.map (gOf V)).map Grid.cells)[i]?=some y→e.length=y.length∧∀ (j:Nat) (c d:AV),e[j]?=some c→y[j]?=some d→Frz h (fun k=>c0≤k) c d:=by
  intro i e y he hy
  obtain ⟨key,gv,rfl,y1,y3⟩:=hel e (List.mem_of_getElem? he)
  rw [List.getElem?_map,List.getElem?_map,he] at hy
  simp [gOf,rJ,Grid.cells] at hy
  subst hy
  refine ⟨rfl,fun j c d hc hd=>?_⟩
  match j with
  | 0=>simp at hc hd; subst hc; subst hd; exact .leaf _
  | 1=>
   simp at hc hd; subst hc; subst hd
   refine .row gv 1 0 _ _ .live _ y3 (.inl rfl) y1 (by simp [ak]) (by simp [ak]) ?_ ?_
   ·intro i e y he hy
    rw [Nat.zero_add] at he; rw [he] at hy; cases hy; rfl
   ·intro i j e y c d he hy hc hd
    rw [Nat.zero_add] at he; rw [he] at hy; cases hy; rw [hc] at hd; cases hd
    obtain ⟨n,_,hn⟩:=List.mem_map.1 (List.mem_of_getElem? he)
    subst hn
    match j with
    | 0=>simp at hc; subst hc; exact .leaf _
    | j+1=>simp at hc
  | j+2=>simp at hc
 have hrow:row ((es.map (gOf V)).map Grid.cells)=.sl ((es.map (gOf V)).map Grid.cells) false:=by simp
 rw [hrow]
 refine .row go 2 0 es.length _ .live _ hg (.inl rfl) hc (by simp) (by simp) ?_ ?_
 ·intro i e y he hy
  rw [Nat.zero_add] at he
  exact (hgs i e y he hy).1
 ·intro i j e y c d he hy hc hd
  rw [Nat.zero_add] at he
  exact (hgs i e y he hy).2 j c d hc hd
theorem GV.ok {h:Heap} {c0:Nat} {V:ByteArray→List Int} {es:List (List AV)} (H:GV h c0 V es):∀ e∈es,aB 2 e=true:=fun e he=>by
 obtain ⟨key,gv,rfl,_⟩:=H.el e he; rfl
theorem GV.frame {h h':Heap} {c0:Nat} {V:ByteArray→List Int} {es:List (List AV)} (H:GV h c0 V es) (hh:∀ e∈es,h' (mC e)=h (mC e)):GV h' c0 V es:=
 ⟨fun e he=>by
  obtain ⟨key,gv,rfl,h1,h3⟩:=H.el e he
  exact ⟨key,gv,rfl,h1,(hh _ he).trans h3⟩⟩
end Go.Proofs.YtjhogglgkjcacaaGreat
set_option maxRecDepth 20000
set_option maxHeartbeats 4000000
namespace Go.Proofs.YtjhogglgkjcacaaGreat
open Go.AM Go.Wb
end Go.Proofs.YtjhogglgkjcacaaGreat
set_option maxRecDepth 20000
set_option maxHeartbeats 4000000
namespace Go.Proofs.YtjhogglgkjcacaaGreat
open Go.AM Go.Wb
end Go.Proofs.YtjhogglgkjcacaaGreat
set_option maxRecDepth 20000
set_option maxHeartbeats 4000000
namespace Go.Proofs.YtjhogglgkjcacaaGreat
open Go.AM Go.Wb
@[simp] theorem xd (l:List Wb.Spot):aW (l.map Spot.cells)=l.map Spot.cells:=cI (fun _=>rfl) l
def RefMem (h:Heap) (g:Nat) (M:Mem):Prop:=∃ (m:List (Wb.Spot×Int)) (ver:Nat),h g=some (.map (kvs qw AV.int m) ver)∧∀ s,M s=(bS m s).getD 0
theorem RefMem.set {h:Heap} {c g:Nat} {M:Mem} (x:RefMem h g M) (s:Wb.Spot) (v:Int):∃ b,muI (.agg [.str,.int]) (.map g) (.agg (Spot.cells s)) (.int v) ⟨h,c⟩=some ⟨AM.upd h g b,c+1⟩∧∀ h',h' g=b→RefMem h' g (fun s'=>if s'=s then v else M s'):=by
 obtain ⟨m,ver,h1,h2⟩:=x
 have hmu:=jx qe (f:=AV.int) (g:=g) (s:=⟨h,c⟩) h1 s v
 refine ⟨_,hmu,fun h' hh=>⟨dC m s v,c,hh,fun s'=>?_⟩⟩
 rw [oA]
 show (if s'=s then v else M s')=_
 split
 ·rfl
 ·exact h2 s'
theorem RefMem.get {h:Heap} {c g:Nat} {M:Mem} (x:RefMem h g M) (s:Wb.Spot):lkI (.agg [.str,.int]) (.int 0) false (.map g) (.agg (Spot.cells s)) ⟨h,c⟩=some (.int (M s)):=by
 obtain ⟨m,ver,h1,h2⟩:=x
 have hlk:=jw qe (f:=AV.int) (z:=.int 0) (ok:=false) (s:=⟨h,c⟩) h1 s
 have hms:((bS m s).map AV.int).getD (.int 0)=.int (M s):=by rw [h2 s]; cases bS m s <;> rfl
 rw [hms] at hlk
 exact hlk
end Go.Proofs.YtjhogglgkjcacaaGreat
set_option maxRecDepth 20000
set_option maxHeartbeats 4000000
namespace Go.Proofs.YtjhogglgkjcacaaGreat
open Go.AM Go.Wb
theorem FzH.low {c0:Nat} {h h':Heap} (x:FzH (fun k=>c0≤k) h h') {k:Nat} (hk:k<c0):h' k=h k:=by
 rcases x k with e | ⟨h1,_⟩
 ·exact e
 ·omega
theorem vu (a b:Int):aO Pg Fn12.n [row (ak [a,b])] (.int (if a=0 then b else a)):=by
 rintro ⟨h0,c0⟩
 refine Fn12.calls .frz ?_
 unfold Fn12.ac
 simp
 refine bT 7 Fn12.W0 [a,b] (fun (i:Nat) r sl=>(if a=0 then b else a)=(r.find? (fun x=>decide (x≠0))).getD 0) (by rfl) (by rfl) ?_ ?_ ?_
 ·refine ⟨by simp,?_⟩
  by_cases ha:a=0
  ·by_cases hb:b=0 <;> simp [ha,hb,List.find?]
  ·simp [ha,List.find?]
 ·intro v c1 hv hc hI
  simp at hI
  simp [hv,hI]
 ·intro i x xs v c1 hi hx hl hv hc hI
  have hi2:i<2:=by simpa using hi
  have hi3:(i:Int)<2:=by omega
  have hw:=ae (x:=(i:Int)+1) (by omega) (by omega)
  by_cases hz:x=0
  ·simp [hv,hi2,hi3,hx,hz,hw]
   exact ⟨hc,by simpa [List.find?,hz] using hI⟩
  ·simp [hv,hi2,hi3,hx,hz]
   simpa [List.find?,hz] using hI.symm
theorem cJ (l:List Int):aO Pg Fn19.n [row (ak l),row (ak l)] (.bool true):=by
 rintro ⟨h0,c0⟩
 refine ACalls.small fun hs=>?_
 have hlen:l.length≤68719476736:=by simp at hs; exact hs.1
 refine Fn19.calls .frz ?_
 unfold Fn19.ac
 simp
 refine bT 13 Fn19.W0 l (fun (i:Nat) r sl=>True) (by rfl) (by rfl) ?_ ?_ ?_
 ·simp
 ·intro v c1 hv hc hI
  simp [hv]
 ·intro i x xs v c1 hi hx hl hv hc hI
  have hw:=ae (x:=(i:Int)+1) (by omega) (by omega)
  simp [hv,hi,hx,hw]
  exact hc
end Go.Proofs.YtjhogglgkjcacaaGreat
set_option maxRecDepth 20000
set_option maxHeartbeats 4000000
namespace Go.Proofs.YtjhogglgkjcacaaGreat
open Go.AM Go.Wb
def p7:Wb.Prog:=⟨[⟨⟨#[97]⟩,[1]⟩],[.mk 3 ⟨#[115]⟩ [] [] [] [] ⟨#[97]⟩ [⟨0,[]⟩] (.mk 1 7 ⟨0,[]⟩ ⟨#[]⟩ [] [])]⟩
end Go.Proofs.YtjhogglgkjcacaaGreat
set_option maxRecDepth 20000
namespace Go.Proofs.YtjhogglgkjcacaaGreat
open Go.AM Go.Wb
theorem vP {G G':Gh} {s s':St} {w w':World} (h:Stp G s w G' s' w') (hs:∀ k,s.h k=none):Go.RowKit.Below w.heap.size w w':=
 ⟨h.os,h.tape,h.output,h.size,fun k hk=>h.keep k hk fun ⟨g,body,l,hg,_⟩=>by rw [hs g] at hg; cases hg⟩
theorem sy (f:FuncId) (hcall:∀ (xs:_root_.Array Value) (w:World),(callFunc f xs).run Tryz.prog w=.ok (.enter f xs) w)
  (hlaw:∀ L:List Int,L.length≤1048576→∀ (h0:Heap) (c0:Nat),ACalls Pg f [row (ak L)] ⟨h0,c0⟩ fun av s'=>av=.bool true∧s'.h=h0)
  (W:World) (a:Option Addr) (len cap:Nat) (zs:List Int) (hl:len≤cap) (hz:zs.length=len) (hlen:len≤1048576)
  (hcell:len=0∨∃ b off,a=some ⟨b,off,none⟩∧∀ j,j<len→W.cell? ⟨b,off+j,none⟩=some (.int .i64 (zs.getD j 0))) :
  Calls Tryz.prog f #[.slice a len cap] W fun e W'=>e=.returned (.bool true)∧Go.RowKit.Below W.heap.size W W':=by
 obtain ⟨G,hG⟩:∃ G:Gh,G=⟨fun _=>none,fun b o=>W.cell? ⟨b,o,none⟩⟩:=⟨_,rfl⟩
 have hS:Sim G ⟨fun _=>none,0⟩ W:=by
  refine ⟨fun b o v h=>?_,fun g l h=>?_,fun g b h=>?_,fun i j bi bj li lj _ hi=>?_⟩
  ·rw [hG] at h; exact h
  ·rw [hG] at h; cases h
  ·cases h
  ·cases hi
 have hrow:row (ak zs)=.sl (ak zs) false:=by simp
 have hil:(ak zs).length=len:=by simp [hz]
 have hget:∀ (i:Nat) (e:List AV),(ak zs)[i]?=some e→i<len∧e=[.int (zs.getD i 0)]:=fun i e he=>by
  have hi:i<zs.length:=by
   have:=(List.getElem?_eq_some_iff.1 he).1
   rw [vV] at this; exact this
  refine ⟨by omega,?_⟩
  unfold ak at he
  rw [List.getElem?_map,List.getElem?_eq_getElem hi] at he
  rw [List.getD_eq_getElem?_getD,List.getElem?_eq_getElem hi]
  exact (Option.some.inj he).symm
 have hrep:Rep G (row (ak zs)) (.slice a len cap):=by
  rw [hrow]
  have key:Rep G (.sl (ak zs) false) (.slice a (ak zs).length cap):=by
   obtain ⟨b,off,hb⟩:∃ b off,(len≠0→a=some ⟨b,off,none⟩)∧∀ j,j<len→W.cell? ⟨b,off+j,none⟩=some (.int .i64 (zs.getD j 0)):=by
    rcases hcell with h | ⟨b,off,h1,h2⟩
    ·exact ⟨0,0,fun hn=>absurd h hn,fun j hj=>by omega⟩
    ·exact ⟨b,off,fun _=>h1,h2⟩
   refine .sl (ak zs) false a cap b off 1 (fun i _=>.int .i64 (zs.getD i 0)) (by omega) (fun h=>by cases h) (fun hne=>hb.1 fun h0=>hne (List.length_eq_zero_iff.1 (by omega))) (fun i e he=>by rw [(hget i e he).2]; rfl) (fun i e j c he hc=>?_) (fun i e j c he hc=>?_) (by omega)
   ·obtain ⟨h1,rfl⟩:=hget i e he
    match j with
    | 0=>
     rw [hG]
     show W.cell? ⟨b,off+i*1+0,none⟩=_
     rw [Nat.mul_one,Nat.add_zero]
     exact hb.2 i h1
    | j+1=>simp at hc
   ·obtain ⟨h1,rfl⟩:=hget i e he
    match j with
    | 0=>simp at hc; subst hc; exact .sc _ rfl
    | j+1=>simp at hc
  rw [hil] at key
  exact key
 have hc:=hlaw zs (by omega) (fun _=>none) 0 G W [.slice a len cap] hS (RepL.cons hrep (RepL.nil G))
 unfold CallOk at hc
 rw [hcall] at hc
 refine hc.mono fun e w' he=>?_
 cases e with
 | returned v=>
  obtain ⟨av,G',s',h1,h2,h3,rfl,_⟩:=he
  have hv:v=.bool true:=by cases h3; rfl
  exact ⟨by rw [hv],vP h1 fun _=>rfl⟩
 | _=>exact absurd he id
end Go.Proofs.YtjhogglgkjcacaaGreat
set_option maxRecDepth 20000
set_option maxHeartbeats 4000000
namespace Go.Proofs.YtjhogglgkjcacaaGreat
open Go.AM Go.Wb
theorem oU {α β:Type} (f:α→β) {l:List α} {i:Nat} (hi:i<l.length):(l.take (i+1)).map f=(l.take i).map f++[f l[i]]:=by
 rw [List.take_add_one,List.getElem?_eq_getElem hi,List.map_append]; rfl
theorem sf (A:List Wb.Array) {l:List Inst} {i:Nat} (hi:i<l.length):cY A 0 (l.take (i+1))=cY A 0 (l.take i)++iO A i l[i]:=by
 rw [List.take_add_one,List.getElem?_eq_getElem hi,Option.toList_some,mq]
 simp [cY,Nat.min_eq_left (Nat.le_of_lt hi)]
theorem qY (A:List Wb.Array):∀ (k:Nat) (l:List Inst),∀ e∈cY A k l,aQ e=e∧aB 4 e=true
 | k,[],e,h=>by simp [cY] at h
 | k,x::xs,e,h=>by
  simp only [cY,iO,List.mem_append,List.mem_map,List.mem_singleton] at h
  rcases h with (⟨s,_,rfl⟩ | rfl) | h
  ·exact ⟨rfl,rfl⟩
  ·exact ⟨rfl,rfl⟩
  ·exact qY A (k+1) xs e h
theorem qj:∀ {es:List (List AV)},(∀ e∈es,aQ e=e)→aW es=es
 | [],_=>rfl
 | e::es,h=>by simp only [aW]; rw [h e List.mem_cons_self,qj fun x hx=>h x (List.mem_cons_of_mem _ hx)]
theorem vI (A:List Wb.Array) (l:List Inst) (hl:l.length≤1000000) (hr:∀ i∈l,(i.reads A).length≤4096) (x:AV) (h0:Heap) (c0:Nat) (hu:UsesN h0 c0 A x l) (hx:∀ k,an x k→k<c0) :
  ACalls Pg Fn69.n [x] ⟨h0,c0⟩ fun av s'=>av=row (cY A 0 l)∧s'.h=h0:=by
 refine Fn69.calls .frz ?_
 unfold Fn69.ac
 have hlen:=hu.len
 simp [hlen]
 obtain ⟨Inv,hInv⟩:∃ Inv:Nat→List Inst→Slots→St→Prop,Inv=fun i r sl s'=>∃ g es,sl 3=.row g 4 0 es.length∧c0≤g∧g<s'.c∧s'.h g=some (.row 4 es .live none)∧es=cY A 0 (l.take i)∧es.length≤4097*i∧Fr c0 h0 s'.h s'.c:=⟨_,rfl⟩
 refine bq 10 Fn69.W0 l Inv (by rfl) (by rfl) ?_ ?_ ?_
 ·rw [hInv]
  exact ⟨by simp,c0,[],by simp,Nat.le_refl _,Nat.lt_succ_self _,by simp,by simp [cY],by simp,(Fr.refl h0 c0).upd (Nat.le_refl _) (Nat.le_succ _)⟩
 ·intro v s' hv hI
  rw [hInv,List.take_length] at hI
  obtain ⟨g,es,h3,i1,i2,i3,i4,_,i5⟩:=hI
  simp at h3
  simp [hv,h3,i3]
  exact ⟨by rw [i4]; exact qj fun e he=>(qY A 0 l e he).1,(i5.upd i1 (Nat.le_refl _)).retH⟩
 ·intro i y ys v s' hi hy hl2 hv hI
  rw [hInv] at hI
  obtain ⟨g,es,h3,i1,i2,i3,i4,i6,i5⟩:=hI
  obtain ⟨h,c⟩:=s'
  simp at h3
  simp only at i2 i3 i5
  obtain ⟨us,gl,ge,e1,e2,e3⟩:=hu.at hi
  have hgl:=hx gl (by rw [e1]; exact au.2 rfl)
  have hw:=ae (x:=(i:Int)+1) (by omega) (by omega)
  have e2':=(i5.h gl hgl).trans e2
  have hrl:=hr _ (List.getElem_mem hi)
  have hsu:=sf A hi
  rw [hy] at e3 hrl hsu
  obtain ⟨S,hS⟩:∃ S,S=y.sets A:=⟨_,rfl⟩
  obtain ⟨Rs,hRs⟩:∃ Rs,Rs=y.reads A:=⟨_,rfl⟩
  have hacc:iO A i y=Rs.map (bE i false)++[bE i true S]:=by rw [hS,hRs]; rfl
  rw [←hRs] at hrl
  obtain ⟨inum,⟨ik,inm,ilo,ihi,ico,ibo,iar,isu,⟨xo,xn,xf,xa,xs',xg⟩⟩,ien,iwa⟩:=y
  rw [eJ,Step.cells_mk,←hS,←hRs] at e3
  obtain ⟨h1,hh1⟩:∃ h1,h1=upd h c (some (.row 22 [[.str inm,row (ak (ien.map (·.2))),.int ik,.str inm,row (ilo.map Bound.cells),row (ihi.map Bound.cells),row (ico.map Form.cells),row (ibo.map Step.cells),.str iar,row (isu.map Form.cells),.int xo,.int xn,.int xf.const,row (xf.terms.map Term.cells),.str xa,row (xs'.map Form.cells),row (xg.map Expr.cells),.map ge,row (Rs.map Spot.cells),.str S.array,.int S.cell,row (ak iwa)]] .live none)):=⟨_,rfl⟩
  have hF1:Fr c0 h0 h1 (c+1):=by rw [hh1]; exact i5.upd i5.c (Nat.le_succ _)
  have hg1:h1 g=some (.row 4 es .live none):=by rw [hh1,ad (by omega)]; exact i3
  have hb1:h1 c=_:=(congrFun hh1 c).trans ah
  simp [hv,hi,e1,e2',e3,Step.name]
  rw [←hh1]
  obtain ⟨Inv2,hInv2⟩:∃ Inv:Nat→List Wb.Spot→Slots→St→Prop,Inv=fun j r sl s'=>∃ g,sl 3=.row g 4 0 (es.length+j)∧c0≤g∧g≠c∧g<s'.c∧s'.h g=some (.row 4 (es++(Rs.take j).map (bE i false)) .live none)∧Fr c0 h0 s'.h s'.c∧s'.h c=h1 c∧c+1≤s'.c:=⟨_,rfl⟩
  refine bq 18 Fn69.W1 Rs Inv2 (by rfl) (by rfl) ?_ ?_ ?_
  ·rw [hInv2]
   exact ⟨by simp,g,by simp [h3],i1,by omega,by show g<c+1; omega,by simpa using hg1,hF1,rfl,Nat.le_refl _⟩
  ·intro v2 s2 hv2 hI2
   rw [hInv2,List.take_length] at hI2
   obtain ⟨g2,q3,j1,j2,j3,j4,j5,j6,j7⟩:=hI2
   obtain ⟨h2,c2⟩:=s2
   simp at q3
   simp only at j3 j4 j5 j6 j7
   rw [hb1] at j6
   have hap:=bV (sz:=4) (bytes:=40) (md:=.plain) (x:=bE i true S) (b:=true) (s:=⟨h2,c2⟩) (len:=es.length+Rs.length) (by simp) j4 (by simp) (by decide) (by decide) (by decide) rfl (by omega)
   unfold bE at hap
   simp [hv2,q3,j6,bsI,aw,aM,hap,hv,hw]
   rw [hInv]
   have hes:(es++Rs.map (bE i false)++[bE i true S]).length=es.length+Rs.length+1:=by simp; omega
   refine ⟨c2,es++Rs.map (bE i false)++[bE i true S],by rw [hes]; simp,j5.c,by show c2<c2+1; omega,by simp [bE],by rw [hsu,hacc,←i4,List.append_assoc],by rw [hes]; omega,?_⟩
   exact (j5.upd (b:=none) j1 (Nat.le_refl _)).upd j5.c (Nat.le_succ _)
  ·intro j s ss v2 s2 hj hs hl3 hv2 hI2
   rw [hInv2] at hI2
   obtain ⟨g2,q3,j1,j2,j3,j4,j5,j6,j7⟩:=hI2
   obtain ⟨h2,c2⟩:=s2
   simp at q3
   simp only at j3 j4 j5 j6 j7
   have hw2:=ae (x:=(j:Int)+1) (by omega) (by omega)
   have hsj:(Rs.map Spot.cells)[j]?=some (Spot.cells s):=by simp [hj,hs]
   have hap:=fun (h':Heap) (hg':h' g2=some (.row 4 (es++(Rs.take j).map (bE i false)) .live none)) c'=>bV (sz:=4) (bytes:=40) (md:=.plain) (x:=bE i false s) (b:=true) (s:=⟨h',c'⟩) (len:=es.length+j) (es:=es++(Rs.take j).map (bE i false)) (g:=g2) (by simp) hg' (by simp; omega) (by decide) (by decide) (by decide) rfl (by omega)
   unfold bE at hap
   have hgx:∀ b,upd h2 c2 b g2=_:=fun b=>(ad (by omega)).trans j4
   simp [hv2,hj,hs,q3,bsI,aw,aM,Spot.cells,hap _ (hgx _),hw2]
   rw [hInv2]
   refine ⟨c2+1,by simp; omega,by have:=j5.c; omega,by omega,by show c2+1<c2+1+1; omega,?_,((j5.upd j5.c (Nat.le_succ _)).upd j1 (Nat.le_refl _)).upd (by have:=j5.c; omega) (Nat.le_succ _),?_,by show c+1≤c2+1+1; omega⟩
   ·rw [oU _ hj,hs,←List.append_assoc]; show upd _ (c2+1) _ (c2+1)=_; rw [ah,List.map_take,List.append_assoc]; rfl
   ·show upd (upd (upd h2 c2 _) g2 _) (c2+1) _ c=_
    rw [ad (by omega),ad (Ne.symm j2),ad (by omega)]; exact j6
end Go.Proofs.YtjhogglgkjcacaaGreat
set_option maxRecDepth 20000
set_option maxHeartbeats 4000000
namespace Go.Proofs.YtjhogglgkjcacaaGreat
open Go.AM Go.Wb
abbrev Acc:=Nat×Bool×Wb.Spot
def Acc.cells (a:Acc):List AV:=bE a.1 a.2.1 a.2.2
def eW (A:List Wb.Array):Nat→List Inst→List Acc
 | _,[]=>[]
 | k,x::xs=>(x.reads A).map (fun s=>(k,false,s))++(k,true,x.sets A)::eW A (k+1) xs
theorem kA (A:List Wb.Array):∀ (k:Nat) (l:List Inst),cY A k l=(eW A k l).map Acc.cells
 | _,[]=>rfl
 | k,x::xs=>by simp [cY,eW,iO,kA A (k+1) xs,Acc.cells]
theorem ek {p:Wb.Prog} (h:bv p=0):bB p=0∧(aE p).1=0∧(∀ x∈(aE p).2.l,x.ok p.arrays=true)∧cF p.arrays (aE p).2.l≤200000:=by
 unfold bv at h
 split at h
 ·rename_i h2
  split at h
  ·rename_i h3
   unfold cq at h
   split at h
   ·cases h
   ·rename_i h4
    split at h
    ·cases h
    ·rename_i h5
     refine ⟨h2,h3,fun x hx=>?_,by omega⟩
     have h4':((aE p).2.l.any fun i=>!i.ok p.arrays)=false:=by simpa using h4
     have:=List.any_eq_false.1 h4' x hx
     simpa using this
  ·exact absurd h ‹_›
 ·exact absurd h ‹_›
end Go.Proofs.YtjhogglgkjcacaaGreat
set_option maxRecDepth 20000
set_option maxHeartbeats 4000000
namespace Go.Proofs.YtjhogglgkjcacaaGreat
open Go.AM Go.Wb
structure Pl where
 key:ByteArray
 start:Int
 turned:Bool
def Pl.cells (p:Pl):List AV:=[.str p.key,.int p.start,.bool p.turned]
def rS:List AV→Pl
 | [.sc (.string k),.sc (.int _ n),.sc (.bool b)]=>⟨k,n,b⟩
 | _=>⟨⟨#[]⟩,0,false⟩
theorem uS (p:Pl):aQ p.cells=p.cells:=rfl
@[simp] theorem kS (l:List Pl):aW (l.map Pl.cells)=l.map Pl.cells:=cI uS l
theorem pj (l:List Pl):∀ e∈l.map Pl.cells,aB 3 e=true:=fun e he=>by obtain ⟨t,_,rfl⟩:=List.mem_map.1 he; rfl
theorem tc {es:List (List AV)} {l:List Pl} (h:es.Perm (l.map Pl.cells)):∃ L:List Pl,es=L.map Pl.cells∧L.Perm l:=by
 refine ⟨es.map rS,?_,?_⟩
 ·rw [List.map_map]
  refine (List.map_id' es).symm.trans (List.map_congr_left fun e he=>?_)
  obtain ⟨p,_,rfl⟩:=List.mem_map.1 (h.mem_iff.1 he)
  rfl
 ·have:=h.map rS
  rw [List.map_map] at this
  have e:l.map (rS ∘ Pl.cells)=l:=by
   have:(rS ∘ Pl.cells)=id:=by funext p; rfl
   rw [this]; simp
  rwa [e] at this
def ca (line x:Int):Int:=x+(-x) % line
def bZ (line:Int):Int→List Wb.Array→List Pl
 | _,[]=>[]
 | y,a::r=>⟨a.key,ca line y,false⟩::bZ line (ca line y+ba a.sizes) r
theorem eH (line:Int):∀ (x:Int) (A:List Wb.Array),(bZ line x A).length=A.length
 | _,[]=>rfl
 | x,a::r=>by simp [bZ,eH line _ r]
theorem lW {line x:Int} (hl:1≤line):x≤ca line x∧ca line x<x+line:=by
 have h1:=Int.emod_nonneg (-x) (show line≠0 by omega)
 have h2:=Int.emod_lt_of_pos (-x) (show 0<line by omega)
 unfold ca; omega
theorem nn {line x:Int} (hl:1≤line) (hx:x.tmod line≠0):ca line (x+1)=ca line x∧((-(x+1)) % line).toNat<((-x) % line).toNat:=by
 have hne:(-x) % line≠0:=fun h=>by
  have h2:line ∣ -x:=Int.dvd_of_emod_eq_zero h
  exact hx (Int.tmod_eq_zero_of_dvd ((Int.dvd_neg).1 h2))
 have h1:=Int.emod_nonneg (-x) (show line≠0 by omega)
 have h2:=Int.emod_lt_of_pos (-x) (show 0<line by omega)
 have h3:(-(x+1)) % line=(-x) % line-1:=by
  have e:-(x+1)=((-x) % line-1)+line*((-x) / line):=by
   have:=Int.emod_add_mul_ediv (-x) line
   omega
  rw [e,Int.add_mul_emod_self_left]
  exact Int.emod_eq_of_lt (by omega) (by omega)
 unfold ca
 rw [h3]
 omega
theorem rM {line x:Int} (hx:x.tmod line=0):ca line x=x:=by
 have:line ∣ x:=Int.dvd_of_tmod_eq_zero hx
 have h2:(-x) % line=0:=Int.emod_eq_zero_of_dvd ((Int.dvd_neg).2 this)
 unfold ca; omega
theorem rN {line x:Int} (hl:1≤line) (hx:0≤x):(x+line-1).tdiv line*line=ca line x:=by
 rw [Int.tdiv_eq_ediv_of_nonneg (by omega)]
 have h1:=Int.emod_add_mul_ediv (x+line-1) line
 have h2:=Int.emod_add_mul_ediv (-x) line
 have a1:=Int.emod_nonneg (x+line-1) (show line≠0 by omega)
 have a2:=Int.emod_lt_of_pos (x+line-1) (show 0<line by omega)
 have b1:=Int.emod_nonneg (-x) (show line≠0 by omega)
 have b2:=Int.emod_lt_of_pos (-x) (show 0<line by omega)
 unfold ca
 have e:(x+line-1) / line = -((-x) / line):=by
  have h3:(x+line-1)=(line-1-(-x) % line)+line*(-((-x) / line)):=by
   rw [Int.mul_neg]; omega
  rw [h3,Int.add_mul_ediv_left _ _ (by omega),Int.ediv_eq_zero_of_lt (by omega) (by omega)]
  omega
 rw [e,Int.neg_mul,Int.mul_comm]
 omega
def bu (A:List Wb.Array) (last:ByteArray):List Pl→Int
 | []=>0
 | x::xs=>if bP x.key=false then 5 else if sle x.key last=true then 7 else if bh A x.key<0 then 8 else if ¬(0≤x.start∧x.start≤1000000) then 1 else bu A x.key xs
def lA (A:List Wb.Array) (key:ByteArray):Int:=match A[(bh A key).toNat]? with | some a=>ba a.sizes | none=>0
def dt (A:List Wb.Array) (x y:Pl):Bool:=decide (x.start<y.start+lA A y.key)&&decide (y.start<x.start+lA A x.key)
def cz (A:List Wb.Array):List Pl→List Pl→Bool
 | _,[]=>false
 | d,x::xs=>d.any (dt A x)||cz A (d++[x]) xs
def aL (A:List Wb.Array) (l:List Pl):Int:=
 if bu A ⟨#[]⟩ l=0 then if l.length≠A.length then 3 else if cz A [] l=true then 13 else 0 else bu A ⟨#[]⟩ l
def dw:List Int→Int→Int
 | [],_=>0
 | s::r,n=>n % s*r.foldr (·*·) 1+dw r (n / s)
def eF:List Int→Int→List Int
 | [],_=>[]
 | s::r,n=>n % s::eF r (n / s)
def eu:List Int→List Int→Int→Int
 | s::r,d::ds,acc=>eu r ds (acc*s+d)
 | _,_,acc=>acc
theorem lQ:∀ (r:List Int) (n acc:Int),eu r (eF r n) acc=acc*r.foldr (·*·) 1+dw r n
 | [],n,acc=>by simp [eu,eF,dw]
 | s::r,n,acc=>by
  simp only [eu,eF,dw,List.foldr_cons,lQ r (n / s)]
  rw [Int.add_mul,Int.mul_assoc]; omega
end Go.Proofs.YtjhogglgkjcacaaGreat
set_option maxRecDepth 20000
set_option maxHeartbeats 4000000
namespace Go.Proofs.YtjhogglgkjcacaaGreat
open Go.AM Go.Wb
theorem qW (x y:Pl) (s:St):ACalls Pg Fn65.n [.agg x.cells,.agg y.cells] s fun av s'=>av=.int (Lib.compareBytes (bs x.key) (bs y.key))∧s'.h=s.h:=by
 refine Fn65.calls .frz ?_
 unfold Fn65.ac
 have hne:¬s.c=s.c+1:=by omega
 simp [Pl.cells,hne]
 refine ACalls.pure (nL _ _) fun c1 hc1=>?_
 simp
theorem tw (x y:Pl) (s:St):ACalls Pg Fn148.n [.agg x.cells,.agg y.cells] s fun av s'=>av=.int (Lib.compareBytes (bs x.key) (bs y.key))∧s'.h=s.h:=by
 refine Fn148.calls .frz ?_
 unfold Fn148.ac
 have hne:¬s.c=s.c+1:=by omega
 simp [Pl.cells,hne]
 refine ACalls.pure (nL _ _) fun c1 hc1=>?_
 simp
theorem nV {f:Nat} (hf:∀ (x y:Pl) (s:St),ACalls Pg f [.agg x.cells,.agg y.cells] s fun av s'=>av=.int (Lib.compareBytes (bs x.key) (bs y.key))∧s'.h=s.h) (l:List Pl):nJ f tlt (l.map Pl.cells):=by
 intro x hx y hy h' c'
 obtain ⟨p,_,rfl⟩:=List.mem_map.1 hx
 obtain ⟨q,_,rfl⟩:=List.mem_map.1 hy
 refine (hf p q ⟨h',c'⟩).mono fun r s' _ hr=>?_
 exact ⟨⟨_,hr.1,rfl⟩,hr.2⟩
def cU (line:Int) (A:List Wb.Array):List (List AV):=fm tlt ((bZ line 0 A).map Pl.cells)
theorem fR (line:Int) (A:List Wb.Array):∃ L:List Pl,cU line A=L.map Pl.cells∧L.Perm (bZ line 0 A):=tc (nf tlt _)
theorem ry {line y:Int} (h1:1≤line) (h2:line≤64) (h0:0≤y) (h3:y≤1000000):y≤ca line y∧ca line y≤y+64:=by
 have:=lW (line:=line) (x:=y) h1
 omega
theorem vx (p:Wb.Prog) (hA:p.arrays.length≤12) (hok:∀ a∈p.arrays,OkArray a) (line:Int) (hl1:1≤line) (hl2:line≤64) (h0:Heap) (c0:Nat) :
  ACalls Pg Fn14.n [p.av,.int line] ⟨h0,c0⟩ fun av s'=>∃ g,av=.row g 3 0 p.arrays.length∧c0≤g∧g<s'.c∧s'.h g=some (.row 3 (cU line p.arrays) .live none)∧Fr c0 h0 s'.h s'.c:=by
 refine Fn14.calls .keep ?_
 unfold Fn14.ac
 obtain ⟨hb,hhb⟩:∃ hb,hb=upd (upd h0 c0 (some (.row 2 [[row (p.arrays.map Array.cells),row (p.steps.map Step.cells)]] .live none))) (c0+1) (some (.row 3 [] .live none)):=⟨_,rfl⟩
 have hFb:Fr c0 h0 hb (c0+1+1):=by rw [hhb]; exact ((Fr.refl _ _).upd (Nat.le_refl _) (Nat.le_succ _)).upd (by omega) (Nat.le_succ _)
 have bx:hb c0=_:=(congrFun hhb c0).trans (by rw [ad (by omega),ah])
 have br:hb (c0+1)=_:=(congrFun hhb (c0+1)).trans ah
 simp [Prog.av,←hhb,bx]
 obtain ⟨Inv,hInv⟩:∃ Inv:Nat→List Wb.Array→Slots→St→Prop,Inv=fun i r sl s'=>∃ (g:Nat) (y:Int),sl 5=.row g 3 0 i∧c0<g∧g<s'.c∧s'.h g=some (.row 3 ((bZ line 0 (p.arrays.take i)).map Pl.cells) .live none)∧sl 6=.int y∧(∀ B,bZ line 0 (p.arrays.take i++B)=bZ line 0 (p.arrays.take i)++bZ line y B) ∧
  0≤y∧y≤30000*i∧Fr c0 h0 s'.h s'.c:=⟨_,rfl⟩
 refine bq 12 Fn14.W0 p.arrays Inv (by rfl) (by rfl) ?_ ?_ ?_
 ·rw [hInv]
  exact ⟨by simp,c0+1,0,by simp,Nat.lt_succ_self _,Nat.lt_succ_self _,by simpa [bZ] using br,by simp,by simp [bZ],by omega,by omega,hFb⟩
 ·intro v s' hv hI
  rw [hInv,List.take_length] at hI
  obtain ⟨g,y,h5,i1,i2,i3,i4,i5,i6,i7,i9⟩:=hI
  obtain ⟨h,c⟩:=s'
  simp at h5
  simp only at i2 i3 i9
  have hpl:((bZ line 0 p.arrays).map Pl.cells).length=p.arrays.length:=by simp [eH]
  simp [hv,h5]
  have hso:=eV ((bZ line 0 p.arrays).map Pl.cells) (by omega) (pj _) Fn65.n tlt g h c i3 i2 (nV qW _)
  rw [hpl] at hso
  refine hso.mono ?_
  rintro av ⟨h2,c2⟩ hc2 ⟨q1,q2⟩
  simp only at hc2 q1 q2
  simp
  refine ⟨g,?_⟩
  exact ⟨h5,by omega,by have:=i9.c; omega,q1,⟨by have:=i9.c; show c0≤c2; omega,fun k hk=>(q2 k (by omega)).trans (i9.h k hk)⟩⟩
 ·intro i a as' v s' hi ha hl3 hv hI
  rw [hInv] at hI
  obtain ⟨g,y,h5,i1,i2,i3,i4,i5,i6,i7,i9⟩:=hI
  obtain ⟨h,c⟩:=s'
  simp at h5 i4
  simp only at i2 i3 i9
  have hcc:=i9.c
  have hw1:=ae (x:=(i:Int)+1) (by omega) (by omega)
  have ts:p.arrays.take (i+1)=p.arrays.take i++[a]:=by rw [List.take_add_one,List.getElem?_eq_getElem hi,ha]; rfl
  have hao:=hok a (ha▸List.getElem_mem hi)
  have hno:=ry hl1 hl2 i6 (by omega)
  obtain ⟨h1,hh1⟩:∃ h1,h1=upd h c (some (.row 2 [[.str a.key,row (ak a.sizes)]] .live none)):=⟨_,rfl⟩
  have hF1:Fr c0 h0 h1 (c+1):=by rw [hh1]; exact i9.upd hcc (Nat.le_succ _)
  have b1:h1 c=_:=(congrFun hh1 c).trans ah
  have g1:h1 g=some (.row 3 ((bZ line 0 (p.arrays.take i)).map Pl.cells) .live none):=by rw [hh1,ad (by omega)]; exact i3
  simp [hv,hi,ha,Array.cells]
  rw [←hh1]
  obtain ⟨Inv1,hInv1⟩:∃ Inv1:Nat→Slots→St→Prop,Inv1=fun n sl s'=>∃ z:Int,sl 6=.int z∧s'=⟨h1,c+1⟩∧ca line z=ca line y∧0≤z∧z≤ca line y∧n=((-z) % line).toNat:=⟨_,rfl⟩
  refine co Fn14.W1 (by rfl) Inv1 ((-y) % line).toNat ?_ ?_
  ·rw [hInv1]; exact ⟨y,by simp [i4],rfl,rfl,i6,hno.1,rfl⟩
  ·intro n v1 s1 hI1
   rw [hInv1] at hI1
   obtain ⟨z,j1,rfl,j2,j3,j4,j5⟩:=hI1
   simp at j1
   have hl0:¬line=0:=by omega
   by_cases hz:z.tmod line=0
   ·have hzy:z=ca line y:=(rM hz).symm.trans j2
    rw [hzy] at hz
    have hcel:=nK a hao
    simp only [Array.cells] at hcel
    have hw2:IntKind.i64.wrap (ca line y+ba a.sizes)=ca line y+ba a.sizes:=ae (by have:=dY a.sizes (fun z hz=>(hao.sizes z hz).1); unfold ba; omega) (by have:=hao.cells; omega)
    have hlen:((bZ line 0 (p.arrays.take i)).map Pl.cells).length=i:=by simp [eH]; omega
    have hap:apI 3 32 .plain (.row g 3 0 i) (.sl [[.str a.key,.int (ca line y),.bool false]] true) ⟨h1,c+1⟩=_:=bV (by decide) g1 hlen (by decide) (by decide) (by decide) rfl (by omega)
    obtain ⟨h2,hh2⟩:∃ h2,h2=upd (upd h1 g none) (c+1) (some (.row 3 ((bZ line 0 (p.arrays.take i)).map Pl.cells++[[.str a.key,.int (ca line y),.bool false]]) .live none)):=⟨_,rfl⟩
    have hF2:Fr c0 h0 h2 (c+1+1):=by rw [hh2]; exact (hF1.upd (by omega) (Nat.le_refl _)).upd (by omega) (Nat.le_succ _)
    have b2:h2 c=_:=(congrFun hh2 c).trans (by rw [ad (by omega),ad (by omega),b1])
    have g2:h2 (c+1)=_:=(congrFun hh2 (c+1)).trans ah
    simp [j1,hl0,hz,hv,h5,g1,b1,hzy,aM,aw,bsI,hap,←hh2,b2]
    refine ACalls.pure hcel fun c4 hc4=>?_
    simp [j1,hl0,hz,hv,h5,hw1,hw2,hzy]
    rw [hInv]
    refine ⟨c+1,ca line y+ba a.sizes,by simp,by omega,by show c+1<c4; omega,?_,by simp,?_,(by have:=dY a.sizes (fun z hz=>(hao.sizes z hz).1); unfold ba; omega),?_,hF2.trans (Fr.le hc4)⟩
    ·show h2 (c+1)=_
     rw [g2,ts,i5 [a]]; simp [bZ,Pl.cells]
    ·intro B
     rw [ts,List.append_assoc,List.singleton_append,i5,i5 [a]]; simp [bZ]
    ·have:=hao.cells; omega
   ·have hst:=nn hl1 hz
    have hw2:IntKind.i64.wrap (z+1)=z+1:=ae (by omega) (by omega)
    simp [j1,hl0,hz,hw2]
    refine ⟨_,by rw [j5]; exact hst.2,?_⟩
    rw [hInv1]
    exact ⟨z+1,by simp,rfl,hst.1.trans j2,by omega,by have:=lW (line:=line) (x:=z+1) hl1; omega,rfl⟩
theorem vG (p:Wb.Prog) (hA:p.arrays.length≤12) (hok:∀ a∈p.arrays,OkArray a) (line:Int) (hl1:1≤line) (hl2:line≤64) (h0:Heap) (c0:Nat) :
  ACalls Pg Fn61.n [p.av,.int line] ⟨h0,c0⟩ fun av s'=>∃ g,av=.row g 3 0 p.arrays.length∧c0≤g∧g<s'.c∧s'.h g=some (.row 3 (cU line p.arrays) .live none)∧Fr c0 h0 s'.h s'.c:=by
 refine Fn61.calls .keep ?_
 unfold Fn61.ac
 obtain ⟨hb,hhb⟩:∃ hb,hb=upd (upd h0 c0 (some (.row 2 [[row (p.arrays.map Array.cells),row (p.steps.map Step.cells)]] .live none))) (c0+1) (some (.row 3 [] .live none)):=⟨_,rfl⟩
 have hFb:Fr c0 h0 hb (c0+1+1):=by rw [hhb]; exact ((Fr.refl _ _).upd (Nat.le_refl _) (Nat.le_succ _)).upd (by omega) (Nat.le_succ _)
 have bx:hb c0=_:=(congrFun hhb c0).trans (by rw [ad (by omega),ah])
 have br:hb (c0+1)=_:=(congrFun hhb (c0+1)).trans ah
 simp [Prog.av,←hhb,bx]
 obtain ⟨Inv,hInv⟩:∃ Inv:Nat→List Wb.Array→Slots→St→Prop,Inv=fun i r sl s'=>∃ (g:Nat) (y:Int),sl 5=.row g 3 0 i∧c0<g∧g<s'.c∧s'.h g=some (.row 3 ((bZ line 0 (p.arrays.take i)).map Pl.cells) .live none)∧sl 6=.int y∧(∀ B,bZ line 0 (p.arrays.take i++B)=bZ line 0 (p.arrays.take i)++bZ line y B) ∧
  0≤y∧y≤30000*i∧Fr c0 h0 s'.h s'.c:=⟨_,rfl⟩
 refine bq 12 Fn61.W0 p.arrays Inv (by rfl) (by rfl) ?_ ?_ ?_
 ·rw [hInv]
  exact ⟨by simp,c0+1,0,by simp,Nat.lt_succ_self _,Nat.lt_succ_self _,by simpa [bZ] using br,by simp,by simp [bZ],by omega,by omega,hFb⟩
 ·intro v s' hv hI
  rw [hInv,List.take_length] at hI
  obtain ⟨g,y,h5,i1,i2,i3,i4,i5,i6,i7,i9⟩:=hI
  obtain ⟨h,c⟩:=s'
  simp at h5
  simp only at i2 i3 i9
  have hpl:((bZ line 0 p.arrays).map Pl.cells).length=p.arrays.length:=by simp [eH]
  simp [hv,h5]
  have hso:=eV ((bZ line 0 p.arrays).map Pl.cells) (by omega) (pj _) Fn148.n tlt g h c i3 i2 (nV tw _)
  rw [hpl] at hso
  refine hso.mono ?_
  rintro av ⟨h2,c2⟩ hc2 ⟨q1,q2⟩
  simp only at hc2 q1 q2
  simp
  refine ⟨g,?_⟩
  exact ⟨h5,by omega,by have:=i9.c; omega,q1,⟨by have:=i9.c; show c0≤c2; omega,fun k hk=>(q2 k (by omega)).trans (i9.h k hk)⟩⟩
 ·intro i a as' v s' hi ha hl3 hv hI
  rw [hInv] at hI
  obtain ⟨g,y,h5,i1,i2,i3,i4,i5,i6,i7,i9⟩:=hI
  obtain ⟨h,c⟩:=s'
  simp at h5 i4
  simp only at i2 i3 i9
  have hcc:=i9.c
  have hw1:=ae (x:=(i:Int)+1) (by omega) (by omega)
  have ts:p.arrays.take (i+1)=p.arrays.take i++[a]:=by rw [List.take_add_one,List.getElem?_eq_getElem hi,ha]; rfl
  have hao:=hok a (ha▸List.getElem_mem hi)
  have hno:=ry hl1 hl2 i6 (by omega)
  obtain ⟨h1,hh1⟩:∃ h1,h1=upd h c (some (.row 2 [[.str a.key,row (ak a.sizes)]] .live none)):=⟨_,rfl⟩
  have hF1:Fr c0 h0 h1 (c+1):=by rw [hh1]; exact i9.upd hcc (Nat.le_succ _)
  have b1:h1 c=_:=(congrFun hh1 c).trans ah
  have g1:h1 g=some (.row 3 ((bZ line 0 (p.arrays.take i)).map Pl.cells) .live none):=by rw [hh1,ad (by omega)]; exact i3
  simp [hv,hi,ha,Array.cells]
  rw [←hh1]
  have hl0:¬line=0:=by omega
  have hw3:IntKind.i64.wrap (y+line)=y+line:=ae (by omega) (by omega)
  have hw4:IntKind.i64.wrap (y+line-1)=y+line-1:=ae (by omega) (by omega)
  have hq:=rN (line:=line) (x:=y) hl1 i6
  have hq0:0≤(y+line-1).tdiv line:=Int.tdiv_nonneg (by omega) (by omega)
  have hq1:=Int.mul_le_mul_of_nonneg_left hl1 hq0
  have hw6:IntKind.i64.wrap ((y+line-1).tdiv line)=(y+line-1).tdiv line:=ae (by omega) (by omega)
  have hw5:IntKind.i64.wrap (ca line y)=ca line y:=ae (by omega) (by omega)
  have hcel:=jE a hao
  simp only [Array.cells] at hcel
  have hw2:IntKind.i64.wrap (ca line y+ba a.sizes)=ca line y+ba a.sizes:=ae (by have:=dY a.sizes (fun z hz=>(hao.sizes z hz).1); unfold ba; omega) (by have:=hao.cells; omega)
  have hlen:((bZ line 0 (p.arrays.take i)).map Pl.cells).length=i:=by simp [eH]; omega
  have hap:apI 3 32 .plain (.row g 3 0 i) (.sl [[.str a.key,.int (ca line y),.bool false]] true) ⟨h1,c+1⟩=_:=bV (by decide) g1 hlen (by decide) (by decide) (by decide) rfl (by omega)
  obtain ⟨h2,hh2⟩:∃ h2,h2=upd (upd h1 g none) (c+1) (some (.row 3 ((bZ line 0 (p.arrays.take i)).map Pl.cells++[[.str a.key,.int (ca line y),.bool false]]) .live none)):=⟨_,rfl⟩
  have hF2:Fr c0 h0 h2 (c+1+1):=by rw [hh2]; exact (hF1.upd (by omega) (Nat.le_refl _)).upd (by omega) (Nat.le_succ _)
  have b2:h2 c=_:=(congrFun hh2 c).trans (by rw [ad (by omega),ad (by omega),b1])
  have g2:h2 (c+1)=_:=(congrFun hh2 (c+1)).trans ah
  simp [hl0,hw3,hw4,hq,hw5,hw6,i4,hv,h5,g1,b1,aM,aw,bsI,hap,←hh2,b2]
  refine ACalls.pure hcel fun c4 hc4=>?_
  simp [hl0,hv,h5,hw1,hw2]
  rw [hInv]
  refine ⟨c+1,ca line y+ba a.sizes,by simp,by omega,by show c+1<c4; omega,?_,by simp,?_,(by have:=dY a.sizes (fun z hz=>(hao.sizes z hz).1); unfold ba; omega),?_,hF2.trans (Fr.le hc4)⟩
  ·show h2 (c+1)=_
   rw [g2,ts,i5 [a]]; simp [bZ,Pl.cells]
  ·intro B
   rw [ts,List.append_assoc,List.singleton_append,i5,i5 [a]]; simp [bZ]
  ·have:=hao.cells; omega
end Go.Proofs.YtjhogglgkjcacaaGreat
set_option maxRecDepth 20000
set_option maxHeartbeats 4000000
namespace Go.Proofs.YtjhogglgkjcacaaGreat
open Go.AM Go.Wb
theorem gF {A:List Wb.Array}:∀ {l:List Pl} {last:ByteArray},bu A last l=0→∀ x∈l,bP x.key=true∧0≤bh A x.key∧0≤x.start∧x.start≤1000000
 | [],_,_,x,hx=>by cases hx
 | y::l,last,h,x,hx=>by
  simp only [bu] at h
  split at h
  ·cases h
  ·rename_i h1
   split at h
   ·cases h
   ·split at h
    ·cases h
    ·rename_i h3
     split at h
     ·cases h
     ·rename_i h4
      rcases List.mem_cons.1 hx with rfl | hx
      ·exact ⟨by simpa using h1,by omega,by omega,by omega⟩
      ·exact gF h x hx
theorem hJ {A:List Wb.Array} (hA:∀ a∈A,OkArray a) {key:ByteArray} (h:0≤bh A key):∃ (i:Nat) (a:Wb.Array),bh A key=i∧A[i]?=some a∧OkArray a∧lA A key=ba a.sizes∧1≤ba a.sizes∧ba a.sizes≤20000∧a.key=key:=by
 obtain ⟨i,a,hi,h3,h4,h5,h6⟩:=eE (A:=A) (key:=key) (by omega)
 have hx:A[i]?=some a:=by rw [List.getElem?_eq_getElem hi,h4]
 have ha:=hA a (List.mem_of_getElem? hx)
 refine ⟨i,a,h3,hx,ha,?_,dY _ fun z hz=>(ha.sizes z hz).1,ha.cells,h5⟩
 unfold lA
 rw [h3]; simp [hx]
theorem qX (p:Wb.Prog) (hA:∀ a∈p.arrays,OkArray a) (l:List Pl):aO Pg Fn73.n [p.av,row (l.map Pl.cells)] (.int (aL p.arrays l)):=by
 rintro ⟨h0,c0⟩
 refine ACalls.small fun hs=>?_
 have hlen:l.length≤68719476736:=by simp at hs; omega
 have hta:=fun key=>ma p key
 simp only [Prog.av] at hta
 refine Fn73.calls .frz ?_
 unfold Fn73.ac
 obtain ⟨hb,hhb⟩:∃ hb,hb=upd h0 c0 (some (.row 2 [[row (p.arrays.map Array.cells),row (p.steps.map Step.cells)]] .live none)):=⟨_,rfl⟩
 have hFb:Fr c0 h0 hb (c0+1):=by rw [hhb]; exact (Fr.refl _ _).upd (Nat.le_refl _) (Nat.le_succ _)
 have bx:hb c0=_:=(congrFun hhb c0).trans ah
 simp [Prog.av,←hhb]
 refine aX 15 Fn73.W0 l (fun i r sl s'=>∃ last,bu p.arrays ⟨#[]⟩ l=bu p.arrays last r∧(i=0→last=⟨#[]⟩)∧∀ t,0<i→l[i-1]?=some t→t.key=last) (by rfl) (by rfl) ?_ ?_ ?_
 ·simp
 ·intro v h c hv hF hI
  obtain ⟨last,hI,_⟩:=hI
  simp only [bu] at hI
  have bx2:=(hF.h c0 (by omega)).trans bx
  have hok:=gF hI
  simp [hv,bx2]
  by_cases hll:l.length=p.arrays.length
  case neg=>
   have hll':¬(l.length:Int)=p.arrays.length:=by omega
   simp [hll,hll',aL,hI]
   exact (hFb.trans hF).retH
  simp [hll]
  obtain ⟨Inv,hInv⟩:∃ Inv:Nat→List Pl→Slots→St→Prop,Inv=fun i r sl s'=>cz p.arrays [] l=cz p.arrays (l.take i) r:=⟨_,rfl⟩
  refine aX 59 Fn73.W1 l Inv (by rfl) (by rfl) ?_ ?_ ?_
  ·rw [hInv]; exact ⟨by simp [hll],by simp⟩
  ·intro v1 h1 c1 hv1 hF1 hI1
   rw [hInv] at hI1
   simp only [cz] at hI1
   rw [hll] at hv1
   simp [hv1,aL,hI,hll,hI1]
   exact ((hFb.trans hF).trans hF1).retH
  ·intro i x xs v1 h1 c1 hi hx hl hv1 hF1 hI1
   rw [hInv] at hI1
   have hw:=ae (x:=(i:Int)+1) (by omega) (by omega)
   have hc1:=hF1.c
   have hc0:=hF.c
   obtain ⟨_,hx1,hx2,hx3⟩:=hok x (aR hl)
   obtain ⟨j,a,j1,j2,ha,j4,j5,j6,j7⟩:=hJ hA hx1
   obtain ⟨hjl,hje⟩:=List.getElem?_eq_some_iff.1 j2
   obtain ⟨h2,hh2⟩:∃ h2,h2=upd h1 c1 (some (.row 3 [[.str x.key,.int x.start,.bool x.turned]] .live none)):=⟨_,rfl⟩
   have hF2:Fr c h h2 (c1+1):=by rw [hh2]; exact hF1.upd hc1 (Nat.le_succ _)
   have b2:h2 c1=_:=(congrFun hh2 c1).trans ah
   have bx3:=(hF2.h c0 (by omega)).trans bx2
   have htx:=hta x.key
   rw [j1] at htx
   have hcx:=jE a ha
   simp only [Array.cells] at hcx
   have hja:(p.arrays.map Array.cells)[j]?=some [.str a.key,row (ak a.sizes)]:=by simp [hjl,hje,Array.cells]
   have hi':i<p.arrays.length:=by omega
   simp [hv1,hi,hi',hx,Pl.cells,←hh2,bx3,b2]
   refine ACalls.pure htx fun c2 hc2=>?_
   simp [bx3,hja,hjl,hje,Array.cells]
   refine ACalls.pure hcx fun c3 hc3=>?_
   have htk:=mJ (sz:=3) (n:=i) (es:=l.map Pl.cells) (full:=false) (by simp; omega) (fun e he=>by obtain ⟨t,_,rfl⟩:=List.mem_map.1 he; rfl)
   have hmin:min i l.length=i:=by omega
   simp [htk,←List.map_take,hmin]
   have hF3:Fr c h h2 c3:=hF2.trans (Fr.le (by omega))
   obtain ⟨Inv2,hInv2⟩:∃ Inv:Nat→List Pl→Slots→St→Prop,Inv=fun k r sl s'=>(l.take i).any (dt p.arrays x)=r.any (dt p.arrays x):=⟨_,rfl⟩
   have htl:(l.take i).length=i:=by rw [List.length_take]; omega
   refine aX 77 Fn73.W2 (l.take i) Inv2 (by rfl) (by rfl) ?_ ?_ ?_
   ·rw [hInv2]; exact ⟨by simp,rfl⟩
   ·intro v2 h4 c4 hv2 hF4 hI2
    rw [hInv2] at hI2
    rw [htl] at hv2
    simp only [List.any_nil] at hI2
    simp [hv2,hv1,hw]
    refine ⟨hF3.trans hF4,?_⟩
    rw [hInv]
    have ts:l.take (i+1)=l.take i++[x]:=by rw [List.take_add_one,List.getElem?_eq_getElem hi,hx]; rfl
    show cz p.arrays [] l=cz p.arrays (l.take (i+1)) xs
    rw [hI1,ts]; simp [cz,hI2]
   ·intro k y ys v2 h4 c4 hk hy hl4 hv2 hF4 hI2
    rw [hInv2] at hI2
    have hw9:=ae (x:=(k:Int)+1) (by omega) (by omega)
    have hyl:y∈l:=List.mem_of_mem_take (aR hl4)
    obtain ⟨_,hy1,hy2,hy3⟩:=hok y hyl
    obtain ⟨j',a',j1',j2',ha',j4',j5',j6',j7'⟩:=hJ hA hy1
    obtain ⟨hjl',hje'⟩:=List.getElem?_eq_some_iff.1 j2'
    obtain ⟨h5,hh5⟩:∃ h5,h5=upd h4 c4 (some (.row 3 [[.str y.key,.int y.start,.bool y.turned]] .live none)):=⟨_,rfl⟩
    have hF5:Fr c3 h2 h5 (c4+1):=by rw [hh5]; exact hF4.upd hF4.c (Nat.le_succ _)
    have b5:h5 c4=_:=(congrFun hh5 c4).trans ah
    have hF6:Fr c h h5 (c4+1):=hF3.trans hF5
    have bx5:=(hF6.h c0 (by omega)).trans bx2
    have b6:h5 c1=_:=(hF5.h c1 (by omega)).trans b2
    have hty:=hta y.key
    rw [j1'] at hty
    have hcy:=jE a' ha'
    simp only [Array.cells] at hcy
    have hja':(p.arrays.map Array.cells)[j']?=some [.str a'.key,row (ak a'.sizes)]:=by simp [hjl',hje',Array.cells]
    have hki:k<i:=by omega
    have hkl:l[k]?=some y:=by rw [List.getElem_take] at hy; rw [List.getElem?_eq_getElem (by omega),hy]
    have hw7:IntKind.i64.wrap (y.start+ba a'.sizes)=y.start+ba a'.sizes:=ae (by omega) (by omega)
    have hw8:IntKind.i64.wrap (x.start+ba a.sizes)=x.start+ba a.sizes:=ae (by omega) (by omega)
    simp [hv2,hki,hkl,Pl.cells,←hh5,bx5,b5]
    refine ACalls.pure hty fun c6 hc6=>?_
    simp [bx5,hja',hjl',hje',Array.cells]
    refine ACalls.pure hcy fun c7 hc7=>?_
    have hm:dt p.arrays x y=(decide (x.start<y.start+ba a'.sizes)&&decide (y.start<x.start+ba a.sizes)):=by unfold dt; rw [j4,j4']
    have hcont:dt p.arrays x y=false→Fr c3 h2 h5 c7∧Inv2 (k+1) ys (fun _=>.nil) ⟨h5,c7⟩:=fun hf=>by
     refine ⟨hF5.trans (Fr.le (by omega)),?_⟩
     rw [hInv2]
     show (l.take i).any (dt p.arrays x)=ys.any (dt p.arrays x)
     rw [hI2]; simp [hf]
    rw [hInv2] at hcont
    have hmt:dt p.arrays x y=true→aL p.arrays l=13:=fun hf=>by
     have:(l.take i).any (dt p.arrays x)=true:=by rw [hI2]; simp [hf]
     unfold aL
     rw [if_pos hI,if_neg (by omega),if_pos (by rw [hI1]; simp only [cz,this,Bool.true_or])]
    by_cases m1:x.start<y.start+ba a'.sizes
    ·by_cases m2:y.start<x.start+ba a.sizes
     ·simp [b5,b6,hw7,hw8,m1,m2,hmt (by rw [hm]; simp [m1,m2])]
      exact ((hFb.trans hF).trans hF6).retH
     ·have:=hcont (by rw [hm]; simp [m1,m2])
      simp [b5,b6,hw7,hw8,m1,m2,hv2,hw9,this.1]
      rw [hInv2]; exact this.2
    ·have:=hcont (by rw [hm]; simp [m1])
     simp [b5,b6,hw7,hw8,m1,hv2,hw9,this.1]
     rw [hInv2]; exact this.2
 ·intro i t ts v h c hi hx hl hv hF hI
  obtain ⟨last,hI,hI0,hI1⟩:=hI
  have hw:=ae (x:=(i:Int)+1) (by omega) (by omega)
  have hcc:=hF.c
  obtain ⟨h1,hh1⟩:∃ h1,h1=upd h c (some (.row 3 [[.str t.key,.int t.start,.bool t.turned]] .live none)):=⟨_,rfl⟩
  have hF1:Fr (c0+1) hb h1 (c+1):=by rw [hh1]; exact hF.upd hcc (Nat.le_succ _)
  have hres:retH c0 h0 h1=h0:=(hFb.trans hF1).retH
  have bx1:=(hF1.h c0 (by omega)).trans bx
  have b1:h1 c=_:=(congrFun hh1 c).trans ah
  simp [hv,hi,hx,Pl.cells]
  rw [←hh1]
  refine ACalls.pure (ly t.key) fun c2 hc2=>?_
  cases h3:bP t.key
  ·simp [h3,hI,bu,aL,hres]
  simp
  have hta':=hta t.key
  have hin:=ep t.start 0 1000000
  rcases Nat.eq_zero_or_pos i with h0' | h0'
  ·subst h0'
   have hl0:=hI0 rfl
   have hs0:sle t.key last=false:=by rw [hl0]; exact oO h3
   simp [b1,bx1]
   refine ACalls.pure hta' fun c3 hc3=>?_
   by_cases h5:bh p.arrays t.key<0
   ·simp [h5,hI,bu,h3,hs0,aL,hres]
   simp [h5,b1]
   refine ACalls.pure hin fun c4 hc4=>?_
   by_cases h6:0≤t.start∧t.start≤1000000
   ·simp [h6,hv,hw]
    exact ⟨rfl,hF1.trans (Fr.le (by omega)),by rw [hI]; simp [bu,h3,hs0,h5,h6]⟩
   ·simp [h6,hI,bu,h3,hs0,h5,aL,hres]
  ·have h9:i-1<l.length:=by omega
   have h8:=List.getElem?_eq_getElem h9
   have hk8:=hI1 _ h0' h8
   have hw4:IntKind.i64.wrap ((i:Int)-1)=((i-1:Nat):Int):=by rw [ae (by omega) (by omega)]; omega
   cases hs0:sle t.key last
   ·simp [h0',hw4,h8,hk8,hs0,b1,bx1,Pl.cells]
    refine ACalls.pure hta' fun c3 hc3=>?_
    by_cases h5:bh p.arrays t.key<0
    ·simp [h5,hI,bu,h3,hs0,aL,hres]
    simp [h5,b1]
    refine ACalls.pure hin fun c4 hc4=>?_
    by_cases h6:0≤t.start∧t.start≤1000000
    ·simp [h6,hv,hw]
     exact ⟨hF1.trans (Fr.le (by omega)),by rw [hI]; simp [bu,h3,hs0,h5,h6]⟩
    ·simp [h6,hI,bu,h3,hs0,h5,aL,hres]
   ·simp [h0',hw4,h8,hk8,hs0,b1,hI,bu,h3,aL,hres,Pl.cells]
theorem vy (p:Wb.Prog) (hA:∀ a∈p.arrays,OkArray a) (l:List Pl):aO Pg Fn15.n [p.av,row (l.map Pl.cells)] (.int (aL p.arrays l)):=by
 rintro ⟨h0,c0⟩
 refine ACalls.small fun hs=>?_
 have hlen:l.length≤68719476736:=by simp at hs; omega
 have hta:=fun key=>fZ p key
 simp only [Prog.av] at hta
 refine Fn15.calls .frz ?_
 unfold Fn15.ac
 obtain ⟨hb,hhb⟩:∃ hb,hb=upd h0 c0 (some (.row 2 [[row (p.arrays.map Array.cells),row (p.steps.map Step.cells)]] .live none)):=⟨_,rfl⟩
 have hFb:Fr c0 h0 hb (c0+1):=by rw [hhb]; exact (Fr.refl _ _).upd (Nat.le_refl _) (Nat.le_succ _)
 have bx:hb c0=_:=(congrFun hhb c0).trans ah
 simp [Prog.av,←hhb]
 obtain ⟨Inv0,hInv0⟩:∃ Inv:Nat→List Pl→Slots→St→Prop,Inv=fun i r sl s'=>∃ last,sl 5=.str last∧bu p.arrays ⟨#[]⟩ l=bu p.arrays last r:=⟨_,rfl⟩
 refine aX 16 Fn15.W0 l Inv0 (by rfl) (by rfl) ?_ ?_ ?_
 ·rw [hInv0]; exact ⟨by simp,⟨#[]⟩,by simp,rfl⟩
 ·intro v h c hv hF hI
  rw [hInv0] at hI
  obtain ⟨last,_,hI⟩:=hI
  simp only [bu] at hI
  have bx2:=(hF.h c0 (by omega)).trans bx
  have hok:=gF hI
  simp [hv,bx2]
  by_cases hll:l.length=p.arrays.length
  case neg=>
   have hll':¬(l.length:Int)=p.arrays.length:=by omega
   simp [hll,hll',aL,hI]
   exact (hFb.trans hF).retH
  simp [hll]
  obtain ⟨Inv,hInv⟩:∃ Inv:Nat→List Pl→Slots→St→Prop,Inv=fun i r sl s'=>cz p.arrays [] l=cz p.arrays (l.take i) r:=⟨_,rfl⟩
  refine aX 52 Fn15.W1 l Inv (by rfl) (by rfl) ?_ ?_ ?_
  ·rw [hInv]; exact ⟨by simp [hll],by simp⟩
  ·intro v1 h1 c1 hv1 hF1 hI1
   rw [hInv] at hI1
   simp only [cz] at hI1
   rw [hll] at hv1
   simp [hv1,aL,hI,hll,hI1]
   exact ((hFb.trans hF).trans hF1).retH
  ·intro i x xs v1 h1 c1 hi hx hl hv1 hF1 hI1
   rw [hInv] at hI1
   have hw:=ae (x:=(i:Int)+1) (by omega) (by omega)
   have hc1:=hF1.c
   have hc0:=hF.c
   obtain ⟨_,hx1,hx2,hx3⟩:=hok x (aR hl)
   obtain ⟨j,a,j1,j2,ha,j4,j5,j6,j7⟩:=hJ hA hx1
   obtain ⟨hjl,hje⟩:=List.getElem?_eq_some_iff.1 j2
   obtain ⟨h2,hh2⟩:∃ h2,h2=upd h1 c1 (some (.row 3 [[.str x.key,.int x.start,.bool x.turned]] .live none)):=⟨_,rfl⟩
   have hF2:Fr c h h2 (c1+1):=by rw [hh2]; exact hF1.upd hc1 (Nat.le_succ _)
   have b2:h2 c1=_:=(congrFun hh2 c1).trans ah
   have bx3:=(hF2.h c0 (by omega)).trans bx2
   have htx:=hta x.key
   rw [j1] at htx
   have hcx:=nK a ha
   simp only [Array.cells] at hcx
   have hja:(p.arrays.map Array.cells)[j]?=some [.str a.key,row (ak a.sizes)]:=by simp [hjl,hje,Array.cells]
   have hi':i<p.arrays.length:=by omega
   have htk:=mJ (sz:=3) (n:=i) (es:=l.map Pl.cells) (full:=false) (by simp; omega) (fun e he=>by obtain ⟨t,_,rfl⟩:=List.mem_map.1 he; rfl)
   have hmin:min i l.length=i:=by omega
   simp [hv1,hi,hi',hx,Pl.cells,←hh2,bx3,b2,htk,←List.map_take,hmin]
   have hF3:=hF2
   obtain ⟨Inv2,hInv2⟩:∃ Inv:Nat→List Pl→Slots→St→Prop,Inv=fun k r sl s'=>(l.take i).any (dt p.arrays x)=r.any (dt p.arrays x):=⟨_,rfl⟩
   have htl:(l.take i).length=i:=by rw [List.length_take]; omega
   refine aX 61 Fn15.W2 (l.take i) Inv2 (by rfl) (by rfl) ?_ ?_ ?_
   ·rw [hInv2]; exact ⟨by simp,rfl⟩
   ·intro v2 h4 c4 hv2 hF4 hI2
    rw [hInv2] at hI2
    rw [htl] at hv2
    simp only [List.any_nil] at hI2
    simp [hv2,hv1,hw]
    refine ⟨hF3.trans hF4,?_⟩
    rw [hInv]
    have ts:l.take (i+1)=l.take i++[x]:=by rw [List.take_add_one,List.getElem?_eq_getElem hi,hx]; rfl
    show cz p.arrays [] l=cz p.arrays (l.take (i+1)) xs
    rw [hI1,ts]; simp [cz,hI2]
   ·intro k y ys v2 h4 c4 hk hy hl4 hv2 hF4 hI2
    rw [hInv2] at hI2
    have hw9:=ae (x:=(k:Int)+1) (by omega) (by omega)
    have hyl:y∈l:=List.mem_of_mem_take (aR hl4)
    obtain ⟨_,hy1,hy2,hy3⟩:=hok y hyl
    obtain ⟨j',a',j1',j2',ha',j4',j5',j6',j7'⟩:=hJ hA hy1
    obtain ⟨hjl',hje'⟩:=List.getElem?_eq_some_iff.1 j2'
    obtain ⟨h5,hh5⟩:∃ h5,h5=upd h4 c4 (some (.row 3 [[.str y.key,.int y.start,.bool y.turned]] .live none)):=⟨_,rfl⟩
    have hF5:Fr (c1+1) h2 h5 (c4+1):=by rw [hh5]; exact hF4.upd hF4.c (Nat.le_succ _)
    have b5:h5 c4=_:=(congrFun hh5 c4).trans ah
    have hF6:Fr c h h5 (c4+1):=hF3.trans hF5
    have bx5:=(hF6.h c0 (by omega)).trans bx2
    have b6:h5 c1=_:=(hF5.h c1 (by omega)).trans b2
    have hty:=hta y.key
    rw [j1'] at hty
    have hcy:=nK a' ha'
    simp only [Array.cells] at hcy
    have hja':(p.arrays.map Array.cells)[j']?=some [.str a'.key,row (ak a'.sizes)]:=by simp [hjl',hje',Array.cells]
    have hki:k<i:=by omega
    have hkl:l[k]?=some y:=by rw [List.getElem_take] at hy; rw [List.getElem?_eq_getElem (by omega),hy]
    have hw7:IntKind.i64.wrap (y.start+ba a'.sizes)=y.start+ba a'.sizes:=ae (by omega) (by omega)
    have hw8:IntKind.i64.wrap (x.start+ba a.sizes)=x.start+ba a.sizes:=ae (by omega) (by omega)
    simp [hv2,hki,hkl,Pl.cells,←hh5,bx5,b5,b6]
    refine ACalls.pure htx fun c6 hc6=>?_
    simp [bx5,b5,b6,hja,hjl,hje,Array.cells]
    refine ACalls.pure hcx fun c7 hc7=>?_
    simp [bx5,b5,b6]
    refine ACalls.pure hty fun c8 hc8=>?_
    simp [bx5,b5,b6,hja',hjl',hje',Array.cells]
    refine ACalls.pure hcy fun c9 hc9=>?_
    have hm:dt p.arrays x y=(decide (x.start<y.start+ba a'.sizes)&&decide (y.start<x.start+ba a.sizes)):=by unfold dt; rw [j4,j4']
    have hcont:dt p.arrays x y=false→Fr (c1+1) h2 h5 c9∧Inv2 (k+1) ys (fun _=>.nil) ⟨h5,c9⟩:=fun hf=>by
     refine ⟨hF5.trans (Fr.le (by omega)),?_⟩
     rw [hInv2]
     show (l.take i).any (dt p.arrays x)=ys.any (dt p.arrays x)
     rw [hI2]; simp [hf]
    rw [hInv2] at hcont
    have hmt:dt p.arrays x y=true→aL p.arrays l=13:=fun hf=>by
     have:(l.take i).any (dt p.arrays x)=true:=by rw [hI2]; simp [hf]
     unfold aL
     rw [if_pos hI,if_neg (by omega),if_pos (by rw [hI1]; simp only [cz,this,Bool.true_or])]
    by_cases m1:x.start<y.start+ba a'.sizes
    ·by_cases m2:y.start<x.start+ba a.sizes
     ·simp [b5,b6,hw7,hw8,m1,m2,hmt (by rw [hm]; simp [m1,m2])]
      exact ((hFb.trans hF).trans hF6).retH
     ·have:=hcont (by rw [hm]; simp [m1,m2])
      simp [b5,b6,hw7,hw8,m1,m2,hv2,hw9,this.1]
      rw [hInv2]; exact this.2
    ·have:=hcont (by rw [hm]; simp [m1])
     simp [b5,b6,hw7,hw8,m1,hv2,hw9,this.1]
     rw [hInv2]; exact this.2
 ·intro i t ts v h c hi hx hl hv hF hI
  rw [hInv0] at hI
  obtain ⟨last,hls,hI⟩:=hI
  simp at hls
  have hw:=ae (x:=(i:Int)+1) (by omega) (by omega)
  have hcc:=hF.c
  obtain ⟨h1,hh1⟩:∃ h1,h1=upd h c (some (.row 3 [[.str t.key,.int t.start,.bool t.turned]] .live none)):=⟨_,rfl⟩
  have hF1:Fr (c0+1) hb h1 (c+1):=by rw [hh1]; exact hF.upd hcc (Nat.le_succ _)
  have hres:retH c0 h0 h1=h0:=(hFb.trans hF1).retH
  have bx1:=(hF1.h c0 (by omega)).trans bx
  have b1:h1 c=_:=(congrFun hh1 c).trans ah
  simp [hv,hi,hx,Pl.cells]
  rw [←hh1]
  refine ACalls.pure (jn t.key) fun c2 hc2=>?_
  cases h3:bP t.key
  ·simp [h3,hI,bu,aL,hres]
  simp
  have hta':=hta t.key
  have hin:=ce t.start 0 1000000
  by_cases hs0:sle t.key last=true
  ·simp [hls,hs0,b1,hI,bu,h3,aL,hres]
  simp [hls,hs0,b1,bx1]
  refine ACalls.pure hta' fun c3 hc3=>?_
  by_cases h5:bh p.arrays t.key<0
  ·simp [h5,hI,bu,h3,hs0,aL,hres]
  simp [h5,b1]
  refine ACalls.pure hin fun c4 hc4=>?_
  by_cases h6:0≤t.start∧t.start≤1000000
  ·simp [h6,hv,hw,b1]
   refine ⟨hF1.trans (Fr.le (by omega)),?_⟩
   rw [hInv0]
   exact ⟨t.key,by simp,by rw [hI]; simp [bu,h3,hs0,h5,h6]⟩
  ·simp [h6,hI,bu,h3,hs0,h5,aL,hres]
end Go.Proofs.YtjhogglgkjcacaaGreat
set_option maxRecDepth 20000
set_option maxHeartbeats 4000000
namespace Go.Proofs.YtjhogglgkjcacaaGreat
open Go.AM Go.Wb
def b8 (R:List Int):Int:=R.foldr (·*·) 1
theorem kW:∀ {R:List Int},(∀ z∈R,1≤z)→1≤b8 R
 | [],_=>by simp [b8]
 | z::R,h=>by
  have h1:=h z List.mem_cons_self
  have h2:=kW (R:=R) fun y hy=>h y (List.mem_cons_of_mem _ hy)
  show 1≤z*b8 R
  exact Int.le_trans (by omega) (Int.mul_le_mul h1 h2 (by omega) (by omega))
theorem oG (l:List Int):b8 l.reverse=l.foldl (·*·) 1:=by
 unfold b8
 rw [List.foldr_reverse]
 congr 1
 funext x y; exact Int.mul_comm _ _
theorem fh:∀ {R:List Int} {n:Int},(∀ z∈R,1≤z)→0≤n→0≤dw R n∧dw R n<b8 R
 | [],n,_,_=>by simp [dw,b8]
 | z::R,n,h,hn=>by
  have h1:=h z List.mem_cons_self
  have h3:=fun y hy=>h y (List.mem_cons_of_mem z hy)
  have h2:=kW h3
  have ih:=fh (R:=R) (n:=n / z) h3 (Int.ediv_nonneg hn (by omega))
  have e1:=Int.emod_nonneg n (show z≠0 by omega)
  have e2:=Int.emod_lt_of_pos n (show 0<z by omega)
  show 0≤n % z*b8 R+dw R (n / z)∧n % z*b8 R+dw R (n / z)<z*b8 R
  have e3:0≤n % z*b8 R:=Int.mul_nonneg e1 (by omega)
  have e4:(n % z+1)*b8 R≤z*b8 R:=Int.mul_le_mul_of_nonneg_right (by omega) (by omega)
  rw [Int.add_mul,Int.one_mul] at e4
  omega
theorem rX (z:Int) (R:List Int) (n:Int):dw (z::R) n=n % z*b8 R+dw R (n / z):=rfl
theorem OkArray.rev {a:Wb.Array} (ha:OkArray a):(∀ z∈a.sizes.reverse,1≤z)∧b8 a.sizes.reverse≤20000:=
 ⟨fun z hz=>(ha.sizes z (List.mem_reverse.1 hz)).1,by rw [oG]; exact ha.cells⟩
theorem qn {l:List Int} {j:Nat} (hj:j<l.length):(l.take (j+1)).reverse=l[j]::(l.take j).reverse:=by
 rw [List.take_add_one,List.getElem?_eq_getElem hj]; simp
theorem tS (a:Wb.Array) (ha:OkArray a) (n:Int) (hn:0≤n) (hn2:n<20000):aO Pg Fn216.n [.agg a.cells,.int n] (.int (dw a.sizes.reverse n)):=by
 rintro ⟨h0,c0⟩
 have hl4:=ha.len
 have hcl:=jE a ha
 simp only [Array.cells] at hcl
 obtain ⟨hz1,hz2⟩:=ha.rev
 have htb:=fh hz1 hn
 obtain ⟨T,hT⟩:∃ T,T=dw a.sizes.reverse n:=⟨_,rfl⟩
 rw [←hT] at htb ⊢
 refine Fn216.calls .frz ?_
 unfold Fn216.ac
 obtain ⟨hb,hhb⟩:∃ hb,hb=upd h0 c0 (some (.row 2 [[.str a.key,row (ak a.sizes)]] .live none)):=⟨_,rfl⟩
 have hFb:Fr c0 h0 hb (c0+1):=by rw [hhb]; exact (Fr.refl _ _).upd (Nat.le_refl _) (Nat.le_succ _)
 have bx:hb c0=_:=(congrFun hhb c0).trans ah
 have hw0:IntKind.i64.wrap ((a.sizes.length:Int)-1)=(a.sizes.length:Int)-1:=ae (by omega) (by omega)
 simp [Array.cells,←hhb,bx]
 refine ACalls.pure hcl fun c1 hc1=>?_
 simp [bx,hw0]
 obtain ⟨Inv,hInv⟩:∃ Inv:Nat→Slots→St→Prop,Inv=fun k sl s'=>s'=⟨hb,c1⟩∧k≤a.sizes.length∧b8 (a.sizes.take k).reverse≤20000∧∃ m t:Int,sl 7=.int ((k:Int)-1)∧sl 6=.int (b8 (a.sizes.take k).reverse)∧sl 1=.int m∧sl 5=.int t∧0≤m∧m<20000∧0≤t∧t+dw (a.sizes.take k).reverse m=T:=⟨_,rfl⟩
 refine co Fn216.W0 (by rfl) Inv a.sizes.length ?_ ?_
 ·rw [hInv]
  refine ⟨rfl,Nat.le_refl _,by rw [List.take_length]; exact hz2,n,0,by simp,?_,by simp,by simp,hn,hn2,by omega,?_⟩
  ·rw [List.take_length,oG]; simp [ba]
  ·rw [List.take_length]; omega
 ·intro k v s hI
  rw [hInv] at hI
  obtain ⟨rfl,hk,hpk,m,t,q7,q6,q1,q5,hm,hm2,ht,hT2⟩:=hI
  simp at q7 q6 q1 q5
  rcases Nat.eq_zero_or_pos k with h0k | h0k
  ·subst h0k
   have:t=T:=by simpa [dw] using hT2
   subst this
   simp [q7,q6,q1,q5]
   exact hFb.retH
  ·obtain ⟨j,rfl⟩:∃ j,k=j+1:=⟨k-1,by omega⟩
   have hj:j<a.sizes.length:=by omega
   obtain ⟨z,hz⟩:∃ z,z=a.sizes[j]:=⟨_,rfl⟩
   obtain ⟨R,hR⟩:∃ R,R=(a.sizes.take j).reverse:=⟨_,rfl⟩
   have hrt:=qn hj
   rw [←hz,←hR] at hrt
   rw [hrt] at q6 hT2 hpk
   rw [rX] at hT2
   have hzz:=ha.sizes z (by rw [hz]; exact List.getElem_mem hj)
   have hRz:∀ y∈R,1≤y:=fun y hy=>(ha.sizes y (List.mem_of_mem_take (List.mem_reverse.1 (hR▸hy)))).1
   have hRp:=kW hRz
   have htb2:=fh (R:=R) (n:=m / z) hRz (Int.ediv_nonneg hm (by omega))
   have e1:=Int.emod_nonneg m (show z≠0 by omega)
   have e3:0≤m % z*b8 R:=Int.mul_nonneg e1 (by omega)
   have hq0:(j:Int)+1-1=j:=by omega
   have hzj:(ak a.sizes)[j]?=some [.int z]:=by simp [ak,hj,hz]
   have hcons:b8 (z::R)=z*b8 R:=rfl
   have htd:(z*b8 R).tdiv z=b8 R:=Int.mul_tdiv_cancel_left _ (by omega)
   have htm:m.tmod z=m % z:=Int.tmod_eq_emod_of_nonneg hm
   have htq:m.tdiv z=m / z:=Int.tdiv_eq_ediv_of_nonneg hm
   have hzn:¬z=0:=by omega
   have hdl:m / z≤m:=Int.ediv_le_self _ hm
   have hd0:0≤m / z:=Int.ediv_nonneg hm (by omega)
   rw [hcons] at hpk
   have hR1:=Int.mul_le_mul_of_nonneg_right (c:=b8 R) hzz.1 (by omega)
   have hR2:b8 R≤20000:=by omega
   have w1:IntKind.i64.wrap (b8 R)=b8 R:=ae (by omega) (by omega)
   have w2:IntKind.i64.wrap (m % z*b8 R)=m % z*b8 R:=ae (by omega) (by omega)
   have w3:IntKind.i64.wrap (t+m % z*b8 R)=t+m % z*b8 R:=ae (by omega) (by omega)
   have w4:IntKind.i64.wrap (m / z)=m / z:=ae (by omega) (by omega)
   have w5:IntKind.i64.wrap ((j:Int)-1)=(j:Int)-1:=ae (by omega) (by omega)
   have hnn:¬(j:Int)<0:=by omega
   push_cast at q7
   rw [hq0] at q7
   simp [q7,q6,q1,q5,bx,hj,←hz,hzn,hcons,htd,htm,htq,w1,w2,w3,w4,w5]
   refine ⟨j,by omega,?_⟩
   rw [hInv]
   refine ⟨rfl,by omega,by rw [←hR]; exact hR2,m / z,t+m % z*b8 R,by simp,by simp [←hR],by simp,by simp,hd0,by omega,by omega,by rw [←hR]; omega⟩
theorem qK (z:Int) (R:List Int) (n:Int):eF (z::R) n=n % z::eF R (n / z):=rfl
theorem oe:∀ (R:List Int) (n:Int),(∀ z∈R,1≤z)→0≤n→∀ d∈eF R n,0≤d
 | [],_,_,_,d,h=>by simp [eF] at h
 | z::R,n,h,hn,d,hd=>by
  have h1:=h z List.mem_cons_self
  rcases List.mem_cons.1 hd with rfl | hd
  ·exact Int.emod_nonneg n (by omega)
  ·exact oe R (n / z) (fun y hy=>h y (List.mem_cons_of_mem _ hy)) (Int.ediv_nonneg hn (by omega)) d hd
theorem oq:∀ (R ds:List Int) (acc:Int),(∀ z∈R,1≤z)→(∀ d∈ds,0≤d)→0≤acc→acc≤eu R ds acc
 | [],ds,acc,_,_,_=>by simp [eu]
 | z::R,[],acc,_,_,_=>by simp [eu]
 | z::R,d::ds,acc,h,h2,h3=>by
  have h1:=h z List.mem_cons_self
  have h4:=h2 d List.mem_cons_self
  have h5:acc*1≤acc*z:=Int.mul_le_mul_of_nonneg_left h1 h3
  have:=oq R ds (acc*z+d) (fun y hy=>h y (List.mem_cons_of_mem _ hy)) (fun y hy=>h2 y (List.mem_cons_of_mem _ hy)) (by omega)
  simp only [eu]; omega
def gZ (sizes:List Int) (x:Pl) (n:Int):Int:=x.start+if x.turned then dw sizes.reverse n else n
theorem vL (a:Wb.Array) (ha:OkArray a) (x:Pl) (hx1:0≤x.start) (hx2:x.start≤1000000) (n:Int) (hn:0≤n) (hn2:n<20000):aO Pg Fn72.n [.agg a.cells,.agg x.cells,.int n] (.int (gZ a.sizes x n)):=by
 rintro ⟨h0,c0⟩
 have hl4:=ha.len
 obtain ⟨hz1,hz2⟩:=ha.rev
 have htb:=fh hz1 hn
 have hw0:IntKind.i64.wrap ((a.sizes.length:Int)-1)=(a.sizes.length:Int)-1:=ae (by omega) (by omega)
 refine Fn72.calls .frz ?_
 unfold Fn72.ac
 have hht:=lQ a.sizes.reverse n 0
 rw [Int.zero_mul,Int.zero_add] at hht
 obtain ⟨T,hT⟩:∃ T,T=dw a.sizes.reverse n:=⟨_,rfl⟩
 rw [←hT] at htb hht
 obtain ⟨hb,hhb⟩:∃ hb,hb=upd (upd h0 c0 (some (.row 2 [[.str a.key,row (ak a.sizes)]] .live none))) (c0+1) (some (.row 3 [[.str x.key,.int x.start,.bool x.turned]] .live none)):=⟨_,rfl⟩
 have hFb:Fr c0 h0 hb (c0+1+1):=by rw [hhb]; exact ((Fr.refl _ _).upd (Nat.le_refl _) (Nat.le_succ _)).upd (by omega) (Nat.le_succ _)
 have b0:hb c0=_:=(congrFun hhb c0).trans (by rw [ad (by omega),ah])
 have b1:hb (c0+1)=_:=(congrFun hhb (c0+1)).trans ah
 simp [Array.cells,Pl.cells,←hhb,b1]
 cases ht:x.turned
 ·have hw:IntKind.i64.wrap (x.start+n)=x.start+n:=ae (by omega) (by omega)
  simp [b1,hw,gZ,ht]
  exact hFb.retH
 have hw:IntKind.i64.wrap (x.start+T)=x.start+T:=ae (by omega) (by omega)
 have hap:gZ a.sizes x n=x.start+T:=by simp [gZ,ht,hT]
 obtain ⟨hc,hhc⟩:∃ hc,hc=upd hb (c0+1+1) (some (.row 1 [] .live none)):=⟨_,rfl⟩
 have hFc:Fr c0 h0 hc (c0+1+1+1):=by rw [hhc]; exact hFb.upd (by omega) (Nat.le_succ _)
 have d0:=(congrFun hhc c0).trans ((ad (by omega)).trans b0)
 have d2:hc (c0+1+1)=_:=(congrFun hhc _).trans ah
 rw [ht] at b1
 have d1:=(congrFun hhc (c0+1)).trans ((ad (by omega)).trans b1)
 simp [b0,hw0]
 rw [←hhc]
 simp [d0,hw0]
 obtain ⟨Inv,hInv⟩:∃ Inv:Nat→Slots→St→Prop,Inv=fun k sl s'=>k≤a.sizes.length∧∃ (g:Nat) (m:Int) (D:List Int),sl 7=.row g 1 0 D.length∧c0+1<g∧g<s'.c∧s'.h g=some (.row 1 (ak D) .live none)∧sl 8=.int ((k:Int)-1)∧sl 2=.int m∧0≤m∧D++eF (a.sizes.take k).reverse m=eF a.sizes.reverse n∧D.length+k=a.sizes.length∧m<20000∧(∀ k,k<c0+1+1→s'.h k=hb k):=⟨_,rfl⟩
 refine co Fn72.W0 (by rfl) Inv a.sizes.length ?_ ?_
 ·rw [hInv]
  exact ⟨Nat.le_refl _,c0+1+1,n,[],by simp,by omega,Nat.lt_succ_self _,d2,by simp,by simp,hn,by rw [List.take_length]; rfl,by simp,hn2,fun k hk=>by show hc k=_; rw [hhc,ad (by omega)]⟩
 ·intro k v s hI
  rw [hInv] at hI
  obtain ⟨hk,g,m,D,q7,j1,j2,j3,q8,q2,hm,hD,hDl,hm2,hlow⟩:=hI
  obtain ⟨h,c⟩:=s
  simp at q7 q8 q2
  simp only at j2 j3 hlow
  have f0:=(hlow c0 (by omega)).trans b0
  have f1:=(hlow (c0+1) (by omega)).trans b1
  rcases Nat.eq_zero_or_pos k with h0k | h0k
  ·subst h0k
   simp [eF] at hD
   have hDr:D.length=a.sizes.length:=by omega
   have hDn:∀ d∈D,0≤d:=by rw [hD]; exact oe _ _ hz1 hn
   rw [←hD] at hht
   simp [q7,q8,q2,j3]
   obtain ⟨Inv2,hInv2⟩:∃ Inv:Nat→List Int→Slots→St→Prop,Inv=fun i r sl s'=>∃ acc:Int,sl 9=.int acc∧0≤acc∧eu (a.sizes.reverse.drop i) r acc=T:=⟨_,rfl⟩
   refine aX 46 Fn72.W1 D Inv2 (by rfl) (by rfl) ?_ ?_ ?_
   ·rw [hInv2]; exact ⟨by simp,0,by simp,by omega,by rw [List.drop_zero]; exact hht⟩
   ·intro v2 h2 c2 hv2 hF2 hI2
    rw [hInv2] at hI2
    obtain ⟨acc,r9,r1,r2⟩:=hI2
    have e2:=(hF2.h (c0+1) (by omega)).trans f1
    have r3:acc=T:=by rw [←r2,hDr,←List.length_reverse,List.drop_length]; rfl
    subst r3
    simp at r9
    simp [hv2,r9,e2,hw,hap]
    exact aC fun k hk=>(hF2.h k (by omega)).trans ((hlow k (by omega)).trans (hFb.h k hk))
   ·intro i d ds v2 h2 c2 hi hd hl2 hv2 hF2 hI2
    rw [hInv2] at hI2
    obtain ⟨acc,r9,r1,r2⟩:=hI2
    have e0:=(hF2.h c0 (by omega)).trans f0
    have e3:=(hF2.h g (by omega)).trans j3
    have hil:i<a.sizes.reverse.length:=by simp; omega
    obtain ⟨z,hz⟩:∃ z,z=a.sizes.reverse[i]:=⟨_,rfl⟩
    have hdr:a.sizes.reverse.drop i=z::a.sizes.reverse.drop (i+1):=by rw [List.drop_eq_getElem_cons hil,←hz]
    rw [hdr] at r2
    have hzz:=hz1 z (by rw [hz]; exact List.getElem_mem hil)
    have hdn:=hDn d (aR hl2)
    have hpos:0≤acc*z:=Int.mul_nonneg r1 (by omega)
    have hge:=oq (a.sizes.reverse.drop (i+1)) ds (acc*z+d) (fun y hy=>hz1 y (List.mem_of_mem_drop hy)) (fun y hy=>hDn y (by rw [hl2]; exact List.mem_append_right _ (List.mem_cons_of_mem _ hy))) (by omega)
    have r2':eu (a.sizes.reverse.drop (i+1)) ds (acc*z+d)=T:=r2
    have w1:IntKind.i64.wrap (acc*z)=acc*z:=ae (by omega) (by omega)
    have w2:IntKind.i64.wrap (acc*z+d)=acc*z+d:=ae (by omega) (by omega)
    have w3:IntKind.i64.wrap ((a.sizes.length:Int)-1-i)=((a.sizes.length-1-i:Nat):Int):=by rw [ae (by omega) (by omega)]; omega
    have w4:IntKind.i64.wrap ((i:Int)+1)=(i:Int)+1:=ae (by omega) (by omega)
    have hzj:a.sizes[a.sizes.length-1-i]?=some z:=by rw [hz,List.getElem_reverse,List.getElem?_eq_getElem]
    have hzi:(ak a.sizes)[a.sizes.length-1-i]?=some [.int z]:=by simp only [ak,List.getElem?_map,hzj]; rfl
    have hin:(ak D)[i]?=some [.int d]:=by simp [ak,hi,hd]
    simp at r9
    simp [hv2,hi,e0,e3,hin,r9,hw0,w3,hzj,hzi,w1,w2,w4]
    refine ⟨hF2,?_⟩
    rw [hInv2]
    exact ⟨acc*z+d,by simp [hd,w2],by omega,r2'⟩
  ·obtain ⟨j,rfl⟩:∃ j,k=j+1:=⟨k-1,by omega⟩
   have hj:j<a.sizes.length:=by omega
   obtain ⟨z,hz⟩:∃ z,z=a.sizes[j]:=⟨_,rfl⟩
   obtain ⟨R,hR⟩:∃ R,R=(a.sizes.take j).reverse:=⟨_,rfl⟩
   have hrt:=qn hj
   rw [←hz,←hR] at hrt
   rw [hrt,qK] at hD
   have hzz:=ha.sizes z (by rw [hz]; exact List.getElem_mem hj)
   have hq0:(j:Int)+1-1=j:=by omega
   have htm:m.tmod z=m % z:=Int.tmod_eq_emod_of_nonneg hm
   have htq:m.tdiv z=m / z:=Int.tdiv_eq_ediv_of_nonneg hm
   have hzn:¬z=0:=by omega
   have hdl:m / z≤m:=Int.ediv_le_self _ hm
   have hd0:0≤m / z:=Int.ediv_nonneg hm (by omega)
   have w4:IntKind.i64.wrap (m / z)=m / z:=ae (by omega) (by omega)
   have w5:IntKind.i64.wrap ((j:Int)-1)=(j:Int)-1:=ae (by omega) (by omega)
   push_cast at q8
   rw [hq0] at q8
   have hap:=bV (sz:=1) (bytes:=8) (md:=.plain) (x:=[AV.int (m % z)]) (b:=true) (s:=⟨h,c⟩) (len:=D.length) (by simp) j3 (by simp [ak]) (by decide) (by decide) (by decide) rfl (by omega)
   simp [q7,q8,q2,f0,hj,←hz,hzn,htm,htq,w4,w5,bsI,aw,hap]
   obtain ⟨h2,hh2⟩:∃ h2,h2=upd (upd h g none) c (some (.row 1 (ak D++[[AV.int (m % z)]]) .live none)):=⟨_,rfl⟩
   have g0:h2 c0=_:=(congrFun hh2 c0).trans ((ad (by omega)).trans ((ad (by omega)).trans f0))
   rw [←hh2]
   simp [q7,q8,q2,g0,hj,←hz,hzn,htm,htq,w4,w5]
   refine ⟨j,by omega,?_⟩
   rw [hInv]
   refine ⟨by omega,c,m / z,D++[m % z],by simp,by omega,by show c<c+1; omega,?_,by simp,by simp,hd0,?_,?_,by omega,?_⟩
   ·show h2 c=_; rw [hh2,ah]; simp [ak]
   ·rw [←hD,←hR]; simp
   ·simp; omega
   ·intro k hk; show h2 k=_; rw [hh2,ad (by omega),ad (by omega)]; exact hlow k hk
end Go.Proofs.YtjhogglgkjcacaaGreat
set_option maxRecDepth 20000
set_option maxHeartbeats 4000000
namespace Go.Proofs.YtjhogglgkjcacaaGreat
open Go.AM Go.Wb
mutual
theorem nq:∀ v:AV,norm (norm v)=norm v
 | .agg cs=>by simp only [norm]; rw [ig cs]
 | .tup vs=>by simp only [norm]; rw [ig vs]
 | .sl es _=>by simp only [norm]; rw [nv es]
 | .undef=>rfl
 | .sc _=>rfl
 | .ptr ..=>rfl
 | .zp ..=>rfl
 | .row ..=>rfl
 | .map _=>rfl
 | .fn ..=>rfl
 | .ifc ..=>rfl
theorem ig:∀ l:List AV,aQ (aQ l)=aQ l
 | []=>rfl
 | v::vs=>by simp only [aQ]; rw [nq v,ig vs]
theorem nv:∀ l:List (List AV),aW (aW l)=aW l
 | []=>rfl
 | e::es=>by simp only [aW]; rw [ig e,nv es]
end
attribute [simp] nq
theorem pJ:∀ x y z:List UInt8,Op.bytesLess x y=true→Op.bytesLess y z=true→Op.bytesLess x z=true
 | x,y,[],_,h2=>by cases y <;> simp [Op.bytesLess] at h2
 | [],y,c::z,_,_=>rfl
 | a::x,[],c::z,h1,_=>by simp [Op.bytesLess] at h1
 | a::x,b::y,c::z,h1,h2=>by
  simp only [Op.bytesLess,Bool.or_eq_true,decide_eq_true_eq,Bool.and_eq_true,beq_iff_eq] at h1 h2 ⊢
  rcases h1 with h1 | ⟨rfl,h1⟩
  ·rcases h2 with h2 | ⟨rfl,h2⟩
   ·exact .inl (UInt8.lt_trans h1 h2)
   ·exact .inl h1
  ·rcases h2 with h2 | ⟨rfl,h2⟩
   ·exact .inl h2
   ·exact .inr ⟨rfl,pJ x y z h1 h2⟩
theorem sm:∀ x:List UInt8,Op.bytesLess x x=false
 | []=>rfl
 | a::x=>by simp [Op.bytesLess,sm x,UInt8.lt_irrefl]
theorem sq:∀ x y:List UInt8,Op.bytesLess x y=false→x≠y→Op.bytesLess y x=true
 | [],[],_,h=>absurd rfl h
 | [],_::_,h,_=>by simp [Op.bytesLess] at h
 | a::x,[],_,_=>rfl
 | a::x,b::y,h1,h2=>by
  simp only [Op.bytesLess,Bool.or_eq_false_iff,decide_eq_false_iff_not,Bool.and_eq_false_iff,beq_eq_false_iff_ne] at h1
  simp only [Op.bytesLess,Bool.or_eq_true,decide_eq_true_eq,Bool.and_eq_true,beq_iff_eq]
  have htri:a<b∨a=b∨b<a:=by
   rcases Nat.lt_trichotomy a.toNat b.toNat with h | h | h
   ·exact .inl (UInt8.lt_iff_toNat_lt.2 h)
   ·exact .inr (.inl (UInt8.toNat_inj.1 h))
   ·exact .inr (.inr (UInt8.lt_iff_toNat_lt.2 h))
  rcases htri with h | h | h
  ·exact absurd h h1.1
  ·subst h
   refine .inr ⟨rfl,sq x y ?_ fun e=>h2 (by rw [e])⟩
   rcases h1.2 with h | h
   ·exact absurd rfl h
   ·exact h
  ·exact .inl h
theorem wh {s t:ByteArray} (h:sle s t=false):slt t s=true:=by
 unfold sle at h
 simp only [Bool.or_eq_false_iff,decide_eq_false_iff_not] at h
 refine sq _ _ h.1 fun e=>h.2 ?_
 rw [ByteArray.toList_eq,ByteArray.toList_eq] at e
 cases s; cases t; congr; exact Array.toList_inj.1 e
theorem lY {A:List Wb.Array}:∀ {l:List Pl} {last:ByteArray},bu A last l=0→(∀ x∈l,slt last x.key=true)∧l.Pairwise fun x y=>slt x.key y.key=true
 | [],_,_=>⟨by simp,.nil⟩
 | y::l,last,h=>by
  simp only [bu] at h
  split at h
  ·cases h
  ·split at h
   ·cases h
   ·rename_i h2
    split at h
    ·cases h
    ·split at h
     ·cases h
     ·obtain ⟨i1,i2⟩:=lY h
      have h3:=wh (by simpa using h2)
      refine ⟨fun x hx=>?_,List.pairwise_cons.2 ⟨i1,i2⟩⟩
      rcases List.mem_cons.1 hx with rfl | hx
      ·exact h3
      ·exact pJ _ _ _ h3 (i1 x hx)
theorem tb {α:Type} [DecidableEq α]:∀ (l A:List α),l.Nodup→(∀ x∈l,x∈A)→A.length≤l.length→∀ x∈A,x∈l
 | [],A,_,_,h,x,hx=>by cases A <;> simp at h hx
 | y::l,A,hn,hs,h,x,hx=>by
  by_cases e:x=y
  ·rw [e]; exact List.mem_cons_self
  ·have hy:=hs y List.mem_cons_self
   have hl:=List.length_erase_of_mem hy
   have hn':=List.nodup_cons.1 hn
   refine List.mem_cons_of_mem _ (tb l (A.erase y) hn'.2 (fun z hz=>?_) ?_ x ?_)
   ·exact (List.mem_erase_of_ne fun (e:z=y)=>hn'.1 (e▸hz)).2 (hs z (List.mem_cons_of_mem _ hz))
   ·simp at h; omega
   ·exact (List.mem_erase_of_ne e).2 hx
structure PlOk (A:List Wb.Array) (l:List Pl):Prop where
 nd:l.Pairwise fun x y=>x.key≠y.key
 start:∀ x∈l,0≤x.start∧x.start≤1000000
 all:∀ a∈A,∃ x∈l,x.key=a.key
theorem gz {A:List Wb.Array} {l:List Pl} (h:aL A l=0):PlOk A l:=by
 unfold aL at h
 by_cases h1:bu A ⟨#[]⟩ l=0
 case neg=>rw [if_neg h1] at h; exact absurd h h1
 rw [if_pos h1] at h
 have hlen:l.length=A.length:=by
  by_cases e:l.length=A.length
  ·exact e
  ·rw [if_pos e] at h; cases h
 have hup:=(lY h1).2
 have hok:=gF h1
 have hnd:(l.map (·.key)).Nodup:=by
  rw [List.nodup_iff_pairwise_ne,List.pairwise_map]
  exact hup.imp fun {x y} h e=>by rw [e] at h; unfold slt at h; rw [sm] at h; cases h
 refine ⟨by rw [List.nodup_iff_pairwise_ne,List.pairwise_map] at hnd; exact hnd,fun x hx=>(hok x hx).2.2,fun a ha=>?_⟩
 have hsub:∀ k∈l.map (·.key),k∈A.map (·.key):=by
  intro k hk
  obtain ⟨x,hx,rfl⟩:=List.mem_map.1 hk
  obtain ⟨i,b,h3,h4,_⟩:=mQ (A:=A) (key:=x.key) (by have:=(hok x hx).2.1; omega)
  refine List.mem_map.2 ⟨b,List.mem_of_getElem? h3,?_⟩
  have:=mQ (A:=A) (key:=x.key) (by have:=(hok x hx).2.1; omega)
  obtain ⟨j,b',g1,g2,_,_,g5⟩:=this
  rw [h4] at g2
  have:i=j:=by omega
  subst this
  rw [h3] at g1; injection g1 with g1; rw [g1]; exact g5
 have:=tb _ _ hnd hsub (by simp [hlen]) a.key (List.mem_map.2 ⟨a,ha,rfl⟩)
 obtain ⟨x,hx,he⟩:=List.mem_map.1 this
 exact ⟨x,hx,he⟩
def uT (l:List Pl) (key:ByteArray):Option Pl:=l.find? fun x=>decide (key=x.key)
def rF (A:List Wb.Array) (key:ByteArray):Option Wb.Array:=A.find? fun a=>decide (a.key=key)
def eK (A:List Wb.Array) (l:List Pl) (s:Wb.Spot):Int:=match rF A s.array,uT l s.array with
 | some a,some x=>gZ a.sizes x s.cell
 | _,_=>0
theorem kK {α:Type} {p:α→Bool} {x:α}:∀ {l:List α} {k:Int},l.find? p=some x→∃ i:Nat,aS p l k=k+i∧l[i]?=some x
 | [],_,h=>by simp at h
 | y::l,k,h=>by
  by_cases hy:p y=true
  ·simp [List.find?_cons,hy] at h; subst h
   exact ⟨0,by simp [aS,hy],rfl⟩
  ·simp [List.find?_cons,hy] at h
   obtain ⟨i,h1,h2⟩:=kK (k:=k+1) h
   exact ⟨i+1,by simp only [aS,hy,if_false,Bool.false_eq_true,h1]; push_cast; omega,by simpa using h2⟩
theorem kP {β:Type} (key:β→ByteArray) (k:ByteArray):∀ l:List β,bS (l.map fun x=>(key x,x)) k=l.find? fun x=>decide (k=key x)
 | []=>rfl
 | x::l=>by
  by_cases h:k=key x
  ·simp [bS,h]
  ·simp [bS,h,kP key k l]
theorem rB {A:List Wb.Array} (hA:∀ a∈A,OkArray a) {l:List Pl} (hl:PlOk A l) {s:Wb.Spot} (hs:iz A s):∃ (i j:Nat) (a:Wb.Array) (x:Pl),rF A s.array=some a∧uT l s.array=some x∧bh A s.array=i∧A[i]?=some a∧aS (fun x=>decide (s.array=x.key)) l 0=j∧l[j]?=some x∧OkArray a∧0≤s.cell∧s.cell<20000∧0≤x.start∧x.start≤1000000∧eK A l s=gZ a.sizes x s.cell:=by
 obtain ⟨b,hb,hk,h1,h2⟩:=hs
 have f1:(A.find? fun a=>decide (a.key=s.array)).isSome=true:=by rw [List.find?_isSome]; exact ⟨b,hb,by simp [hk]⟩
 obtain ⟨y,hy,hyk⟩:=hl.all b hb
 have f2:(l.find? fun x=>decide (s.array=x.key)).isSome=true:=by rw [List.find?_isSome]; exact ⟨y,hy,by simp [hyk,hk]⟩
 obtain ⟨a,ha⟩:=Option.isSome_iff_exists.1 f1
 obtain ⟨x,hx⟩:=Option.isSome_iff_exists.1 f2
 obtain ⟨i,i1,i2⟩:=kK (k:=0) ha
 obtain ⟨j,j1,j2⟩:=kK (k:=0) hx
 have hbo:=(hA b hb).cells
 have hst:=hl.start x (List.mem_of_getElem? j2)
 refine ⟨i,j,a,x,ha,hx,by unfold bh; rw [i1]; omega,i2,by rw [j1]; omega,j2,hA a (List.mem_of_getElem? i2),h1,by omega,hst.1,hst.2,?_⟩
 unfold eK rF uT
 rw [ha,hx]
def fi (p:Wb.Prog) (l:List Pl):List Int:=(eW p.arrays 0 (aE p).2.l).map fun a=>eK p.arrays l a.2.2
theorem vJ (l:List Pl) (f:Nat) (a b:List AV) (p:Pl→Bool) (h:Heap) (c:Nat) (hp:ml f a b (fun x:Pl=>.agg x.cells) h c p l) :
  ACalls Pg Fn70.n [row (l.map Pl.cells),.fn (.func f) a b] ⟨h,c⟩ fun av s'=>av=.int (aS p l 0)∧s'.h=h:=by
 refine ACalls.small fun hs=>?_
 have hlen:l.length≤68719476736:=by simp at hs; omega
 refine Fn70.calls .frz ?_
 unfold Fn70.ac
 simp
 refine bT 8 Fn70.W0 l (fun i r sl=>aS p l 0=aS p r i) (by rfl) (by rfl) ?_ ?_ ?_
 ·simp
 ·intro v c1 hv hc hI
  simp [hv,hI,aS]
 ·intro i x xs v c1 hi hx hl hv hc hI
  have hw:=ae (x:=(i:Int)+1) (by omega) (by omega)
  simp [hv,hi,hx,Pl.cells]
  refine ACalls.at (hp x (aR hl) c1 hc) fun c2 hc2=>?_
  by_cases hpx:p x=true
  ·simp [hpx,hI,aS]
  ·simp [hpx,hv,hw,hI,aS]; omega
theorem vK (x:Pl) (k:Int) (b:Bool) (key:ByteArray) (n:Int) (h:Heap) (c g:Nat) (hg:h g=some (.row 4 [[.int k,.bool b,.str key,.int n]] .live none)) (hgc:g<c) :
  ACalls Pg Fn71.n [.agg x.cells,.ptr g 0 0] ⟨h,c⟩ fun av s'=>av=.bool (decide (key=x.key))∧s'.h=h:=by
 refine Fn71.calls .frz ?_
 unfold Fn71.ac
 have hne:g≠c:=by omega
 simp [Pl.cells,hg,hne]
 exact ⟨Eq.symm,Eq.symm⟩
end Go.Proofs.YtjhogglgkjcacaaGreat
set_option maxRecDepth 20000
set_option maxHeartbeats 4000000
namespace Go.Proofs.YtjhogglgkjcacaaGreat
open Go.AM Go.Wb
theorem vz (p:Wb.Prog) (hA:∀ a∈p.arrays,OkArray a) (l:List Inst) (hl:l.length≤1000000) (hr:∀ i∈l,(i.reads p.arrays).length≤4096) (hmany:cF p.arrays l≤200000) (hin:∀ a∈eW p.arrays 0 l,iz p.arrays a.2.2) (P:List Pl) (hP:PlOk p.arrays P) (x:AV) (h0:Heap) (c0:Nat) (hu:UsesN h0 c0 p.arrays (norm x) l) (hx:∀ k,an (norm x) k→k<c0) :
  ACalls Pg Fn16.n [p.av,norm x,row (P.map Pl.cells)] ⟨h0,c0⟩ fun av s'=>av=row (ak ((eW p.arrays 0 l).map fun a=>eK p.arrays P a.2.2))∧s'.h=h0:=by
 have hta:=fun key=>fZ p key
 simp only [Prog.av] at hta
 refine Fn16.calls .frz ?_
 unfold Fn16.ac
 obtain ⟨hb,hhb⟩:∃ hb,hb=upd (upd h0 c0 (some (.row 2 [[row (p.arrays.map Array.cells),row (p.steps.map Step.cells)]] .live none))) (c0+1) (some (.row 1 [] .live none)):=⟨_,rfl⟩
 have hFb:Fr c0 h0 hb (c0+1+1):=by rw [hhb]; exact ((Fr.refl _ _).upd (Nat.le_refl _) (Nat.le_succ _)).upd (by omega) (Nat.le_succ _)
 have bx:hb c0=_:=(congrFun hhb c0).trans (by rw [ad (by omega),ah])
 have b1:hb (c0+1)=_:=(congrFun hhb (c0+1)).trans ah
 have hac:=vI p.arrays l hl hr (norm x) hb (c0+1+1) (hu.fr hx hFb) (fun k hk=>by have:=hx k hk; omega)
 obtain ⟨T,hT⟩:∃ T,T=eW p.arrays 0 l:=⟨_,rfl⟩
 have hTl:(T.length:Int)≤200000:=by
  have:=mr p.arrays 0 l
  rw [kA,←hT,List.length_map] at this; omega
 rw [kA,←hT] at hac
 rw [←hT] at hin ⊢
 simp [Prog.av,←hhb]
 refine ACalls.at hac fun c1 hc1=>?_
 simp
 obtain ⟨Inv,hInv⟩:∃ Inv:Nat→List Acc→Slots→St→Prop,Inv=fun i r sl s'=>∃ g,sl 7=.row g 1 0 i∧c0<g∧g<s'.c∧s'.h g=some (.row 1 (ak ((T.take i).map fun a=>eK p.arrays P a.2.2)) .live none)∧c1≤s'.c∧∀ k,k<c0+1→s'.h k=hb k:=⟨_,rfl⟩
 refine bq 15 Fn16.W0 T Inv (by rfl) (by rfl) ?_ ?_ ?_
 ·rw [hInv]
  exact ⟨by simp,c0+1,by simp,by omega,by show c0+1<c1; omega,by simpa [ak] using b1,Nat.le_refl _,fun _ _=>rfl⟩
 ·intro v s' hv hI
  rw [hInv,List.take_length] at hI
  obtain ⟨g,q7,i1,i2,i3,i4,i5⟩:=hI
  obtain ⟨h,c⟩:=s'
  simp at q7
  simp only at i2 i3 i4 i5
  simp [hv,q7,i3]
  refine ⟨by rw [List.take_of_length_le (by simp [ak])]; simp,aC fun k hk=>?_⟩
  rw [ad (by omega)]; exact (i5 k (by omega)).trans (hFb.h k hk)
 ·intro i y ys v s' hi hy hl2 hv hI
  rw [hInv] at hI
  obtain ⟨g,q7,i1,i2,i3,i4,i5⟩:=hI
  obtain ⟨h,c⟩:=s'
  simp at q7
  simp only at i2 i3 i4 i5
  have hw:=ae (x:=(i:Int)+1) (by omega) (by omega)
  have hys:=hin y (aR hl2)
  obtain ⟨ia,jp,a,pl,e1,e2,e3,e4,e5,e6,ha,e7,e8,e9,e10,e11⟩:=rB hA hP hys
  obtain ⟨k,w,⟨key,n⟩⟩:=y
  simp only at e1 e2 e3 e5 e7 e8 e11
  obtain ⟨h1,hh1⟩:∃ h1,h1=upd h c (some (.row 4 [[.int k,.bool w,.str key,.int n]] .live none)):=⟨_,rfl⟩
  have hyi:(T.map Acc.cells)[i]?=some [.int k,.bool w,.str key,.int n]:=by simp [hi,hy,Acc.cells,bE]
  have g9:h1 c=_:=(congrFun hh1 c).trans ah
  have g0:h1 c0=_:=(congrFun hh1 c0).trans ((ad (by omega)).trans ((i5 c0 (by omega)).trans bx))
  have g7:h1 g=_:=(congrFun hh1 g).trans ((ad (by omega)).trans i3)
  have hak:=hta key
  rw [e3] at hak
  obtain ⟨hial,hiae⟩:=List.getElem?_eq_some_iff.1 e4
  have hai:(p.arrays.map Array.cells)[ia]?=some [.str a.key,row (ak a.sizes)]:=by simp [hial,hiae,Array.cells]
  simp [hv,hi,hy,Acc.cells,bE]
  rw [←hh1]
  obtain ⟨Post,hPost⟩:∃ Post:Slots→St→Prop,Post=fun sl' s'=>∃ cx,sl' 10=.ptr cx 0 0∧s'.h cx=some (.row 2 [[.str a.key,row (ak a.sizes)]] .live none)∧c+1≤cx∧cx<s'.c∧∀ k,k<c+1→s'.h k=h1 k:=⟨_,rfl⟩
  refine roamW_cut [10,19,20,21,22,23,24,25,26] (by rfl) Post ?_ ?_
  ·have n0:¬c0=c+1:=by omega
   simp [roamW_t,roamW_f,roamW_n,g9,g0,n0]
   refine ⟨?_,?_⟩
   ·refine ACalls.pure hak fun c2 hc2=>?_
    simp [g0,n0,hai,hial,hiae,Array.cells]
    rw [hPost]
    exact ⟨c+1,by simp,ah,Nat.le_refl _,by show c+1<c2; omega,fun k hk=>by show upd h1 _ _ k=_; rw [ad (by omega)]⟩
   ·refine ACalls.pure hak fun c2 hc2=>?_
    have n2:¬c0=c2:=by omega
    have n3:¬c=c2:=by omega
    simp [roamW_t,roamW_f,roamW_n,g0,g9,n2,n3,hai,hial,hiae,Array.cells]
    rw [hPost]
    exact ⟨c2,by simp,ah,by omega,by show c2<c2+1; omega,fun k hk=>by show upd h1 _ _ k=_; rw [ad (by omega)]⟩
  ·intro v2 s2 hP2
   rw [hPost] at hP2
   obtain ⟨cx,p10,p1,p2,p3,p4⟩:=hP2
   obtain ⟨h2,c2⟩:=s2
   simp at p10
   simp only at p1 p3 p4
   have q9:=(p4 c (by omega)).trans g9
   have q0:=(p4 c0 (by omega)).trans g0
   have q7':=(p4 g (by omega)).trans g7
   simp [p10,p1]
   have hsay:ml Fn71.n [] [.ptr c 0 0] (fun x:Pl=>.agg x.cells) h2 c2 (fun x=>decide (key=x.key)) P:=fun z hz c' hc'=>vK z k w key n h2 c' c q9 (by omega)
   have hidx:=vJ P _ [] [.ptr c 0 0] (fun x=>decide (key=x.key)) h2 c2 hsay
   rw [e5] at hidx
   refine ACalls.at hidx fun c3 hc3=>?_
   obtain ⟨hjl,hje⟩:=List.getElem?_eq_some_iff.1 e6
   have hadr:=vL a ha pl e9 e10 n e7 e8
   simp only [Array.cells,Pl.cells] at hadr
   simp [p10,p1,q9,q0,hjl,hje,Pl.cells,q7]
   refine ACalls.pure hadr fun c4 hc4=>?_
   have hap:=bV (sz:=1) (bytes:=8) (md:=.plain) (x:=[AV.int (gZ a.sizes pl n)]) (b:=true) (s:=⟨h2,c4⟩) (len:=i) (by simp) q7' (by simp [ak]; omega) (by decide) (by decide) (by decide) rfl (by omega)
   simp [p10,p1,q9,q0,hjl,hje,Pl.cells,q7,bsI,aw,hap,hv,hw]
   rw [hInv]
   have ts:T.take (i+1)=T.take i++[(k,w,⟨key,n⟩)]:=by rw [List.take_add_one,List.getElem?_eq_getElem hi,hy]; rfl
   refine ⟨c4,by simp,by omega,by show c4<c4+1; omega,?_,by show c1≤c4+1; omega,fun k' hk'=>?_⟩
   ·show upd (upd h2 g none) c4 _ c4=_
    rw [ah,ts]; simp [ak,e11]
   ·show upd (upd h2 g none) c4 _ k'=_
    rw [ad (by omega),ad (by omega),p4 k' (by omega),hh1,ad (by omega)]; exact i5 k' hk'
end Go.Proofs.YtjhogglgkjcacaaGreat
