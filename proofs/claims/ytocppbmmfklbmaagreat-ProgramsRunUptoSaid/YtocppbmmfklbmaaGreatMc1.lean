/- Part of the claim: see its last text. -/
import Derived.Test.YtocppbmmfklbmaaGreatMc0
import Derived.Test.YtocppbmmfklbmaaGreatMa32
import Derived.Shelf.SlMaps.Clone
set_option linter.all false
set_option maxRecDepth 20000
set_option maxHeartbeats 4000000
namespace Go.Proofs.YtocppbmmfklbmaaGreat
open Go.AM Go.Wb
theorem vN (x:ByteArray) (k:Int) (hk:k=0∨k=1):aN Pg Fn77.n [.str x,.int k] (.str (if k=0 then ⟨#[]⟩ else x)):=by
 intro s
 refine Fn77.calls .frz ?_
 unfold Fn77.ac
 rcases hk with rfl | rfl <;> simp
@[simp] theorem _root_.Go.AM.reOk_cv {t:Nat} {k:CK} {x:X} {sl:Slots} {s:St}:fc (t,none,.cv k x) sl s↔cvI k (x.ev sl) s=some (sl t):=by
 simp only [fc,gdI,aL]
 constructor
 ·rintro (h | ⟨_,h⟩)
  ·cases h
  ·cases hl:cvI k (x.ev sl) s with
   | none=>rw [hl] at h; cases h
   | some v=>rw [hl] at h; simp at h; rw [h]
 ·intro h
  exact .inr ⟨trivial,by rw [h]; rfl⟩
section
variable {P:Program} {a:AO} {post:List AO} {K:Slots→St→Prop} {e:AO} {r:List (Bool×AO)} {sl:Slots} {s:St}
theorem _root_.Go.AM.roamW_t:cq P a post K ((true,e)::r) sl s=(aO P (a.cut (e::r.map (·.2))::e::(r.map (·.2)++post)) K sl s∧aO P [e] (cq P a post K r) sl s):=by
 simp only [cq,true_imp_iff]
@[simp] theorem _root_.Go.AM.cut_mk {d:Option Nat} {g:Option (Nat×Bool)} {m:Md} {i:I} {re:List (Nat×Option (Nat×Bool)×I)} {l:List AO}:AO.cut ⟨d,g,m,i,re⟩ l=⟨d,g,m,i,re.filter fun q=>l.all fun o=>o.dst != some q.1⟩:=Eq.trans rfl rfl
theorem _root_.Go.AM.roamW_f:cq P a post K ((false,e)::r) sl s=aO P [e] (cq P a post K r) sl s:=by
 simp only [cq,Bool.false_eq_true,false_imp_iff,true_and]
theorem _root_.Go.AM.roamW_n:cq P a post K [] sl s=aO P (a::post) K sl s:=Eq.trans rfl rfl
theorem _root_.Go.AM.roamW_cut {pre:List (Bool×AO)} (W:List Nat) (hW:fV (fP (a::(pre.map (·.2)++post))) W=true) (Post:Slots→St→Prop) (h:cq P a post Post pre sl s) (hk:∀ v s',Post (ov W sl v) s'→K (ov W sl v) s'):cq P a post K pre sl s:=by
 refine iv pre (mL pre h) fun sl' s' hp=>?_
 have e:ov W sl sl'=sl':=rU fun t ht=>hp.2 t (lu hW ht)
 have:=hk sl' s' (by rw [e]; exact hp.1)
 rwa [e] at this
end
theorem dM {sz:Nat} {zs el:List AV} (hz:az sz zs=true) (h0:0<sz) (hok:az sz el=true) (s:St):bsI sz zs 1 [(0,.agg el)] .plain s=some (.sl [el] true,s):=by
 unfold bsI
 rw [if_pos ⟨h0,hz,by decide⟩]
 have hf:au sz (List.replicate 1 zs) [(0,.agg el)]=some [el]:=by
  show (if az sz el=true∧0<(List.replicate 1 zs).length then _ else _)=_
  rw [if_pos ⟨hok,by simp⟩]; rfl
 rw [hf]; rfl
theorem qH {g k:Nat} (hne:g≠k) {h:Heap} {a b:Option Body}:upd (upd h g a) k b=upd (upd h k b) g a:=by
 funext j
 show (if j=k then b else if j=g then a else h j)=if j=g then a else if j=k then b else h j
 by_cases h1:j=k
 ·rw [if_pos h1,if_pos h1,if_neg (by omega)]
 ·rw [if_neg h1,if_neg h1]
theorem lQ (z:Int) (b:Bool) (s:St):cvI .b2s (.sl [[.sc (.int .u8 z)]] b) s=some (.str ⟨#[UInt8.ofNat z.toNat]⟩):=by
 rfl
theorem ru {x y:ByteArray} (h:x.size+y.size≤1000000):eZ .add x y=some (.string (x++y)):=by
 have hm:IntKind.i64.max=9223372036854775807:=by decide
 unfold eZ
 rw [if_neg (by rw [hm]; omega)]
def ww (L:List Int) (g gn:Nat) (h0:Heap) (c0:Nat) (n a:Int) (A C:Nat) (K:Int) (es:List (List AV)) (gr:Nat) (h:Heap) (c:Nat):Prop:=
 ∃ (m:Nat) (n' a':Int) (S:Nat→Prop),c0≤gr∧gr<c∧h gr=some (.row 15 es .live none)∧Tr 2 h S es m∧(∀ k,S k→c0≤k∧k<c∧k≠gr)∧m≤C∧h gn=some (.row 1 [[.int n']] .live none)∧n≤n'∧n'≤n+A∧SM h g L a'∧a≤a'∧a'≤a+K∧∀ k,k<c0→k≠g→k≠gn→h k=h0 k
def StI (L:List Int) (g gn:Nat) (h0:Heap) (c0:Nat) (around:List ByteArray) (n a:Int) (A C:Nat) (K:Int) (i:Nat) (es:List (List AV)) (gr:Nat) (h:Heap) (c:Nat):Prop:=
 ∃ (m:Nat) (n' a':Int) (S:Nat→Prop),es.length=i∧c0<gr∧gr<c∧h gr=some (.row 15 es .live none)∧Tr 2 h S es m∧(∀ k,S k→c0<k∧k<c∧k≠gr)∧m≤i*(1+C)∧h gn=some (.row 1 [[.int n']] .live none)∧n≤n'∧n'≤n+i*A∧SM h g L a'∧a≤a'∧a'≤a+i*(120+K) ∧
  h c0=some (.row 1 [[row (aB around)]] .live none)∧∀ k,k<c0→k≠g→k≠gn→h k=h0 k
theorem StI.next {L:List Int} {g gn:Nat} {h0:Heap} {c0:Nat} {around:List ByteArray} {n a:Int} {A C:Nat} {K:Int} {i:Nat} {es:List (List AV)} {gr:Nat} {h h2:Heap} {c c2:Nat} {e:List AV} {Se:Nat→Prop} {m1:Nat} {n1 n2 a1 a2:Int}
  {S:Nat→Prop} {m:Nat} (hg:g<c0) (hgn:gn<c0) (hi:es.length=i) (q1:c0<gr) (q2:gr<c) (hgr:h gr=some (.row 15 es .live none)) (ht:Tr 2 h S es m) (hS:∀ k,S k→c0<k∧k<c∧k≠gr) (hm:m≤i*(1+C)) (hn1:n1≤n+i*A) (hn0:n≤n1) (ha1:a1≤a+i*(120+K)) (ha0:a≤a1)
  (hb:h c0=some (.row 1 [[row (aB around)]] .live none)) (hfr:∀ k,k<c0→k≠g→k≠gn→h k=h0 k)
  (hc2:c≤c2) (hsame:∀ k,k<c→k≠g→k≠gn→h2 k=h k) (hte:Tr 2 h2 Se [e] m1) (hSe:∀ k,Se k→c≤k∧k<c2) (hm1:m1≤1+C) (hn2:n2≤n1+A) (hn3:n1≤n2) (hgn2:h2 gn=some (.row 1 [[.int n2]] .live none)) (hsm:SM h2 g L a2) (ha2:a2≤a1+(120+K)) (ha3:a1≤a2) :
  StI L g gn h0 c0 around n a A C K (i+1) (es++[e]) c2 (upd (upd h2 gr none) c2 (some (.row 15 (es++[e]) .live none))) (c2+1):=by
 have e1:∀ k,k≠gr→k≠c2→upd (upd h2 gr none) c2 (some (.row 15 (es++[e]) .live none)) k=h2 k:=fun k hk hk2=>by rw [ad hk2,ad hk]
 have hmm:(i+1)*(1+C)=i*(1+C)+(1+C):=Nat.succ_mul _ _
 have hnn:((i+1:Nat):Int)*A=i*A+A:=by rw [Int.natCast_add,Int.add_mul]; simp
 have haa:((i+1:Nat):Int)*(120+K)=i*(120+K)+(120+K):=by rw [Int.natCast_add,Int.add_mul]; simp
 refine ⟨m+m1,n2,a2,fun k=>S k∨Se k,by simp [hi],by omega,by omega,af,?_,?_,by rw [hmm]; omega,?_,by omega,by rw [hnn]; omega,?_,by omega,by rw [haa]; omega,?_,?_⟩
 ·refine Tr.app (Tr.frame (Tr.frame ht (h':=h2) fun k hk=>?_) fun k hk=>?_) (Tr.frame hte fun k hk=>?_) fun k h1 h2=>?_
  ·have:=hS k hk; exact hsame k this.2.1 (by omega) (by omega)
  ·have:=hS k hk; exact e1 k this.2.2 (by omega)
  ·have:=hSe k hk; exact e1 k (by omega) (by omega)
  ·have:=hS k h1; have:=hSe k h2; omega
 ·intro k hk
  rcases hk with hk | hk
  ·have:=hS k hk; omega
  ·have:=hSe k hk; omega
 ·rw [e1 _ (by omega) (by omega)]; exact hgn2
 ·unfold SM; rw [e1 _ (by omega) (by omega)]; exact hsm
 ·rw [e1 _ (by omega) (by omega),hsame _ (by omega) (by omega) (by omega)]; exact hb
 ·intro k hk hk1 hk2
  rw [e1 _ (by omega) (by omega),hsame _ (by omega) hk1 hk2]; exact hfr k hk hk1 hk2
def StC (L:List Int) (g gn:Nat) (deep:Int) (A C:Nat) (K:Int):Prop:=∀ (around:List ByteArray) (most n a:Int) (h0:Heap) (c0:Nat),around.length≤90-deep→1≤most→most≤2→SM h0 g L a→0≤a→a+K<700000000→h0 gn=some (.row 1 [[.int n]] .live none)→0≤n→n+A≤16→g<c0→gn<c0 →
 ACalls Pg Fn31.n [.ptr g 0 0,row (aB around),.int deep,.int most,.ptr gn 0 0] ⟨h0,c0⟩ fun av s'=>∃ (es:List (List AV)) (gr:Nat),es.length≤2∧av=.row gr 15 0 es.length∧ww L g gn h0 c0 n a A C K es gr s'.h s'.c
theorem cS (L:List Int) (hL:L.length≤1048576) (g gn:Nat) (hgn:g≠gn) (deep:Int) (hd1:1≤deep) (hd2:deep≤20) (A C:Nat) (K:Int) (hA:1≤A) (hA2:A≤1000) (hK:0≤K) (hsub:1<deep→StC L g gn (deep-1) A C K) :
  StC L g gn deep (2*A) (2*(1+C)) (1+2*(120+K)):=by
 intro around most n a h0 c0 har hm1 hm2 hs ha ha' hn hn0 hnA hg hgnc
 refine Fn31.calls .keep ?_
 unfold Fn31.ac
 have hgc:¬g=c0:=by omega
 have hcg:¬c0=g:=by omega
 have hnc:¬gn=c0:=by omega
 have hcn:¬c0=gn:=by omega
 simp
 refine ACalls.draw (R:=fun v=>∃ k,v=.int k∧1≤k∧(1≤most→k≤most)∧(most<1→k=1)) (lX L a 1 most g _ _ (by omega) (by omega) (by omega) (by unfold SM; rw [ad (by omega),ad hgc]; exact hs) ha (by omega) hL (by omega)) fun v h1 c1 a1 hv hc1 q1 q2 q3 q4=>?_
 obtain ⟨k,rfl,hk1,hk2,_⟩:=hv
 have hk2':=hk2 hm1
 obtain ⟨kn,hkn⟩:∃ kn:Nat,k=kn:=⟨k.toNat,by omega⟩
 subst hkn
 simp
 obtain ⟨Inv,hInv⟩:∃ Inv:Nat→List Unit→Slots→St→Prop,Inv=fun i r sl s'=>∃ (es:List (List AV)) (gr:Nat),sl 11=.row gr 15 0 es.length∧StI L g gn h0 c0 around n a1 A C K i es gr s'.h s'.c:=⟨_,rfl⟩
 refine aY 22 Fn31.W0 (List.replicate kn ()) Inv (by rfl) (by rfl) ?_ ?_ ?_
 ·rw [hInv]
  refine ⟨by simp,[],c0+1,by simp,0,n,a1,fun _=>False,rfl,by omega,by show c0+1<c1; omega,?_,.nil _,fun _ h=>h.elim,by omega,?_,by omega,by omega,q3,by omega,by omega,?_,?_⟩
  ·show h1 (c0+1)=_
   rw [q4 _ (by omega),af]
  ·show h1 gn=_
   rw [q4 _ (by omega),ad (by omega),ad hnc]; exact hn
  ·show h1 c0=_
   rw [q4 _ hcg,ad (by omega),af]
  ·intro k hk hk1 hk2
   show h1 k=_
   rw [q4 _ hk1,ad (by omega),ad (by omega)]
 ·intro v s' hv hI
  rw [hInv] at hI
  obtain ⟨es,gr,h11,m,n',a',S,hlen,p1,p2,p3,p4,p5,p6,p7,p8,p9,p10,p11,p12,p13,p14⟩:=hI
  obtain ⟨h,c⟩:=s'
  simp at h11 hv hlen p6 p9 p12
  simp only at p1 p2 p3 p4 p5 p7 p10 p13 p14
  simp [hv,h11,hInv]
  have hk12:kn=1∨kn=2:=by omega
  refine ⟨es,by omega,gr,⟨rfl,rfl⟩,m,n',a',S,by omega,p2,p3,p4,fun k hk=>⟨by have:=p5 k hk; omega,(p5 k hk).2⟩,?_,p7,p8,?_,p10,by omega,?_,p14⟩
  ·rcases hk12 with e | e <;> rw [e] at p6 <;> omega
  ·rcases hk12 with e | e <;> rw [e] at p9 <;> omega
  ·rcases hk12 with e | e <;> rw [e] at p12 <;> omega
 ·intro i x xs v s' hi hx hl2 hv hI
  rw [hInv] at hI
  obtain ⟨es,gr,h11,m,n',a',S,hlen,p1,p2,p3,p4,p5,p6,p7,p8,p9,p10,p11,p12,p13,p14⟩:=hI
  obtain ⟨h,c⟩:=s'
  simp at h11 hi
  simp only at p1 p2 p3 p4 p5 p7 p10 p13 p14
  have hbs:bsI 1 [.str ⟨#[]⟩] 3 [(0,.str ⟨#[105]⟩),(1,.str ⟨#[106]⟩),(2,.str ⟨#[107]⟩)] .mut ⟨h,c⟩=some (.row c 1 0 3,⟨upd h c (some (.row 1 (aB [⟨#[105]⟩,⟨#[106]⟩,⟨#[107]⟩]) .live none)),c+1⟩):=by
   simp [bsI,au,aB]
  have hcc0:¬c0=c:=by omega
  have hdel:=vh [⟨#[105]⟩,⟨#[106]⟩,⟨#[107]⟩] Fn71.n [] [.ptr c0 0 0] (fun x=>inL x around) (upd h c (some (.row 1 (aB [⟨#[105]⟩,⟨#[106]⟩,⟨#[107]⟩]) .live none))) c (c+1) (by simp) (by simp) (fun x h' c' hh hc'=>by
   refine (vG around x c0 h' c' ?_)
   rw [hh _ hcc0,ad hcc0]; exact p13)
  simp only [List.length_cons,List.length_nil] at hdel
  simp [hv,hi,hbs]
  refine hdel.mono ?_
  rintro av ⟨h2,c2⟩ hc2 ⟨nl,nk,rfl,hnk,hnl,hn2,hfr2⟩
  simp only at hc2 hn2 hfr2
  have hfr2':∀ k,k≠c→h2 k=h k:=fun k hk=>by rw [hfr2 k hk,ad hk]
  simp
  have hiA:(i:Int)≤1:=by omega
  have hi01:(i:Int)=0∨(i:Int)=1:=by omega
  have hiK:(i:Int)*(120+K)≤120+K:=by rcases hi01 with e | e <;> rw [e] <;> omega
  have hiA2:(i:Int)*A≤A:=by rcases hi01 with e | e <;> rw [e] <;> omega
  refine ACalls.draw (bY L a' 6 g h2 c2 (by omega) (by unfold SM; rw [hfr2' _ (by omega)]; exact p10) (by omega) (by omega) hL (by omega)) fun w h3 c3 a3 hw hc3 r1 r2 r3 r4=>?_
  obtain ⟨k1,rfl,hk3,hk4,_⟩:=hw
  simp [h11]
  have hb3:h3 c0=some (.row 1 [[row (aB around)]] .live none):=by rw [r4 _ hcg,hfr2' _ hcc0]; exact p13
  have hgn3:h3 gn=some (.row 1 [[.int n']] .live none):=by rw [r4 _ (Ne.symm hgn),hfr2' _ (by omega)]; exact p7
  by_cases hF:1<deep∧k1<3∧0<nk
  ·obtain ⟨hd,hk13,hnk0⟩:=hF
   simp [hd,hk13,hnk0]
   obtain ⟨mk,hmk⟩:∃ mk:Int,mk=(if (nk:Int)<2 then (nk:Int) else 2):=⟨_,rfl⟩
   have hmk2:1≤mk∧mk≤nk∧mk≤2:=by rw [hmk]; split <;> omega
   rw [←hmk]
   refine ACalls.draw (bY L a3 mk g h3 c3 (by omega) r3 (by omega) (by omega) hL (by omega)) fun w h4 c4 a4 hw hc4 s1 s2 s3 s4=>?_
   obtain ⟨k2,rfl,hk5,hk6,_⟩:=hw
   have hk6':=hk6 hmk2.1
   obtain ⟨k2n,hk2n⟩:∃ k2n:Nat,k2=k2n:=⟨k2.toNat,by omega⟩
   subst hk2n
   have hk2l:k2n<nl.length:=by omega
   have hk2nk:k2n<nk:=by omega
   have hnl4:h4 c=some (.row 1 (aB nl) .live none):=by rw [s4 _ (by omega),r4 _ (by omega)]; exact hn2
   obtain ⟨vn,hvn⟩:∃ vn,(aB nl)[k2n]?=some [.str vn]:=⟨nl[k2n],by simp [aB,hk2l]⟩
   simp [hk2nk,hnl4,hvn,aK,bsI,au]
   have hg4:¬g=c4:=by omega
   have h4g:¬c4=g:=by omega
   refine ACalls.draw (R:=fun v=>∃ k,v=.int k∧k∈[0,0,1]) (bS [0,0,1] L a4 g _ _ (by simp) (by simp) (by unfold SM; rw [ad hg4]; exact s3) (by omega) (by omega) hL (by omega)) fun w h5 c5 a5 hw hc5 t1 t2 t3 t4=>?_
   obtain ⟨pk1,rfl,_⟩:=hw
   simp
   refine ACalls.quiet (R:=fun av=>∃ f:Wb.Form,av=f.av) (bD pk1 [] (by simp) (by simp) ⟨h5,c5⟩) fun w c6 hw hc6=>?_
   obtain ⟨f1,rfl⟩:=hw
   simp
   refine ACalls.pure (eK f1 1) fun c7 hc7=>?_
   simp [bsI,au,Bound.av,Bound.cells]
   refine ACalls.draw (R:=fun v=>∃ k,v=.int k∧k∈[2,3,4]) (bS [2,3,4] L a5 g _ _ (by simp) (by simp) t3 (by omega) (by omega) hL (by omega)) fun w h8 c8 a8 hw hc8 u1 u2 u3 u4=>?_
   obtain ⟨pk2,rfl,_⟩:=hw
   simp
   refine ACalls.quiet (R:=fun av=>∃ f:Wb.Form,av=f.av) (bD pk2 [] (by simp) (by simp) ⟨h8,c8⟩) fun w c9 hw hc9=>?_
   obtain ⟨f2,rfl⟩:=hw
   simp
   refine ACalls.pure (eK f2 1) fun c10 hc10=>?_
   have hx8:h8 c4=some (.row 15 [[.int 1,.str vn,.nil,.nil,.nil,.nil,.str ⟨#[]⟩,.nil,.int 0,.int 0,.int 0,.nil,.str ⟨#[]⟩,.nil,.nil]] .live none):=by rw [u4 _ h4g,t4 _ h4g,af]
   have hb8:h8 c0=some (.row 1 [[row (aB around)]] .live none):=by rw [u4 _ hcg,t4 _ hcg,ad (by omega),s4 _ hcg]; exact hb3
   have hc04:¬c0=c4:=by omega
   by_cases har0:around=[]
   ·have hsl0:(aB around).length=0:=by rw [har0]; rfl
    simp [bsI,au,Bound.av,Bound.cells,hx8,hb8,hc04,hsl0]
    obtain ⟨hh,hhe⟩:∃ hh,hh=upd h8 c4 (some (.row 15 [[.int 1,.str vn,.sl [[.int f1.const,row (f1.terms.map Term.cells),.int 1]] true,.sl [[.int f2.const,row (f2.terms.map Term.cells),.int 1]] true,.nil,.nil,.str ⟨#[]⟩,.nil,.int 0,.int 0,.int 0,.nil,.str ⟨#[]⟩,.nil,.nil]] .live none)):=⟨_,rfl⟩
    have hX:=(congrFun hhe c4).trans af
    have hB:hh c0=some (.row 1 [[row (aB around)]] .live none):=by rw [hhe,ad (by omega)]; exact hb8
    have hN:hh gn=some (.row 1 [[.int n']] .live none):=by rw [hhe,ad (by omega),u4 _ (by omega),t4 _ (by omega),ad (by omega),s4 _ (by omega)]; exact hgn3
    have hM:SM hh g L a8:=by unfold SM; rw [hhe,ad (by omega)]; exact u3
    have hF:∀ k,k<c→k≠g→hh k=h k:=fun k hk hkg=>by rw [hhe,ad (by omega),u4 _ hkg,t4 _ hkg,ad (by omega),s4 _ hkg,r4 _ hkg,hfr2' _ (by omega)]
    rw [←hhe]
    obtain ⟨cc,hcc⟩:∃ cc,cc=c10:=⟨_,rfl⟩
    obtain ⟨aa,haa⟩:∃ aa,aa=a8:=⟨_,rfl⟩
    rw [←hcc]
    rw [←haa] at hM
    have hnlo:norm (.sl [[.int f1.const,row (f1.terms.map Term.cells),.int 1]] true)=row (([⟨f1,1⟩]:List Wb.Bound).map Bound.cells):=by simp [Bound.cells]
    have hnhi:norm (.sl [[.int f2.const,row (f2.terms.map Term.cells),.int 1]] true)=row (([⟨f2,1⟩]:List Wb.Bound).map Bound.cells):=by simp [Bound.cells]
    obtain ⟨lo,hloe⟩:∃ lo:AV,lo=.sl [[.int f1.const,row (f1.terms.map Term.cells),.int 1]] true:=⟨_,rfl⟩
    obtain ⟨hi',hhie⟩:∃ hi':AV,hi'=.sl [[.int f2.const,row (f2.terms.map Term.cells),.int 1]] true:=⟨_,rfl⟩
    have hloc:lo.cell=true:=by rw [hloe]; rfl
    have hhic:hi'.cell=true:=by rw [hhie]; rfl
    rw [←hloe] at hnlo hX
    rw [←hhie] at hnhi hX
    refine (fM around hh cc).mono ?_
    rintro av ⟨h20,c20⟩ hc20 ⟨hF20,hav20⟩
    simp only at hc20 hF20 hav20
    obtain ⟨g20,c21,h21,hap20,hg20,hF21,hg20c⟩:=ek hF20 hav20 vn (by omega)
    have hslv:(aB (around++[vn])).length=around.length+1:=by simp [aB]
    have hfz20:=cY (s:=⟨h21,c21⟩) (z:=1) hg20 hslv
    obtain ⟨h22,hh22⟩:∃ h22,h22=upd h21 g20 (some (.row 1 (aB (around++[vn])) .frz none)):=⟨_,rfl⟩
    have hF22:Fr cc hh h22 c21:=by rw [hh22]; exact hF21.upd hg20c (Nat.le_refl _)
    have hX20:=(hF20.h c4 (by omega)).trans hX
    have hB20:=(hF20.h c0 (by omega)).trans hB
    have hwd:=ae (x:=deep-1) (by omega) (by omega)
    have hcc21:=hF22.c
    simp [hX20,hB20,bsI,au,hap20,hfz20,-dP,hwd,←hh22]
    refine ((hsub hd) (around++[vn]) 2 n' aa h22 c21 (by simp; omega) (by omega) (by omega) (by unfold SM; rw [hF22.h g (by omega)]; exact hM) (by omega) (by omega) ((hF22.h gn (by omega)).trans hN) (by omega) (by omega) (by omega) (by omega)).mono ?_
    rintro av ⟨h23,c23⟩ hc23 ⟨es2,gr2,hes2,rfl,m2,n2,a2,S2,o1,o2,o3,o4,o5,o6,o7,o8,o9,o10,o11,o12,o13⟩
    simp only at hc23 o2 o3 o4 o5 o7 o10 o13
    have hX23:=(o13 c4 (by omega) (by omega) (by omega)).trans ((hF22.h c4 (by omega)).trans hX)
    have hgr23:h23 gr=some (.row 15 es .live none):=(o13 gr (by omega) (by omega) (by omega)).trans ((hF22.h gr (by omega)).trans ((hF gr (by omega) (by omega)).trans p3))
    obtain ⟨el,hel⟩:∃ el:List AV,el=[.int 1,.str vn,lo,hi',.nil,.row gr2 15 0 es2.length,.str ⟨#[]⟩,.nil,.int 0,.int 0,.int 0,.nil,.str ⟨#[]⟩,.nil,.nil]:=⟨_,rfl⟩
    obtain ⟨h24,hh24⟩:∃ h24,h24=upd h23 c4 (some (.row 15 [el] .live none)):=⟨_,rfl⟩
    have hX24:h24 c4=some (.row 15 [el] .live none):=by rw [hh24,af]
    have hte:Tr 2 h24 (fun k=>S2 k∨k=gr2) [el] (1+m2+0):=by
     rw [hel]
     exact Tr.cons (fun k=>S2 k∨k=gr2) (fun k=>k=gr2) S2 (fun _=>False) 1 vn lo hi' .nil (.row gr2 15 0 es2.length) ⟨#[]⟩ .nil _ ([⟨f1,1⟩]) ([⟨f2,1⟩]) [] [] (.mk 0 0 ⟨0,[]⟩ ⟨#[]⟩ [] []) es2 [] m2 0 hnlo hnhi (by rfl) (by simp [Expr.cells_mk,aT]) ⟨hloc,hhic,rfl,rfl,by simp⟩ (.inl rfl) (.inr ⟨gr2,rfl,rfl,by rw [hh24,ad (by omega)]; exact o3⟩)
      (o4.frame fun k hk=>by have:=o5 k hk; rw [hh24,ad (by omega)]) (.nil _) (fun _ h=>.inr h) (fun _ h=>.inl h) (fun _ h=>h.elim) (fun k h1 h2=>(o5 k h2).2.2 h1) (fun _ _ h=>h) (fun _ _ h=>h)
    have hok1:az 15 el=true:=hte.len el (by simp)
    have hgr24:h24 gr=some (.row 15 es .live none):=by rw [hh24,ad (by omega)]; exact hgr23
    have hap24:apI 15 272 .plain (.row gr 15 0 es.length) (.sl [el] true) ⟨h24,c23⟩=_:=bH (by decide) hgr24 rfl (by decide) (by decide) (by decide) hok1 (by omega)
    have hel15:el.length=15:=by rw [hel]; rfl
    have heltk:el.take 15=el:=List.take_of_length_le (by omega)
    have hbs24:=dM (sz:=15) (zs:=[.int 0,.str ⟨#[]⟩,.nil,.nil,.nil,.nil,.str ⟨#[]⟩,.nil,.int 0,.int 0,.int 0,.nil,.str ⟨#[]⟩,.nil,.nil]) (by rfl) (by decide) hok1 ⟨h24,c23⟩
    have hwi:=ae (x:=(i:Int)+1) (by omega) (by omega)
    simp [hX23,hloc,hhic,←hel,←hh24,hX24,h11,hbs24,hap24,hel15,heltk,hv,hwi,hInv]
    refine ⟨es++[el],c23,⟨rfl,by simp⟩,?_⟩
    refine StI.next (n1:=n') (n2:=n2) (a1:=a') (a2:=a2) (Se:=fun k=>S2 k∨k=gr2) (m1:=1+m2+0) (h:=h) (c:=c) hg hgnc hlen p1 p2 p3 p4 p5 p6 p9 p8 p12 p11 p13 p14 (by omega) ?_ hte ?_ (by omega) (by omega) (by omega) ?_ ?_ (by omega) (by omega)
    ·intro k hk hk1 hk2
     rw [hh24,ad (by omega),o13 _ (by omega) hk1 hk2,hF22.h _ (by omega)]; exact hF k hk hk1
    ·intro k hk
     rcases hk with hk | rfl
     ·have:=o5 k hk; omega
     ·omega
    ·rw [hh24,ad (by omega)]; exact o7
    ·unfold SM; rw [hh24,ad (by omega)]; exact o10
   have hal:0<around.length:=List.length_pos_iff.2 har0
   have hsl:(aB around).length=around.length:=by simp [aB]
   simp [bsI,au,Bound.av,Bound.cells,hx8,hb8,hc04,hsl,hal]
   refine ACalls.draw (cM L a8 4 g _ _ (by omega) (by unfold SM; rw [ad hg4]; exact u3) (by omega) (by omega) hL (by omega)) fun w h12 c12 a12 hw hc12 w1 w2 w3 w4=>?_
   obtain ⟨b12,rfl⟩:=hw
   have hX12:=(w4 c4 h4g).trans af
   have hB12:h12 c0=some (.row 1 [[row (aB around)]] .live none):=by rw [w4 _ hcg,ad (by omega)]; exact hb8
   have hN12:h12 gn=some (.row 1 [[.int n']] .live none):=by rw [w4 _ (by omega),ad (by omega),u4 _ (by omega),t4 _ (by omega),ad (by omega),s4 _ (by omega)]; exact hgn3
   have hF12:∀ k,k<c→k≠g→h12 k=h k:=fun k hk hkg=>by rw [w4 _ hkg,ad (by omega),u4 _ hkg,t4 _ hkg,ad (by omega),s4 _ hkg,r4 _ hkg,hfr2' _ (by omega)]
   cases b12
   case false=>
    simp
    obtain ⟨hh,hhe⟩:∃ hh,hh=h12:=⟨_,rfl⟩
    obtain ⟨cc,hcc⟩:∃ cc,cc=c12:=⟨_,rfl⟩
    obtain ⟨aa,haa⟩:∃ aa,aa=a12:=⟨_,rfl⟩
    have hX:=hX12
    have hB:=hB12
    have hN:=hN12
    have hM:=w3
    have hF:=hF12
    rw [←hhe] at hX hB hN hM hF
    rw [←haa] at hM
    simp only [←hhe,←hcc]
    simp [hX,hB,bsI,au]
    have hnlo:norm (.sl [[.int f1.const,row (f1.terms.map Term.cells),.int 1]] true)=row (([⟨f1,1⟩]:List Wb.Bound).map Bound.cells):=by simp [Bound.cells]
    have hnhi:norm (.sl [[.int f2.const,row (f2.terms.map Term.cells),.int 1]] true)=row (([⟨f2,1⟩]:List Wb.Bound).map Bound.cells):=by simp [Bound.cells]
    obtain ⟨lo,hloe⟩:∃ lo:AV,lo=.sl [[.int f1.const,row (f1.terms.map Term.cells),.int 1]] true:=⟨_,rfl⟩
    obtain ⟨hi',hhie⟩:∃ hi':AV,hi'=.sl [[.int f2.const,row (f2.terms.map Term.cells),.int 1]] true:=⟨_,rfl⟩
    have hloc:lo.cell=true:=by rw [hloe]; rfl
    have hhic:hi'.cell=true:=by rw [hhie]; rfl
    rw [←hloe] at hnlo hX
    rw [←hhie] at hnhi hX
    refine (fM around hh cc).mono ?_
    rintro av ⟨h20,c20⟩ hc20 ⟨hF20,hav20⟩
    simp only at hc20 hF20 hav20
    obtain ⟨g20,c21,h21,hap20,hg20,hF21,hg20c⟩:=ek hF20 hav20 vn (by omega)
    have hslv:(aB (around++[vn])).length=around.length+1:=by simp [aB]
    have hfz20:=cY (s:=⟨h21,c21⟩) (z:=1) hg20 hslv
    obtain ⟨h22,hh22⟩:∃ h22,h22=upd h21 g20 (some (.row 1 (aB (around++[vn])) .frz none)):=⟨_,rfl⟩
    have hF22:Fr cc hh h22 c21:=by rw [hh22]; exact hF21.upd hg20c (Nat.le_refl _)
    have hX20:=(hF20.h c4 (by omega)).trans hX
    have hB20:=(hF20.h c0 (by omega)).trans hB
    have hwd:=ae (x:=deep-1) (by omega) (by omega)
    have hcc21:=hF22.c
    simp [hX20,hB20,bsI,au,hap20,hfz20,-dP,hwd,←hh22]
    refine ((hsub hd) (around++[vn]) 2 n' aa h22 c21 (by simp; omega) (by omega) (by omega) (by unfold SM; rw [hF22.h g (by omega)]; exact hM) (by omega) (by omega) ((hF22.h gn (by omega)).trans hN) (by omega) (by omega) (by omega) (by omega)).mono ?_
    rintro av ⟨h23,c23⟩ hc23 ⟨es2,gr2,hes2,rfl,m2,n2,a2,S2,o1,o2,o3,o4,o5,o6,o7,o8,o9,o10,o11,o12,o13⟩
    simp only at hc23 o2 o3 o4 o5 o7 o10 o13
    have hX23:=(o13 c4 (by omega) (by omega) (by omega)).trans ((hF22.h c4 (by omega)).trans hX)
    have hgr23:h23 gr=some (.row 15 es .live none):=(o13 gr (by omega) (by omega) (by omega)).trans ((hF22.h gr (by omega)).trans ((hF gr (by omega) (by omega)).trans p3))
    obtain ⟨el,hel⟩:∃ el:List AV,el=[.int 1,.str vn,lo,hi',.nil,.row gr2 15 0 es2.length,.str ⟨#[]⟩,.nil,.int 0,.int 0,.int 0,.nil,.str ⟨#[]⟩,.nil,.nil]:=⟨_,rfl⟩
    obtain ⟨h24,hh24⟩:∃ h24,h24=upd h23 c4 (some (.row 15 [el] .live none)):=⟨_,rfl⟩
    have hX24:h24 c4=some (.row 15 [el] .live none):=by rw [hh24,af]
    have hte:Tr 2 h24 (fun k=>S2 k∨k=gr2) [el] (1+m2+0):=by
     rw [hel]
     exact Tr.cons (fun k=>S2 k∨k=gr2) (fun k=>k=gr2) S2 (fun _=>False) 1 vn lo hi' .nil (.row gr2 15 0 es2.length) ⟨#[]⟩ .nil _ ([⟨f1,1⟩]) ([⟨f2,1⟩]) [] [] (.mk 0 0 ⟨0,[]⟩ ⟨#[]⟩ [] []) es2 [] m2 0 hnlo hnhi (by rfl) (by simp [Expr.cells_mk,aT]) ⟨hloc,hhic,rfl,rfl,by simp⟩ (.inl rfl) (.inr ⟨gr2,rfl,rfl,by rw [hh24,ad (by omega)]; exact o3⟩)
      (o4.frame fun k hk=>by have:=o5 k hk; rw [hh24,ad (by omega)]) (.nil _) (fun _ h=>.inr h) (fun _ h=>.inl h) (fun _ h=>h.elim) (fun k h1 h2=>(o5 k h2).2.2 h1) (fun _ _ h=>h) (fun _ _ h=>h)
    have hok1:az 15 el=true:=hte.len el (by simp)
    have hgr24:h24 gr=some (.row 15 es .live none):=by rw [hh24,ad (by omega)]; exact hgr23
    have hap24:apI 15 272 .plain (.row gr 15 0 es.length) (.sl [el] true) ⟨h24,c23⟩=_:=bH (by decide) hgr24 rfl (by decide) (by decide) (by decide) hok1 (by omega)
    have hel15:el.length=15:=by rw [hel]; rfl
    have heltk:el.take 15=el:=List.take_of_length_le (by omega)
    have hbs24:=dM (sz:=15) (zs:=[.int 0,.str ⟨#[]⟩,.nil,.nil,.nil,.nil,.str ⟨#[]⟩,.nil,.int 0,.int 0,.int 0,.nil,.str ⟨#[]⟩,.nil,.nil]) (by rfl) (by decide) hok1 ⟨h24,c23⟩
    have hwi:=ae (x:=(i:Int)+1) (by omega) (by omega)
    simp [hX23,hloc,hhic,←hel,←hh24,hX24,h11,hbs24,hap24,hel15,heltk,hv,hwi,hInv]
    refine ⟨es++[el],c23,⟨rfl,by simp⟩,?_⟩
    refine StI.next (n1:=n') (n2:=n2) (a1:=a') (a2:=a2) (Se:=fun k=>S2 k∨k=gr2) (m1:=1+m2+0) (h:=h) (c:=c) hg hgnc hlen p1 p2 p3 p4 p5 p6 p9 p8 p12 p11 p13 p14 (by omega) ?_ hte ?_ (by omega) (by omega) (by omega) ?_ ?_ (by omega) (by omega)
    ·intro k hk hk1 hk2
     rw [hh24,ad (by omega),o13 _ (by omega) hk1 hk2,hF22.h _ (by omega)]; exact hF k hk hk1
    ·intro k hk
     rcases hk with hk | rfl
     ·have:=o5 k hk; omega
     ·omega
    ·rw [hh24,ad (by omega)]; exact o7
    ·unfold SM; rw [hh24,ad (by omega)]; exact o10
   obtain ⟨q,hqa⟩:∃ q,around.length=q+1:=⟨around.length-1,by omega⟩
   obtain ⟨lv,hlv⟩:∃ lv,(aB around)[q]?=some [.str lv]:=⟨around[q],by simp [aB,hqa]⟩
   have hslq:(aB around).length=q+1:=by rw [hsl,hqa]
   have hwq:=ae (x:=(q:Int)) (by omega) (by omega)
   have hlv2:∀ hq:q<(aB around).length,(aB around)[q]'hq=[.str lv]:=fun hq=>(List.getElem?_eq_some_iff.1 hlv).2
   simp [hX12,hB12,hslq,hwq,hlv,hlv2]
   refine ACalls.draw (bY L a12 4 g h12 c12 (by omega) w3 (by omega) (by omega) hL (by omega)) fun w h13 c13 a13 hw hc13 x1 x2 x3 x4=>?_
   obtain ⟨k7,rfl,hk7,hk8,_⟩:=hw
   have hX13:=(x4 c4 h4g).trans hX12
   have hB13:=(x4 c0 hcg).trans hB12
   have hN13:=(x4 gn (by omega)).trans hN12
   have hF13:∀ k,k<c→k≠g→h13 k=h k:=fun k hk hkg=>(x4 k hkg).trans (hF12 k hk hkg)
   by_cases e0:k7=0
   ·simp [e0,bsI,au,aK]
    refine ACalls.quiet (R:=fun av=>∃ f:Wb.Form,av=f.av) (bD 0 [⟨lv,1⟩] (by simp) (by simp) ⟨h13,c13⟩) fun w c14 hw hc14=>?_
    obtain ⟨f3,rfl⟩:=hw
    simp
    refine ACalls.pure (eK f3 1) fun c15 hc15=>?_
    simp [bsI,au,Bound.av,Bound.cells,hX13,hB13,hc04]
    obtain ⟨hh,hhe⟩:∃ hh,hh=upd h13 c4 (some (.row 15 [[.int 1,.str vn,.sl [[.int f3.const,row (f3.terms.map Term.cells),.int 1]] true,.sl [[.int f2.const,row (f2.terms.map Term.cells),.int 1]] true,.nil,.nil,.str ⟨#[]⟩,.nil,.int 0,.int 0,.int 0,.nil,.str ⟨#[]⟩,.nil,.nil]] .live none)):=⟨_,rfl⟩
    have hX:=(congrFun hhe c4).trans af
    have hB:hh c0=some (.row 1 [[row (aB around)]] .live none):=by rw [hhe,ad (by omega)]; exact hB13
    have hN:hh gn=some (.row 1 [[.int n']] .live none):=by rw [hhe,ad (by omega)]; exact hN13
    have hM:SM hh g L a13:=by unfold SM; rw [hhe,ad (by omega)]; exact x3
    have hF:∀ k,k<c→k≠g→hh k=h k:=fun k hk hkg=>by rw [hhe,ad (by omega)]; exact hF13 k hk hkg
    rw [←hhe]
    obtain ⟨cc,hcc⟩:∃ cc,cc=c15:=⟨_,rfl⟩
    obtain ⟨aa,haa⟩:∃ aa,aa=a13:=⟨_,rfl⟩
    rw [←hcc]
    rw [←haa] at hM
    have hnlo:norm (.sl [[.int f3.const,row (f3.terms.map Term.cells),.int 1]] true)=row (([⟨f3,1⟩]:List Wb.Bound).map Bound.cells):=by simp [Bound.cells]
    have hnhi:norm (.sl [[.int f2.const,row (f2.terms.map Term.cells),.int 1]] true)=row (([⟨f2,1⟩]:List Wb.Bound).map Bound.cells):=by simp [Bound.cells]
    obtain ⟨lo,hloe⟩:∃ lo:AV,lo=.sl [[.int f3.const,row (f3.terms.map Term.cells),.int 1]] true:=⟨_,rfl⟩
    obtain ⟨hi',hhie⟩:∃ hi':AV,hi'=.sl [[.int f2.const,row (f2.terms.map Term.cells),.int 1]] true:=⟨_,rfl⟩
    have hloc:lo.cell=true:=by rw [hloe]; rfl
    have hhic:hi'.cell=true:=by rw [hhie]; rfl
    rw [←hloe] at hnlo hX
    rw [←hhie] at hnhi hX
    refine (fM around hh cc).mono ?_
    rintro av ⟨h20,c20⟩ hc20 ⟨hF20,hav20⟩
    simp only at hc20 hF20 hav20
    obtain ⟨g20,c21,h21,hap20,hg20,hF21,hg20c⟩:=ek hF20 hav20 vn (by omega)
    have hslv:(aB (around++[vn])).length=around.length+1:=by simp [aB]
    have hfz20:=cY (s:=⟨h21,c21⟩) (z:=1) hg20 hslv
    obtain ⟨h22,hh22⟩:∃ h22,h22=upd h21 g20 (some (.row 1 (aB (around++[vn])) .frz none)):=⟨_,rfl⟩
    have hF22:Fr cc hh h22 c21:=by rw [hh22]; exact hF21.upd hg20c (Nat.le_refl _)
    have hX20:=(hF20.h c4 (by omega)).trans hX
    have hB20:=(hF20.h c0 (by omega)).trans hB
    have hwd:=ae (x:=deep-1) (by omega) (by omega)
    have hcc21:=hF22.c
    simp [hX20,hB20,bsI,au,hap20,hfz20,-dP,hwd,←hh22]
    refine ((hsub hd) (around++[vn]) 2 n' aa h22 c21 (by simp; omega) (by omega) (by omega) (by unfold SM; rw [hF22.h g (by omega)]; exact hM) (by omega) (by omega) ((hF22.h gn (by omega)).trans hN) (by omega) (by omega) (by omega) (by omega)).mono ?_
    rintro av ⟨h23,c23⟩ hc23 ⟨es2,gr2,hes2,rfl,m2,n2,a2,S2,o1,o2,o3,o4,o5,o6,o7,o8,o9,o10,o11,o12,o13⟩
    simp only at hc23 o2 o3 o4 o5 o7 o10 o13
    have hX23:=(o13 c4 (by omega) (by omega) (by omega)).trans ((hF22.h c4 (by omega)).trans hX)
    have hgr23:h23 gr=some (.row 15 es .live none):=(o13 gr (by omega) (by omega) (by omega)).trans ((hF22.h gr (by omega)).trans ((hF gr (by omega) (by omega)).trans p3))
    obtain ⟨el,hel⟩:∃ el:List AV,el=[.int 1,.str vn,lo,hi',.nil,.row gr2 15 0 es2.length,.str ⟨#[]⟩,.nil,.int 0,.int 0,.int 0,.nil,.str ⟨#[]⟩,.nil,.nil]:=⟨_,rfl⟩
    obtain ⟨h24,hh24⟩:∃ h24,h24=upd h23 c4 (some (.row 15 [el] .live none)):=⟨_,rfl⟩
    have hX24:h24 c4=some (.row 15 [el] .live none):=by rw [hh24,af]
    have hte:Tr 2 h24 (fun k=>S2 k∨k=gr2) [el] (1+m2+0):=by
     rw [hel]
     exact Tr.cons (fun k=>S2 k∨k=gr2) (fun k=>k=gr2) S2 (fun _=>False) 1 vn lo hi' .nil (.row gr2 15 0 es2.length) ⟨#[]⟩ .nil _ ([⟨f3,1⟩]) ([⟨f2,1⟩]) [] [] (.mk 0 0 ⟨0,[]⟩ ⟨#[]⟩ [] []) es2 [] m2 0 hnlo hnhi (by rfl) (by simp [Expr.cells_mk,aT]) ⟨hloc,hhic,rfl,rfl,by simp⟩ (.inl rfl) (.inr ⟨gr2,rfl,rfl,by rw [hh24,ad (by omega)]; exact o3⟩)
      (o4.frame fun k hk=>by have:=o5 k hk; rw [hh24,ad (by omega)]) (.nil _) (fun _ h=>.inr h) (fun _ h=>.inl h) (fun _ h=>h.elim) (fun k h1 h2=>(o5 k h2).2.2 h1) (fun _ _ h=>h) (fun _ _ h=>h)
    have hok1:az 15 el=true:=hte.len el (by simp)
    have hgr24:h24 gr=some (.row 15 es .live none):=by rw [hh24,ad (by omega)]; exact hgr23
    have hap24:apI 15 272 .plain (.row gr 15 0 es.length) (.sl [el] true) ⟨h24,c23⟩=_:=bH (by decide) hgr24 rfl (by decide) (by decide) (by decide) hok1 (by omega)
    have hel15:el.length=15:=by rw [hel]; rfl
    have heltk:el.take 15=el:=List.take_of_length_le (by omega)
    have hbs24:=dM (sz:=15) (zs:=[.int 0,.str ⟨#[]⟩,.nil,.nil,.nil,.nil,.str ⟨#[]⟩,.nil,.int 0,.int 0,.int 0,.nil,.str ⟨#[]⟩,.nil,.nil]) (by rfl) (by decide) hok1 ⟨h24,c23⟩
    have hwi:=ae (x:=(i:Int)+1) (by omega) (by omega)
    simp [hX23,hloc,hhic,←hel,←hh24,hX24,h11,hbs24,hap24,hel15,heltk,hv,hwi,hInv]
    refine ⟨es++[el],c23,⟨rfl,by simp⟩,?_⟩
    refine StI.next (n1:=n') (n2:=n2) (a1:=a') (a2:=a2) (Se:=fun k=>S2 k∨k=gr2) (m1:=1+m2+0) (h:=h) (c:=c) hg hgnc hlen p1 p2 p3 p4 p5 p6 p9 p8 p12 p11 p13 p14 (by omega) ?_ hte ?_ (by omega) (by omega) (by omega) ?_ ?_ (by omega) (by omega)
    ·intro k hk hk1 hk2
     rw [hh24,ad (by omega),o13 _ (by omega) hk1 hk2,hF22.h _ (by omega)]; exact hF k hk hk1
    ·intro k hk
     rcases hk with hk | rfl
     ·have:=o5 k hk; omega
     ·omega
    ·rw [hh24,ad (by omega)]; exact o7
    ·unfold SM; rw [hh24,ad (by omega)]; exact o10
   by_cases e1:k7=1
   ·simp [e0,e1,bsI,au,aK]
    refine ACalls.quiet (R:=fun av=>∃ f:Wb.Form,av=f.av) (bD 0 [⟨lv,1⟩] (by simp) (by simp) ⟨h13,c13⟩) fun w c14 hw hc14=>?_
    obtain ⟨f3,rfl⟩:=hw
    simp
    refine ACalls.pure (eK f3 1) fun c15 hc15=>?_
    simp [bsI,au,Bound.av,Bound.cells,hX13,hB13,hc04]
    obtain ⟨hh,hhe⟩:∃ hh,hh=upd h13 c4 (some (.row 15 [[.int 1,.str vn,.sl [[.int f1.const,row (f1.terms.map Term.cells),.int 1]] true,.sl [[.int f3.const,row (f3.terms.map Term.cells),.int 1]] true,.nil,.nil,.str ⟨#[]⟩,.nil,.int 0,.int 0,.int 0,.nil,.str ⟨#[]⟩,.nil,.nil]] .live none)):=⟨_,rfl⟩
    have hX:=(congrFun hhe c4).trans af
    have hB:hh c0=some (.row 1 [[row (aB around)]] .live none):=by rw [hhe,ad (by omega)]; exact hB13
    have hN:hh gn=some (.row 1 [[.int n']] .live none):=by rw [hhe,ad (by omega)]; exact hN13
    have hM:SM hh g L a13:=by unfold SM; rw [hhe,ad (by omega)]; exact x3
    have hF:∀ k,k<c→k≠g→hh k=h k:=fun k hk hkg=>by rw [hhe,ad (by omega)]; exact hF13 k hk hkg
    rw [←hhe]
    obtain ⟨cc,hcc⟩:∃ cc,cc=c15:=⟨_,rfl⟩
    obtain ⟨aa,haa⟩:∃ aa,aa=a13:=⟨_,rfl⟩
    rw [←hcc]
    rw [←haa] at hM
    have hnlo:norm (.sl [[.int f1.const,row (f1.terms.map Term.cells),.int 1]] true)=row (([⟨f1,1⟩]:List Wb.Bound).map Bound.cells):=by simp [Bound.cells]
    have hnhi:norm (.sl [[.int f3.const,row (f3.terms.map Term.cells),.int 1]] true)=row (([⟨f3,1⟩]:List Wb.Bound).map Bound.cells):=by simp [Bound.cells]
    obtain ⟨lo,hloe⟩:∃ lo:AV,lo=.sl [[.int f1.const,row (f1.terms.map Term.cells),.int 1]] true:=⟨_,rfl⟩
    obtain ⟨hi',hhie⟩:∃ hi':AV,hi'=.sl [[.int f3.const,row (f3.terms.map Term.cells),.int 1]] true:=⟨_,rfl⟩
    have hloc:lo.cell=true:=by rw [hloe]; rfl
    have hhic:hi'.cell=true:=by rw [hhie]; rfl
    rw [←hloe] at hnlo hX
    rw [←hhie] at hnhi hX
    refine (fM around hh cc).mono ?_
    rintro av ⟨h20,c20⟩ hc20 ⟨hF20,hav20⟩
    simp only at hc20 hF20 hav20
    obtain ⟨g20,c21,h21,hap20,hg20,hF21,hg20c⟩:=ek hF20 hav20 vn (by omega)
    have hslv:(aB (around++[vn])).length=around.length+1:=by simp [aB]
    have hfz20:=cY (s:=⟨h21,c21⟩) (z:=1) hg20 hslv
    obtain ⟨h22,hh22⟩:∃ h22,h22=upd h21 g20 (some (.row 1 (aB (around++[vn])) .frz none)):=⟨_,rfl⟩
    have hF22:Fr cc hh h22 c21:=by rw [hh22]; exact hF21.upd hg20c (Nat.le_refl _)
    have hX20:=(hF20.h c4 (by omega)).trans hX
    have hB20:=(hF20.h c0 (by omega)).trans hB
    have hwd:=ae (x:=deep-1) (by omega) (by omega)
    have hcc21:=hF22.c
    simp [hX20,hB20,bsI,au,hap20,hfz20,-dP,hwd,←hh22]
    refine ((hsub hd) (around++[vn]) 2 n' aa h22 c21 (by simp; omega) (by omega) (by omega) (by unfold SM; rw [hF22.h g (by omega)]; exact hM) (by omega) (by omega) ((hF22.h gn (by omega)).trans hN) (by omega) (by omega) (by omega) (by omega)).mono ?_
    rintro av ⟨h23,c23⟩ hc23 ⟨es2,gr2,hes2,rfl,m2,n2,a2,S2,o1,o2,o3,o4,o5,o6,o7,o8,o9,o10,o11,o12,o13⟩
    simp only at hc23 o2 o3 o4 o5 o7 o10 o13
    have hX23:=(o13 c4 (by omega) (by omega) (by omega)).trans ((hF22.h c4 (by omega)).trans hX)
    have hgr23:h23 gr=some (.row 15 es .live none):=(o13 gr (by omega) (by omega) (by omega)).trans ((hF22.h gr (by omega)).trans ((hF gr (by omega) (by omega)).trans p3))
    obtain ⟨el,hel⟩:∃ el:List AV,el=[.int 1,.str vn,lo,hi',.nil,.row gr2 15 0 es2.length,.str ⟨#[]⟩,.nil,.int 0,.int 0,.int 0,.nil,.str ⟨#[]⟩,.nil,.nil]:=⟨_,rfl⟩
    obtain ⟨h24,hh24⟩:∃ h24,h24=upd h23 c4 (some (.row 15 [el] .live none)):=⟨_,rfl⟩
    have hX24:h24 c4=some (.row 15 [el] .live none):=by rw [hh24,af]
    have hte:Tr 2 h24 (fun k=>S2 k∨k=gr2) [el] (1+m2+0):=by
     rw [hel]
     exact Tr.cons (fun k=>S2 k∨k=gr2) (fun k=>k=gr2) S2 (fun _=>False) 1 vn lo hi' .nil (.row gr2 15 0 es2.length) ⟨#[]⟩ .nil _ ([⟨f1,1⟩]) ([⟨f3,1⟩]) [] [] (.mk 0 0 ⟨0,[]⟩ ⟨#[]⟩ [] []) es2 [] m2 0 hnlo hnhi (by rfl) (by simp [Expr.cells_mk,aT]) ⟨hloc,hhic,rfl,rfl,by simp⟩ (.inl rfl) (.inr ⟨gr2,rfl,rfl,by rw [hh24,ad (by omega)]; exact o3⟩)
      (o4.frame fun k hk=>by have:=o5 k hk; rw [hh24,ad (by omega)]) (.nil _) (fun _ h=>.inr h) (fun _ h=>.inl h) (fun _ h=>h.elim) (fun k h1 h2=>(o5 k h2).2.2 h1) (fun _ _ h=>h) (fun _ _ h=>h)
    have hok1:az 15 el=true:=hte.len el (by simp)
    have hgr24:h24 gr=some (.row 15 es .live none):=by rw [hh24,ad (by omega)]; exact hgr23
    have hap24:apI 15 272 .plain (.row gr 15 0 es.length) (.sl [el] true) ⟨h24,c23⟩=_:=bH (by decide) hgr24 rfl (by decide) (by decide) (by decide) hok1 (by omega)
    have hel15:el.length=15:=by rw [hel]; rfl
    have heltk:el.take 15=el:=List.take_of_length_le (by omega)
    have hbs24:=dM (sz:=15) (zs:=[.int 0,.str ⟨#[]⟩,.nil,.nil,.nil,.nil,.str ⟨#[]⟩,.nil,.int 0,.int 0,.int 0,.nil,.str ⟨#[]⟩,.nil,.nil]) (by rfl) (by decide) hok1 ⟨h24,c23⟩
    have hwi:=ae (x:=(i:Int)+1) (by omega) (by omega)
    simp [hX23,hloc,hhic,←hel,←hh24,hX24,h11,hbs24,hap24,hel15,heltk,hv,hwi,hInv]
    refine ⟨es++[el],c23,⟨rfl,by simp⟩,?_⟩
    refine StI.next (n1:=n') (n2:=n2) (a1:=a') (a2:=a2) (Se:=fun k=>S2 k∨k=gr2) (m1:=1+m2+0) (h:=h) (c:=c) hg hgnc hlen p1 p2 p3 p4 p5 p6 p9 p8 p12 p11 p13 p14 (by omega) ?_ hte ?_ (by omega) (by omega) (by omega) ?_ ?_ (by omega) (by omega)
    ·intro k hk hk1 hk2
     rw [hh24,ad (by omega),o13 _ (by omega) hk1 hk2,hF22.h _ (by omega)]; exact hF k hk hk1
    ·intro k hk
     rcases hk with hk | rfl
     ·have:=o5 k hk; omega
     ·omega
    ·rw [hh24,ad (by omega)]; exact o7
    ·unfold SM; rw [hh24,ad (by omega)]; exact o10
   by_cases e2:k7=2
   ·simp [e0,e1,e2,bsI,au,aK,hX13]
    refine ACalls.quiet (R:=fun av=>∃ f:Wb.Form,av=f.av) (bD 3 [⟨lv,1⟩] (by simp) (by simp) ⟨h13,c13⟩) fun w c14 hw hc14=>?_
    obtain ⟨f3,rfl⟩:=hw
    simp [hX13]
    refine ACalls.pure (eK f3 2) fun c15 hc15=>?_
    have hapq:=cJ (sz:=3) (bytes:=40) (md:=.fz) (es:=[[.int f2.const,row (f2.terms.map Term.cells),.int 1]]) (xs:=[[.int f3.const,row (f3.terms.map Term.cells),.int 2]]) (b:=true) (s:=⟨h13,c15⟩) (by decide) (by decide) (by decide) (fun e he=>by simp at he; subst he; rfl) (fun e he=>by simp at he; subst he; rfl) (by simp) (.inl (by simp))
    have h4c:¬c4=c15:=by omega
    have h0c:¬c0=c15:=by omega
    simp [bsI,au,Bound.av,Bound.cells,hX13,hB13,hc04,hapq,h4c,h0c]
    obtain ⟨hh,hhe⟩:∃ hh,hh=upd (upd h13 c15 (some (.row 3 [[.int f2.const,row (f2.terms.map Term.cells),.int 1],[.int f3.const,row (f3.terms.map Term.cells),.int 2]] .frz none))) c4 (some (.row 15 [[.int 1,.str vn,.sl [[.int f1.const,row (f1.terms.map Term.cells),.int 1]] true,.sl [[.int f2.const,row (f2.terms.map Term.cells),.int 1],[.int f3.const,row (f3.terms.map Term.cells),.int 2]] false,.nil,.nil,.str ⟨#[]⟩,.nil,.int 0,.int 0,.int 0,.nil,.str ⟨#[]⟩,.nil,.nil]] .live none)):=⟨_,rfl⟩
    have hX:=(congrFun hhe c4).trans af
    have hB:hh c0=some (.row 1 [[row (aB around)]] .live none):=by rw [hhe,ad (by omega),ad (by omega)]; exact hB13
    have hN:hh gn=some (.row 1 [[.int n']] .live none):=by rw [hhe,ad (by omega),ad (by omega)]; exact hN13
    have hM:SM hh g L a13:=by unfold SM; rw [hhe,ad (by omega),ad (by omega)]; exact x3
    have hF:∀ k,k<c→k≠g→hh k=h k:=fun k hk hkg=>by rw [hhe,ad (by omega),ad (by omega)]; exact hF13 k hk hkg
    rw [←hhe]
    obtain ⟨cc,hcc⟩:∃ cc,cc=(c15+1):=⟨_,rfl⟩
    obtain ⟨aa,haa⟩:∃ aa,aa=a13:=⟨_,rfl⟩
    rw [←hcc]
    rw [←haa] at hM
    have hnlo:norm (.sl [[.int f1.const,row (f1.terms.map Term.cells),.int 1]] true)=row (([⟨f1,1⟩]:List Wb.Bound).map Bound.cells):=by simp [Bound.cells]
    have hnhi:norm (.sl [[.int f2.const,row (f2.terms.map Term.cells),.int 1],[.int f3.const,row (f3.terms.map Term.cells),.int 2]] false)=row (([⟨f2,1⟩,⟨f3,2⟩]:List Wb.Bound).map Bound.cells):=by simp [Bound.cells]
    obtain ⟨lo,hloe⟩:∃ lo:AV,lo=.sl [[.int f1.const,row (f1.terms.map Term.cells),.int 1]] true:=⟨_,rfl⟩
    obtain ⟨hi',hhie⟩:∃ hi':AV,hi'=.sl [[.int f2.const,row (f2.terms.map Term.cells),.int 1],[.int f3.const,row (f3.terms.map Term.cells),.int 2]] false:=⟨_,rfl⟩
    have hloc:lo.cell=true:=by rw [hloe]; rfl
    have hhic:hi'.cell=true:=by rw [hhie]; rfl
    rw [←hloe] at hnlo hX
    rw [←hhie] at hnhi hX
    refine (fM around hh cc).mono ?_
    rintro av ⟨h20,c20⟩ hc20 ⟨hF20,hav20⟩
    simp only at hc20 hF20 hav20
    obtain ⟨g20,c21,h21,hap20,hg20,hF21,hg20c⟩:=ek hF20 hav20 vn (by omega)
    have hslv:(aB (around++[vn])).length=around.length+1:=by simp [aB]
    have hfz20:=cY (s:=⟨h21,c21⟩) (z:=1) hg20 hslv
    obtain ⟨h22,hh22⟩:∃ h22,h22=upd h21 g20 (some (.row 1 (aB (around++[vn])) .frz none)):=⟨_,rfl⟩
    have hF22:Fr cc hh h22 c21:=by rw [hh22]; exact hF21.upd hg20c (Nat.le_refl _)
    have hX20:=(hF20.h c4 (by omega)).trans hX
    have hB20:=(hF20.h c0 (by omega)).trans hB
    have hwd:=ae (x:=deep-1) (by omega) (by omega)
    have hcc21:=hF22.c
    simp [hX20,hB20,bsI,au,hap20,hfz20,-dP,hwd,←hh22]
    refine ((hsub hd) (around++[vn]) 2 n' aa h22 c21 (by simp; omega) (by omega) (by omega) (by unfold SM; rw [hF22.h g (by omega)]; exact hM) (by omega) (by omega) ((hF22.h gn (by omega)).trans hN) (by omega) (by omega) (by omega) (by omega)).mono ?_
    rintro av ⟨h23,c23⟩ hc23 ⟨es2,gr2,hes2,rfl,m2,n2,a2,S2,o1,o2,o3,o4,o5,o6,o7,o8,o9,o10,o11,o12,o13⟩
    simp only at hc23 o2 o3 o4 o5 o7 o10 o13
    have hX23:=(o13 c4 (by omega) (by omega) (by omega)).trans ((hF22.h c4 (by omega)).trans hX)
    have hgr23:h23 gr=some (.row 15 es .live none):=(o13 gr (by omega) (by omega) (by omega)).trans ((hF22.h gr (by omega)).trans ((hF gr (by omega) (by omega)).trans p3))
    obtain ⟨el,hel⟩:∃ el:List AV,el=[.int 1,.str vn,lo,hi',.nil,.row gr2 15 0 es2.length,.str ⟨#[]⟩,.nil,.int 0,.int 0,.int 0,.nil,.str ⟨#[]⟩,.nil,.nil]:=⟨_,rfl⟩
    obtain ⟨h24,hh24⟩:∃ h24,h24=upd h23 c4 (some (.row 15 [el] .live none)):=⟨_,rfl⟩
    have hX24:h24 c4=some (.row 15 [el] .live none):=by rw [hh24,af]
    have hte:Tr 2 h24 (fun k=>S2 k∨k=gr2) [el] (1+m2+0):=by
     rw [hel]
     exact Tr.cons (fun k=>S2 k∨k=gr2) (fun k=>k=gr2) S2 (fun _=>False) 1 vn lo hi' .nil (.row gr2 15 0 es2.length) ⟨#[]⟩ .nil _ ([⟨f1,1⟩]) ([⟨f2,1⟩,⟨f3,2⟩]) [] [] (.mk 0 0 ⟨0,[]⟩ ⟨#[]⟩ [] []) es2 [] m2 0 hnlo hnhi (by rfl) (by simp [Expr.cells_mk,aT]) ⟨hloc,hhic,rfl,rfl,by simp⟩ (.inl rfl) (.inr ⟨gr2,rfl,rfl,by rw [hh24,ad (by omega)]; exact o3⟩)
      (o4.frame fun k hk=>by have:=o5 k hk; rw [hh24,ad (by omega)]) (.nil _) (fun _ h=>.inr h) (fun _ h=>.inl h) (fun _ h=>h.elim) (fun k h1 h2=>(o5 k h2).2.2 h1) (fun _ _ h=>h) (fun _ _ h=>h)
    have hok1:az 15 el=true:=hte.len el (by simp)
    have hgr24:h24 gr=some (.row 15 es .live none):=by rw [hh24,ad (by omega)]; exact hgr23
    have hap24:apI 15 272 .plain (.row gr 15 0 es.length) (.sl [el] true) ⟨h24,c23⟩=_:=bH (by decide) hgr24 rfl (by decide) (by decide) (by decide) hok1 (by omega)
    have hel15:el.length=15:=by rw [hel]; rfl
    have heltk:el.take 15=el:=List.take_of_length_le (by omega)
    have hbs24:=dM (sz:=15) (zs:=[.int 0,.str ⟨#[]⟩,.nil,.nil,.nil,.nil,.str ⟨#[]⟩,.nil,.int 0,.int 0,.int 0,.nil,.str ⟨#[]⟩,.nil,.nil]) (by rfl) (by decide) hok1 ⟨h24,c23⟩
    have hwi:=ae (x:=(i:Int)+1) (by omega) (by omega)
    simp [hX23,hloc,hhic,←hel,←hh24,hX24,h11,hbs24,hap24,hel15,heltk,hv,hwi,hInv]
    refine ⟨es++[el],c23,⟨rfl,by simp⟩,?_⟩
    refine StI.next (n1:=n') (n2:=n2) (a1:=a') (a2:=a2) (Se:=fun k=>S2 k∨k=gr2) (m1:=1+m2+0) (h:=h) (c:=c) hg hgnc hlen p1 p2 p3 p4 p5 p6 p9 p8 p12 p11 p13 p14 (by omega) ?_ hte ?_ (by omega) (by omega) (by omega) ?_ ?_ (by omega) (by omega)
    ·intro k hk hk1 hk2
     rw [hh24,ad (by omega),o13 _ (by omega) hk1 hk2,hF22.h _ (by omega)]; exact hF k hk hk1
    ·intro k hk
     rcases hk with hk | rfl
     ·have:=o5 k hk; omega
     ·omega
    ·rw [hh24,ad (by omega)]; exact o7
    ·unfold SM; rw [hh24,ad (by omega)]; exact o10
   simp [e0,e1,e2,bsI,au,aK,hX13]
   refine ACalls.quiet (R:=fun av=>∃ f:Wb.Form,av=f.av) (bD (-1) [⟨lv,1⟩] (by simp) (by simp) ⟨h13,c13⟩) fun w c14 hw hc14=>?_
   obtain ⟨f3,rfl⟩:=hw
   simp [hX13]
   refine ACalls.pure (eK f3 1) fun c15 hc15=>?_
   have hapq:=cJ (sz:=3) (bytes:=40) (md:=.fz) (es:=[[.int f1.const,row (f1.terms.map Term.cells),.int 1]]) (xs:=[[.int f3.const,row (f3.terms.map Term.cells),.int 1]]) (b:=true) (s:=⟨h13,c15⟩) (by decide) (by decide) (by decide) (fun e he=>by simp at he; subst he; rfl) (fun e he=>by simp at he; subst he; rfl) (by simp) (.inl (by simp))
   have h4c:¬c4=c15:=by omega
   have h0c:¬c0=c15:=by omega
   simp [bsI,au,Bound.av,Bound.cells,hX13,hB13,hc04,hapq,h4c,h0c]
   obtain ⟨hh,hhe⟩:∃ hh,hh=upd (upd h13 c15 (some (.row 3 [[.int f1.const,row (f1.terms.map Term.cells),.int 1],[.int f3.const,row (f3.terms.map Term.cells),.int 1]] .frz none))) c4 (some (.row 15 [[.int 1,.str vn,.sl [[.int f1.const,row (f1.terms.map Term.cells),.int 1],[.int f3.const,row (f3.terms.map Term.cells),.int 1]] false,.sl [[.int f2.const,row (f2.terms.map Term.cells),.int 1]] true,.nil,.nil,.str ⟨#[]⟩,.nil,.int 0,.int 0,.int 0,.nil,.str ⟨#[]⟩,.nil,.nil]] .live none)):=⟨_,rfl⟩
   have hX:=(congrFun hhe c4).trans af
   have hB:hh c0=some (.row 1 [[row (aB around)]] .live none):=by rw [hhe,ad (by omega),ad (by omega)]; exact hB13
   have hN:hh gn=some (.row 1 [[.int n']] .live none):=by rw [hhe,ad (by omega),ad (by omega)]; exact hN13
   have hM:SM hh g L a13:=by unfold SM; rw [hhe,ad (by omega),ad (by omega)]; exact x3
   have hF:∀ k,k<c→k≠g→hh k=h k:=fun k hk hkg=>by rw [hhe,ad (by omega),ad (by omega)]; exact hF13 k hk hkg
   rw [←hhe]
   obtain ⟨cc,hcc⟩:∃ cc,cc=(c15+1):=⟨_,rfl⟩
   obtain ⟨aa,haa⟩:∃ aa,aa=a13:=⟨_,rfl⟩
   rw [←hcc]
   rw [←haa] at hM
   have hnlo:norm (.sl [[.int f1.const,row (f1.terms.map Term.cells),.int 1],[.int f3.const,row (f3.terms.map Term.cells),.int 1]] false)=row (([⟨f1,1⟩,⟨f3,1⟩]:List Wb.Bound).map Bound.cells):=by simp [Bound.cells]
   have hnhi:norm (.sl [[.int f2.const,row (f2.terms.map Term.cells),.int 1]] true)=row (([⟨f2,1⟩]:List Wb.Bound).map Bound.cells):=by simp [Bound.cells]
   obtain ⟨lo,hloe⟩:∃ lo:AV,lo=.sl [[.int f1.const,row (f1.terms.map Term.cells),.int 1],[.int f3.const,row (f3.terms.map Term.cells),.int 1]] false:=⟨_,rfl⟩
   obtain ⟨hi',hhie⟩:∃ hi':AV,hi'=.sl [[.int f2.const,row (f2.terms.map Term.cells),.int 1]] true:=⟨_,rfl⟩
   have hloc:lo.cell=true:=by rw [hloe]; rfl
   have hhic:hi'.cell=true:=by rw [hhie]; rfl
   rw [←hloe] at hnlo hX
   rw [←hhie] at hnhi hX
   refine (fM around hh cc).mono ?_
   rintro av ⟨h20,c20⟩ hc20 ⟨hF20,hav20⟩
   simp only at hc20 hF20 hav20
   obtain ⟨g20,c21,h21,hap20,hg20,hF21,hg20c⟩:=ek hF20 hav20 vn (by omega)
   have hslv:(aB (around++[vn])).length=around.length+1:=by simp [aB]
   have hfz20:=cY (s:=⟨h21,c21⟩) (z:=1) hg20 hslv
   obtain ⟨h22,hh22⟩:∃ h22,h22=upd h21 g20 (some (.row 1 (aB (around++[vn])) .frz none)):=⟨_,rfl⟩
   have hF22:Fr cc hh h22 c21:=by rw [hh22]; exact hF21.upd hg20c (Nat.le_refl _)
   have hX20:=(hF20.h c4 (by omega)).trans hX
   have hB20:=(hF20.h c0 (by omega)).trans hB
   have hwd:=ae (x:=deep-1) (by omega) (by omega)
   have hcc21:=hF22.c
   simp [hX20,hB20,bsI,au,hap20,hfz20,-dP,hwd,←hh22]
   refine ((hsub hd) (around++[vn]) 2 n' aa h22 c21 (by simp; omega) (by omega) (by omega) (by unfold SM; rw [hF22.h g (by omega)]; exact hM) (by omega) (by omega) ((hF22.h gn (by omega)).trans hN) (by omega) (by omega) (by omega) (by omega)).mono ?_
   rintro av ⟨h23,c23⟩ hc23 ⟨es2,gr2,hes2,rfl,m2,n2,a2,S2,o1,o2,o3,o4,o5,o6,o7,o8,o9,o10,o11,o12,o13⟩
   simp only at hc23 o2 o3 o4 o5 o7 o10 o13
   have hX23:=(o13 c4 (by omega) (by omega) (by omega)).trans ((hF22.h c4 (by omega)).trans hX)
   have hgr23:h23 gr=some (.row 15 es .live none):=(o13 gr (by omega) (by omega) (by omega)).trans ((hF22.h gr (by omega)).trans ((hF gr (by omega) (by omega)).trans p3))
   obtain ⟨el,hel⟩:∃ el:List AV,el=[.int 1,.str vn,lo,hi',.nil,.row gr2 15 0 es2.length,.str ⟨#[]⟩,.nil,.int 0,.int 0,.int 0,.nil,.str ⟨#[]⟩,.nil,.nil]:=⟨_,rfl⟩
   obtain ⟨h24,hh24⟩:∃ h24,h24=upd h23 c4 (some (.row 15 [el] .live none)):=⟨_,rfl⟩
   have hX24:h24 c4=some (.row 15 [el] .live none):=by rw [hh24,af]
   have hte:Tr 2 h24 (fun k=>S2 k∨k=gr2) [el] (1+m2+0):=by
    rw [hel]
    exact Tr.cons (fun k=>S2 k∨k=gr2) (fun k=>k=gr2) S2 (fun _=>False) 1 vn lo hi' .nil (.row gr2 15 0 es2.length) ⟨#[]⟩ .nil _ ([⟨f1,1⟩,⟨f3,1⟩]) ([⟨f2,1⟩]) [] [] (.mk 0 0 ⟨0,[]⟩ ⟨#[]⟩ [] []) es2 [] m2 0 hnlo hnhi (by rfl) (by simp [Expr.cells_mk,aT]) ⟨hloc,hhic,rfl,rfl,by simp⟩ (.inl rfl) (.inr ⟨gr2,rfl,rfl,by rw [hh24,ad (by omega)]; exact o3⟩)
     (o4.frame fun k hk=>by have:=o5 k hk; rw [hh24,ad (by omega)]) (.nil _) (fun _ h=>.inr h) (fun _ h=>.inl h) (fun _ h=>h.elim) (fun k h1 h2=>(o5 k h2).2.2 h1) (fun _ _ h=>h) (fun _ _ h=>h)
   have hok1:az 15 el=true:=hte.len el (by simp)
   have hgr24:h24 gr=some (.row 15 es .live none):=by rw [hh24,ad (by omega)]; exact hgr23
   have hap24:apI 15 272 .plain (.row gr 15 0 es.length) (.sl [el] true) ⟨h24,c23⟩=_:=bH (by decide) hgr24 rfl (by decide) (by decide) (by decide) hok1 (by omega)
   have hel15:el.length=15:=by rw [hel]; rfl
   have heltk:el.take 15=el:=List.take_of_length_le (by omega)
   have hbs24:=dM (sz:=15) (zs:=[.int 0,.str ⟨#[]⟩,.nil,.nil,.nil,.nil,.str ⟨#[]⟩,.nil,.int 0,.int 0,.int 0,.nil,.str ⟨#[]⟩,.nil,.nil]) (by rfl) (by decide) hok1 ⟨h24,c23⟩
   have hwi:=ae (x:=(i:Int)+1) (by omega) (by omega)
   simp [hX23,hloc,hhic,←hel,←hh24,hX24,h11,hbs24,hap24,hel15,heltk,hv,hwi,hInv]
   refine ⟨es++[el],c23,⟨rfl,by simp⟩,?_⟩
   refine StI.next (n1:=n') (n2:=n2) (a1:=a') (a2:=a2) (Se:=fun k=>S2 k∨k=gr2) (m1:=1+m2+0) (h:=h) (c:=c) hg hgnc hlen p1 p2 p3 p4 p5 p6 p9 p8 p12 p11 p13 p14 (by omega) ?_ hte ?_ (by omega) (by omega) (by omega) ?_ ?_ (by omega) (by omega)
   ·intro k hk hk1 hk2
    rw [hh24,ad (by omega),o13 _ (by omega) hk1 hk2,hF22.h _ (by omega)]; exact hF k hk hk1
   ·intro k hk
    rcases hk with hk | rfl
    ·have:=o5 k hk; omega
    ·omega
   ·rw [hh24,ad (by omega)]; exact o7
   ·unfold SM; rw [hh24,ad (by omega)]; exact o10
  by_cases hI:1<deep∧k1=3∧around≠[]
  ·obtain ⟨hd,hk13,har0⟩:=hI
   have hal:0<around.length:=List.length_pos_iff.2 har0
   have hsl:(aB around).length=around.length:=by simp [aB]
   simp [hd,hk13,hb3,hsl,hal]
   obtain ⟨Post,hPost⟩:∃ Post:Slots→St→Prop,Post=fun sl' s'=>∃ (cx:Nat) (f:Wb.Form) (a5:Int),sl' 16=.ptr cx 0 0∧s'.h cx=some (.row 15 [[.int 2,.str ⟨#[]⟩,.nil,.nil,.sl [f.cells] true,.nil,.str ⟨#[]⟩,.nil,.int 0,.int 0,.int 0,.nil,.str ⟨#[]⟩,.nil,.nil]] .live none)∧c3≤cx∧cx<s'.c∧SM s'.h g L a5∧a3≤a5∧a5≤a3+2∧∀ k,k<c3→k≠g→s'.h k=h3 k:=⟨_,rfl⟩
   obtain ⟨lv,hlv⟩:∃ lv,(aB around)[0]?=some [.str lv]:=⟨around[0],by simp [aB,hal]⟩
   have h03:¬c0=c3:=by omega
   have hg3:¬g=c3:=by omega
   have h3g:¬c3=g:=by omega
   refine roamW_cut [16,185,186,188,189,190,191,192,187,193,194,195,196,197,198] (by rfl) Post ?_ ?_
   ·simp [roamW_t,roamW_f,roamW_n,hb3,bsI,au,hlv,h03]
    refine ⟨?_,?_⟩
    ·refine ACalls.draw (R:=fun v=>∃ k,v=.int k∧k∈[-1,2,-2]) (bS [-1,2,-2] L a3 g _ _ (by simp) (by simp) (by unfold SM; rw [ad hg3]; exact r3) (by omega) (by omega) hL (by omega)) fun w h4 c4 a4 hw hc4 s1 s2 s3 s4=>?_
     obtain ⟨pk1,rfl,hpk1⟩:=hw
     have hb4:h4 c0=some (.row 1 [[row (aB around)]] .live none):=by rw [s4 _ hcg,ad h03]; exact hb3
     simp [hb4,bsI,au,hlv]
     refine ACalls.draw (R:=fun v=>∃ k,v=.int k∧k∈[1,-1]) (bS [1,-1] L a4 g _ _ (by simp) (by simp) s3 (by omega) (by omega) hL (by omega)) fun w h5 c5 a5 hw hc5 t1 t2 t3 t4=>?_
     obtain ⟨pk2,rfl,hpk2⟩:=hw
     have hpk20:pk2≠0:=by simp at hpk2; omega
     have hb5:h5 c0=some (.row 1 [[row (aB around)]] .live none):=by rw [t4 _ hcg]; exact hb4
     simp [hb5,bsI,au,aK,hlv]
     refine ACalls.quiet (R:=fun av=>∃ f:Wb.Form,av=f.av) (bD pk1 [⟨lv,pk2⟩] (by simp) (by simp [hpk20]) ⟨h5,c5⟩) fun w c6 hw hc6=>?_
     obtain ⟨f,rfl⟩:=hw
     have hx5:=(t4 c3 h3g).trans ((s4 c3 h3g).trans af)
     simp [Form.av,Form.cells,bsI,au,aK,hx5]
     rw [hPost]
     refine ⟨c3,f,a5,by simp,af,by omega,by show c3<c6; omega,?_,by omega,by omega,?_⟩
     ·show SM (upd h5 c3 _) g L a5; unfold SM; rw [ad (by omega)]; first | assumption | (rw [ad (by omega)]; assumption)
     ·intro k hk hkg
      show upd h5 c3 _ k=_
      grind [upd]
    ·refine ACalls.draw (R:=fun v=>∃ k,v=.int k∧k∈[-1,2,-2]) (bS [-1,2,-2] L a3 g _ _ (by simp) (by simp) r3 (by omega) (by omega) hL (by omega)) fun w h4 c4 a4 hw hc4 s1 s2 s3 s4=>?_
     obtain ⟨pk1,rfl,hpk1⟩:=hw
     have hb4:h4 c0=some (.row 1 [[row (aB around)]] .live none):=by rw [s4 _ hcg]; exact hb3
     have h04:¬c0=c4:=by omega
     have hg4:¬g=c4:=by omega
     have h4g:¬c4=g:=by omega
     simp [roamW_t,roamW_f,roamW_n,hb4,bsI,au,hlv,h04]
     refine ⟨?_,?_⟩
     ·refine ACalls.draw (R:=fun v=>∃ k,v=.int k∧k∈[1,-1]) (bS [1,-1] L a4 g _ _ (by simp) (by simp) (by unfold SM; rw [ad hg4]; exact s3) (by omega) (by omega) hL (by omega)) fun w h5 c5 a5 hw hc5 t1 t2 t3 t4=>?_
      obtain ⟨pk2,rfl,hpk2⟩:=hw
      have hpk20:pk2≠0:=by simp at hpk2; omega
      have hb5:h5 c0=some (.row 1 [[row (aB around)]] .live none):=by rw [t4 _ hcg,ad h04]; exact hb4
      simp [hb5,bsI,au,aK,hlv]
      refine ACalls.quiet (R:=fun av=>∃ f:Wb.Form,av=f.av) (bD pk1 [⟨lv,pk2⟩] (by simp) (by simp [hpk20]) ⟨h5,c5⟩) fun w c6 hw hc6=>?_
      obtain ⟨f,rfl⟩:=hw
      have hx5:=(t4 c4 h4g).trans af
      simp [Form.av,Form.cells,bsI,au,aK,hx5]
      rw [hPost]
      refine ⟨c4,f,a5,by simp,af,by omega,by show c4<c6; omega,?_,by omega,by omega,?_⟩
      ·show SM (upd h5 c4 _) g L a5; unfold SM; rw [ad (by omega)]; first | assumption | (rw [ad (by omega)]; assumption)
      ·intro k hk hkg
       show upd h5 c4 _ k=_
       grind [upd]
     ·refine ACalls.draw (R:=fun v=>∃ k,v=.int k∧k∈[1,-1]) (bS [1,-1] L a4 g _ _ (by simp) (by simp) s3 (by omega) (by omega) hL (by omega)) fun w h5 c5 a5 hw hc5 t1 t2 t3 t4=>?_
      obtain ⟨pk2,rfl,hpk2⟩:=hw
      have hpk20:pk2≠0:=by simp at hpk2; omega
      have hb5:h5 c0=some (.row 1 [[row (aB around)]] .live none):=by rw [t4 _ hcg]; exact hb4
      have h05:¬c0=c5:=by omega
      simp [roamW_t,roamW_f,roamW_n,hb5,bsI,au,aK,hlv,h05]
      refine ⟨?_,?_⟩
      ·refine ACalls.quiet (R:=fun av=>∃ f:Wb.Form,av=f.av) (bD pk1 [⟨lv,pk2⟩] (by simp) (by simp [hpk20]) ⟨_,_⟩) fun w c6 hw hc6=>?_
       obtain ⟨f,rfl⟩:=hw
       simp [roamW_t,roamW_f,roamW_n,Form.av,Form.cells,bsI,au,aK]
       rw [hPost]
       refine ⟨c5,f,a5,by simp,af,by omega,by show c5<c6; omega,?_,by omega,by omega,?_⟩
       ·show SM (upd _ c5 _) g L a5; unfold SM; rw [ad (by omega)]; first | assumption | (rw [ad (by omega)]; assumption)
       ·intro k hk hkg
        show upd _ c5 _ k=_
        grind [upd]
      ·refine ACalls.quiet (R:=fun av=>∃ f:Wb.Form,av=f.av) (bD pk1 [⟨lv,pk2⟩] (by simp) (by simp [hpk20]) ⟨_,_⟩) fun w c6 hw hc6=>?_
       obtain ⟨f,rfl⟩:=hw
       have h06:¬c0=c6:=by omega
       simp [roamW_t,roamW_f,roamW_n,Form.av,Form.cells,bsI,au,aK,h06,hb5]
       rw [hPost]
       refine ⟨c6,f,a5,by simp,af,by omega,by show c6<c6+1; omega,?_,by omega,by omega,?_⟩
       ·show SM (upd _ c6 _) g L a5; unfold SM; rw [ad (by omega)]; first | assumption | (rw [ad (by omega)]; assumption)
       ·intro k hk hkg
        show upd _ c6 _ k=_
        grind [upd]
   ·intro v5 s5 hP
    rw [hPost] at hP
    obtain ⟨cx,f5,a5,hs16,hX5,hcx1,hcx2,hM5,ha5,ha5',hF5⟩:=hP
    obtain ⟨h5,c5⟩:=s5
    simp at hs16
    simp only at hX5 hcx2 hM5 hF5
    simp [hs16,hX5]
    have hb5:h5 c0=some (.row 1 [[row (aB around)]] .live none):=(hF5 c0 (by omega) hcg).trans hb3
    have hn5:h5 gn=some (.row 1 [[.int n']] .live none):=(hF5 gn (by omega) (Ne.symm hgn)).trans hgn3
    have hFh5:∀ k,k<c→k≠g→h5 k=h k:=fun k hk hkg=>by rw [hF5 k (by omega) hkg,r4 _ hkg,hfr2' _ (by omega)]
    refine ACalls.draw (cM L a5 6 g _ _ (by omega) hM5 (by omega) (by omega) hL (by omega)) fun w h6 c6 a6 hw hc6 w1 w2 w3 w4=>?_
    obtain ⟨b6,rfl⟩:=hw
    have hX6:=(w4 cx (by omega)).trans hX5
    have hb6:h6 c0=some (.row 1 [[row (aB around)]] .live none):=(w4 c0 hcg).trans hb5
    have hn6:h6 gn=some (.row 1 [[.int n']] .live none):=(w4 gn (Ne.symm hgn)).trans hn5
    have hF6:∀ k,k<c→k≠g→h6 k=h k:=fun k hk hkg=>(w4 k hkg).trans (hFh5 k hk hkg)
    cases b6
    case false=>
     simp [hs16]
     have hX:=hX6
     have hB:=hb6
     have hN:=hn6
     have hM:=w3
     have hF:=hF6
     have hC:CondAt h6 (fun k=>False) (.sl [f5.cells] true) [f5]:=.inl rfl
     have hwd:=ae (x:=deep-1) (by omega) (by omega)
     simp [hX,hB,hwd]
     refine ((hsub hd) around 1 n' a6 h6 c6 (by omega) (by omega) (by omega) hM (by omega) (by omega) hN (by omega) (by omega) (by omega) (by omega)).mono ?_
     rintro av ⟨h23,c23⟩ hc23 ⟨es2,gr2,hes2,rfl,m2,n2,a2,S2,o1,o2,o3,o4,o5,o6,o7,o8,o9,o10,o11,o12,o13⟩
     simp only at hc23 o2 o3 o4 o5 o7 o10 o13
     have hX23:=(o13 cx (by omega) (by omega) (by omega)).trans hX
     have hgr23:h23 gr=some (.row 15 es .live none):=(o13 gr (by omega) (by omega) (by omega)).trans ((hF gr (by omega) (by omega)).trans p3)
     obtain ⟨cv,hcv⟩:∃ cv:AV,cv=.sl [f5.cells] true:=⟨_,rfl⟩
     have hcvc:cv.cell=true:=by rw [hcv]; rfl
     rw [←hcv] at hX23 hC
     obtain ⟨el,hel⟩:∃ el:List AV,el=[.int 2,.str ⟨#[]⟩,.nil,.nil,cv,.row gr2 15 0 es2.length,.str ⟨#[]⟩,.nil,.int 0,.int 0,.int 0,.nil,.str ⟨#[]⟩,.nil,.nil]:=⟨_,rfl⟩
     obtain ⟨h24,hh24⟩:∃ h24,h24=upd h23 cx (some (.row 15 [el] .live none)):=⟨_,rfl⟩
     have hX24:h24 cx=some (.row 15 [el] .live none):=by rw [hh24,af]
     have hC24:CondAt h24 (fun k=>k=gr2∨False) cv [f5]:=hC.frame (fun k hk=>.inr hk) fun k hk=>by
      exact hk.elim
     have hte:Tr 2 h24 (fun k=>S2 k∨(k=gr2∨False)) [el] (1+m2+0):=by
      rw [hel]
      exact Tr.cons (fun k=>S2 k∨(k=gr2∨False)) (fun k=>k=gr2∨False) S2 (fun _=>False) 2 ⟨#[]⟩ .nil .nil cv (.row gr2 15 0 es2.length) ⟨#[]⟩ .nil _ [] [] [f5] [] (.mk 0 0 ⟨0,[]⟩ ⟨#[]⟩ [] []) es2 [] m2 0 (by rfl) (by rfl) (by rfl) (by simp [Expr.cells_mk,aT]) ⟨rfl,rfl,rfl,rfl,by simp⟩ hC24 (.inr ⟨gr2,.inl rfl,rfl,by rw [hh24,ad (by omega)]; exact o3⟩)
       (o4.frame fun k hk=>by have:=o5 k hk; rw [hh24,ad (by omega)]) (.nil _) (fun _ h=>.inr h) (fun _ h=>.inl h) (fun _ h=>h.elim) (fun k h1 h2=>by have:=o5 k h2; rcases h1 with h1 | h1 <;> omega) (fun _ _ h=>h) (fun _ _ h=>h)
     have hok1:az 15 el=true:=hte.len el (by simp)
     have hgr24:h24 gr=some (.row 15 es .live none):=by rw [hh24,ad (by omega)]; exact hgr23
     have hap24:apI 15 272 .plain (.row gr 15 0 es.length) (.sl [el] true) ⟨h24,c23⟩=_:=bH (by decide) hgr24 rfl (by decide) (by decide) (by decide) hok1 (by omega)
     have hel15:el.length=15:=by rw [hel]; rfl
     have heltk:el.take 15=el:=List.take_of_length_le (by omega)
     have hbs24:=dM (sz:=15) (zs:=[.int 0,.str ⟨#[]⟩,.nil,.nil,.nil,.nil,.str ⟨#[]⟩,.nil,.int 0,.int 0,.int 0,.nil,.str ⟨#[]⟩,.nil,.nil]) (by rfl) (by decide) hok1 ⟨h24,c23⟩
     have hwi:=ae (x:=(i:Int)+1) (by omega) (by omega)
     simp [hs16,hX23,hcvc,←hel,←hh24,hX24,h11,hbs24,hap24,hel15,heltk,hv,hwi,hInv]
     refine ⟨es++[el],c23,⟨rfl,by simp⟩,?_⟩
     refine StI.next (n1:=n') (n2:=n2) (a1:=a') (a2:=a2) (Se:=fun k=>S2 k∨(k=gr2∨False)) (m1:=1+m2+0) (h:=h) (c:=c) hg hgnc hlen p1 p2 p3 p4 p5 p6 p9 p8 p12 p11 p13 p14 (by omega) ?_ hte ?_ (by omega) (by omega) (by omega) ?_ ?_ (by omega) (by omega)
     ·intro k hk hk1 hk2
      rw [hh24,ad (by omega),o13 _ (by omega) hk1 hk2]; exact hF k hk hk1
     ·intro k hk
      rcases hk with hk | rfl | hk
      ·have:=o5 k hk; omega
      ·omega
      ·exact hk.elim
     ·rw [hh24,ad (by omega)]; exact o7
     ·unfold SM; rw [hh24,ad (by omega)]; exact o10
    simp [hs16,hX6,bsI,au]
    refine ACalls.draw (R:=fun v=>∃ k,v=.int k∧k∈[0,-1,3]) (bS [0,-1,3] L a6 g _ _ (by simp) (by simp) w3 (by omega) (by omega) hL (by omega)) fun w h7 c7 a7 hw hc7 u1 u2 u3 u4=>?_
    obtain ⟨pk7,rfl,_⟩:=hw
    have hX7:=(u4 cx (by omega)).trans hX6
    have hb7:h7 c0=some (.row 1 [[row (aB around)]] .live none):=(u4 c0 hcg).trans hb6
    have hn7:h7 gn=some (.row 1 [[.int n']] .live none):=(u4 gn (Ne.symm hgn)).trans hn6
    have hF7:∀ k,k<c→k≠g→h7 k=h k:=fun k hk hkg=>(u4 k hkg).trans (hF6 k hk hkg)
    simp [hs16,hX7,bsI,au]
    refine ACalls.quiet (R:=fun av=>∃ f:Wb.Form,av=f.av) (bD pk7 [] (by simp) (by simp) ⟨h7,c7⟩) fun w c8 hw hc8=>?_
    obtain ⟨f8,rfl⟩:=hw
    have hap8:=cJ (sz:=2) (bytes:=32) (md:=.plain) (es:=[[.int f5.const,row (f5.terms.map Term.cells)]]) (xs:=[[.int f8.const,row (f8.terms.map Term.cells)]]) (b:=true) (s:=⟨h7,c8⟩) (by decide) (by decide) (by decide) (fun e he=>by simp at he; subst he; rfl) (fun e he=>by simp at he; subst he; rfl) (by simp) (.inl (by simp))
    have hxc8:¬cx=c8:=by omega
    simp [hs16,hX7,bsI,au,Form.av,Form.cells,hap8,hxc8]
    obtain ⟨hh,hhe⟩:∃ hh,hh=upd (upd h7 c8 (some (.row 2 [[.int f5.const,row (f5.terms.map Term.cells)],[.int f8.const,row (f8.terms.map Term.cells)]] .live none))) cx (some (.row 15 [[.int 2,.str ⟨#[]⟩,.nil,.nil,.row c8 2 0 2,.nil,.str ⟨#[]⟩,.nil,.int 0,.int 0,.int 0,.nil,.str ⟨#[]⟩,.nil,.nil]] .live none)):=⟨_,rfl⟩
    obtain ⟨cc,hcc⟩:∃ cc,cc=c8+1:=⟨_,rfl⟩
    obtain ⟨aa,haa⟩:∃ aa,aa=a7:=⟨_,rfl⟩
    have hX:=(congrFun hhe cx).trans af
    have hB:hh c0=some (.row 1 [[row (aB around)]] .live none):=by rw [hhe,ad (by omega),ad (by omega)]; exact hb7
    have hN:hh gn=some (.row 1 [[.int n']] .live none):=by rw [hhe,ad (by omega),ad (by omega)]; exact hn7
    have hM:SM hh g L aa:=by rw [haa]; unfold SM; rw [hhe,ad (by omega),ad (by omega)]; exact u3
    have hF:∀ k,k<c→k≠g→hh k=h k:=fun k hk hkg=>by rw [hhe,ad (by omega),ad (by omega)]; exact hF7 k hk hkg
    have hC:CondAt hh (fun k=>k=c8) (.row c8 2 0 2) [f5,f8]:=.inr ⟨c8,rfl,rfl,by rw [hhe,ad (by omega),af]; rfl⟩
    rw [←hhe,←hcc]
    have hwd:=ae (x:=deep-1) (by omega) (by omega)
    simp [hX,hB,hwd]
    refine ((hsub hd) around 1 n' aa hh cc (by omega) (by omega) (by omega) hM (by omega) (by omega) hN (by omega) (by omega) (by omega) (by omega)).mono ?_
    rintro av ⟨h23,c23⟩ hc23 ⟨es2,gr2,hes2,rfl,m2,n2,a2,S2,o1,o2,o3,o4,o5,o6,o7,o8,o9,o10,o11,o12,o13⟩
    simp only at hc23 o2 o3 o4 o5 o7 o10 o13
    have hX23:=(o13 cx (by omega) (by omega) (by omega)).trans hX
    have hgr23:h23 gr=some (.row 15 es .live none):=(o13 gr (by omega) (by omega) (by omega)).trans ((hF gr (by omega) (by omega)).trans p3)
    obtain ⟨cv,hcv⟩:∃ cv:AV,cv=.row c8 2 0 2:=⟨_,rfl⟩
    have hcvc:cv.cell=true:=by rw [hcv]; rfl
    rw [←hcv] at hX23 hC
    obtain ⟨el,hel⟩:∃ el:List AV,el=[.int 2,.str ⟨#[]⟩,.nil,.nil,cv,.row gr2 15 0 es2.length,.str ⟨#[]⟩,.nil,.int 0,.int 0,.int 0,.nil,.str ⟨#[]⟩,.nil,.nil]:=⟨_,rfl⟩
    obtain ⟨h24,hh24⟩:∃ h24,h24=upd h23 cx (some (.row 15 [el] .live none)):=⟨_,rfl⟩
    have hX24:h24 cx=some (.row 15 [el] .live none):=by rw [hh24,af]
    have hC24:CondAt h24 (fun k=>k=gr2∨k=c8) cv [f5,f8]:=hC.frame (fun k hk=>.inr hk) fun k hk=>by
     have hk':k=c8:=hk
     rw [hh24,ad (by omega),o13 k (by omega) (by omega) (by omega)]
    have hte:Tr 2 h24 (fun k=>S2 k∨(k=gr2∨k=c8)) [el] (1+m2+0):=by
     rw [hel]
     exact Tr.cons (fun k=>S2 k∨(k=gr2∨k=c8)) (fun k=>k=gr2∨k=c8) S2 (fun _=>False) 2 ⟨#[]⟩ .nil .nil cv (.row gr2 15 0 es2.length) ⟨#[]⟩ .nil _ [] [] [f5,f8] [] (.mk 0 0 ⟨0,[]⟩ ⟨#[]⟩ [] []) es2 [] m2 0 (by rfl) (by rfl) (by rfl) (by simp [Expr.cells_mk,aT]) ⟨rfl,rfl,rfl,rfl,by simp⟩ hC24 (.inr ⟨gr2,.inl rfl,rfl,by rw [hh24,ad (by omega)]; exact o3⟩)
      (o4.frame fun k hk=>by have:=o5 k hk; rw [hh24,ad (by omega)]) (.nil _) (fun _ h=>.inr h) (fun _ h=>.inl h) (fun _ h=>h.elim) (fun k h1 h2=>by have:=o5 k h2; rcases h1 with h1 | h1 <;> omega) (fun _ _ h=>h) (fun _ _ h=>h)
    have hok1:az 15 el=true:=hte.len el (by simp)
    have hgr24:h24 gr=some (.row 15 es .live none):=by rw [hh24,ad (by omega)]; exact hgr23
    have hap24:apI 15 272 .plain (.row gr 15 0 es.length) (.sl [el] true) ⟨h24,c23⟩=_:=bH (by decide) hgr24 rfl (by decide) (by decide) (by decide) hok1 (by omega)
    have hel15:el.length=15:=by rw [hel]; rfl
    have heltk:el.take 15=el:=List.take_of_length_le (by omega)
    have hbs24:=dM (sz:=15) (zs:=[.int 0,.str ⟨#[]⟩,.nil,.nil,.nil,.nil,.str ⟨#[]⟩,.nil,.int 0,.int 0,.int 0,.nil,.str ⟨#[]⟩,.nil,.nil]) (by rfl) (by decide) hok1 ⟨h24,c23⟩
    have hwi:=ae (x:=(i:Int)+1) (by omega) (by omega)
    simp [hs16,hX23,hcvc,←hel,←hh24,hX24,h11,hbs24,hap24,hel15,heltk,hv,hwi,hInv]
    refine ⟨es++[el],c23,⟨rfl,by simp⟩,?_⟩
    refine StI.next (n1:=n') (n2:=n2) (a1:=a') (a2:=a2) (Se:=fun k=>S2 k∨(k=gr2∨k=c8)) (m1:=1+m2+0) (h:=h) (c:=c) hg hgnc hlen p1 p2 p3 p4 p5 p6 p9 p8 p12 p11 p13 p14 (by omega) ?_ hte ?_ (by omega) (by omega) (by omega) ?_ ?_ (by omega) (by omega)
    ·intro k hk hk1 hk2
     rw [hh24,ad (by omega),o13 _ (by omega) hk1 hk2]; exact hF k hk hk1
    ·intro k hk
     rcases hk with hk | rfl | hk
     ·have:=o5 k hk; omega
     ·omega
     ·have hk':k=c8:=hk
      omega
    ·rw [hh24,ad (by omega)]; exact o7
    ·unfold SM; rw [hh24,ad (by omega)]; exact o10
  have hcase:¬1<deep∨(1<deep∧k1<3∧nk=0)∨(1<deep∧¬k1<3∧k1≠3)∨(1<deep∧k1=3∧around=[]):=by
   by_cases hd:1<deep
   ·by_cases h1:k1<3
    ·exact .inr (.inl ⟨hd,h1,by have:¬0<nk:=fun h=>hF ⟨hd,h1,h⟩; omega⟩)
    ·by_cases h2:k1=3
     ·by_cases h3:around=[]
      ·exact .inr (.inr (.inr ⟨hd,h2,h3⟩))
      ·exact absurd ⟨hd,h2,h3⟩ hI
     ·exact .inr (.inr (.inl ⟨hd,h1,h2⟩))
   ·exact .inl hd
  rcases hcase with hd | ⟨hd,h1,h2⟩ | ⟨hd,h1,h2⟩ | ⟨hd,h1,h2⟩
  case' inl=>simp [hd,hb3]
  case' inr.inl=>
   have h13:¬k1=3:=by omega
   subst h2
   simp [hd,h1,h13,hb3]
  case' inr.inr.inl=>simp [hd,h1,h2,hb3]
  case' inr.inr.inr=>
   have hse:(aB around).length=0:=by rw [h2]; rfl
   simp [hd,h1,hb3,hse]
  all_goals
   refine ACalls.draw (lV around (by omega) L a3 g h3 c3 r3 (by omega) (by omega) hL (by omega)) fun w h4 c4 a4 hw hc4 s1 s2 s3 s4=>?_
   obtain ⟨key,fs,rfl⟩:=hw
   have hb4:h4 c0=some (.row 1 [[row (aB around)]] .live none):=by rw [s4 _ hcg]; exact hb3
   have hgn4:h4 gn=some (.row 1 [[.int n']] .live none):=by rw [s4 _ (Ne.symm hgn)]; exact hgn3
   have hq:n'.tdiv 10=0∨n'.tdiv 10=1:=by
    rw [Int.tdiv_eq_ediv_of_nonneg (by omega)]; omega
   have hwq:=ae (x:=n'.tdiv 10) (by omega) (by omega)
   simp [hb4,hgn4,h11,bsI,au,hwq]
   obtain ⟨z,hz⟩:∃ z,z=IntKind.u8.wrap (IntKind.i64.wrap (48+n'.tmod 10)):=⟨_,rfl⟩
   rw [←hz]
   obtain ⟨zb,hzb⟩:∃ zb:UInt8,zb=UInt8.ofNat z.toNat:=⟨_,rfl⟩
   have hss:(⟨#[115]⟩:ByteArray).size=1:=rfl
   have hss2:(⟨#[zb]⟩:ByteArray).size=1:=rfl
   have hadd:=ru (x:=⟨#[115]⟩) (y:=⟨#[zb]⟩) (by omega)
   simp [lQ,←hzb,hadd,hb4,hgn4,hwq,h11,bsI,au]
   refine ACalls.pure (vN _ _ hq) fun c5 hc5=>?_
   obtain ⟨y,hy⟩:∃ y:ByteArray,y=(if n'.tdiv 10=0 then ⟨#[]⟩ else ⟨#[120]⟩):=⟨_,rfl⟩
   have hys:y.size≤1:=by rw [hy]; split <;> decide
   rw [←hy]
   have hadd2:=ru (x:=⟨#[115]⟩++⟨#[zb]⟩) (y:=y) (by rw [ByteArray.size_append]; omega)
   simp [hadd2,hb4,hgn4,hwq,h11,bsI,au,←hz,←hzb,lQ]
   refine ACalls.draw (R:=fun v=>∃ k,v=.int k∧k∈[1,2,3]) (bS [1,2,3] L a4 g h4 c5 (by simp) (by simp) s3 (by omega) (by omega) hL (by omega)) fun w h6 c6 a6 hw hc6 t1 t2 t3 t4=>?_
   obtain ⟨dp,rfl,hdp⟩:=hw
   have hdp2:1≤dp∧dp≤3:=by simp at hdp; omega
   have hb6:h6 c0=some (.row 1 [[row (aB around)]] .live none):=by rw [t4 _ hcg]; exact hb4
   have hgn6:h6 gn=some (.row 1 [[.int n']] .live none):=by rw [t4 _ (Ne.symm hgn)]; exact hgn4
   simp [hadd2,hb6,hgn6,hwq,h11,bsI,au,←hz,←hzb,lQ]
   have hx2:e8 2=83:=by decide
   refine ACalls.draw (vu around (by omega) L hL g 2 dp a6 h6 c6 (by omega) (by omega) (by omega) t3 (by omega) (by omega) (by omega)) fun w h7 c7 a7 hw hc7 u1 u2 u3 u4=>?_
   obtain ⟨e,rfl⟩:=hw
   have hb7:h7 c0=some (.row 1 [[row (aB around)]] .live none):=by rw [u4 _ hcg]; exact hb6
   have hgn7:h7 gn=some (.row 1 [[.int n']] .live none):=by rw [u4 _ (Ne.symm hgn)]; exact hgn6
   have hgr7:h7 gr=some (.row 15 es .live none):=by rw [u4 _ (by omega),t4 _ (by omega),s4 _ (by omega),r4 _ (by omega),hfr2' _ (by omega)]; exact p3
   obtain ⟨nm,hnm⟩:∃ nm:ByteArray,nm=⟨#[115]⟩++⟨#[zb]⟩++y:=⟨_,rfl⟩
   have hok:∀ x∈es,az 15 x=true:=p4.len
   have hap:∀ x,az 15 x=true→apI 15 272 .plain (.row gr 15 0 es.length) (.sl [x] true) ⟨h7,c7⟩=_:=fun x hx=>bH (by decide) hgr7 rfl (by decide) (by decide) (by decide) hx (by omega)
   obtain ⟨o,en,ef,exx,ey,ez⟩:=e
   have hg1:¬gn=c7:=by omega
   have hg2:¬gn=gr:=by omega
   have hw8:=ae (x:=n'+1) (by omega) (by omega)
   have hwi:=ae (x:=(i:Int)+1) (by omega) (by omega)
   simp [hadd2,hb7,hgn7,hwq,h11,bsI,au,aK,←hz,←hzb,lQ,Expr.av_mk,←hnm,hap,hg1,hg2,hw8,hv,hwi,hInv]
   refine ⟨es++[[.int 3,.str nm,.nil,.nil,.nil,.nil,.str key,row (fs.map Form.cells),.int o,.int en,.int ef.const,row (ef.terms.map Term.cells),.str exx,row (ey.map Form.cells),row (ez.map Expr.cells)]],c7,⟨rfl,by simp⟩,?_⟩
   rw [qH (by omega:c7≠gn),qH (by omega:gr≠gn)]
   refine StI.next (n1:=n') (n2:=n'+1) (a1:=a') (a2:=a7) (Se:=fun _=>False) (m1:=1) (h:=h) (c:=c) hg hgnc hlen p1 p2 p3 p4 p5 p6 p9 p8 p12 p11 p13 p14 (by omega) ?_ ?_ (fun k hk=>hk.elim) (by omega) (by omega) (by omega) af ?_ (by omega) (by omega)
   ·intro k hk hk1 hk2
    rw [ad hk2,u4 _ hk1,t4 _ hk1,s4 _ hk1,r4 _ hk1,hfr2' _ (by omega)]
   ·exact Tr.cons (fun _=>False) (fun _=>False) (fun _=>False) (fun _=>False) 3 nm .nil .nil .nil .nil key (row (fs.map Form.cells)) _ [] [] [] fs (.mk o en ef exx ey ez) [] [] 0 0 rfl rfl (by simp) (by simp [Expr.cells_mk,aT]) (by simp [AV.cell]) (.inl rfl) (.inl ⟨true,rfl,rfl⟩) (.nil _) (.nil _) (fun _ h=>h) (fun _ h=>h) (fun _ h=>h) (fun _ h _=>h) (fun _ h _=>h) (fun _ h _=>h)
   ·unfold SM; rw [ad hgn]; exact u3
end Go.Proofs.YtocppbmmfklbmaaGreat
set_option maxRecDepth 20000
set_option maxHeartbeats 4000000
namespace Go.Proofs.YtocppbmmfklbmaaGreat
open Go.AM Go.Wb
def BT (B:Nat) (h:Heap) (F:Nat→Prop) (x:AV) (n:Nat):Prop:=∃ (es:List (List AV)) (So St:Nat→Prop),BodyAt h So x es∧Tr B h St es n∧(∀ k,So k→F k)∧(∀ k,St k→F k)∧(∀ k,So k→St k→False)
theorem BT.frame {B:Nat} {h h':Heap} {F:Nat→Prop} {x:AV} {n:Nat} (b:BT B h F x n) (hh:∀ k,F k→h' k=h k):BT B h' F x n:=by
 obtain ⟨es,So,St,h1,h2,h3,h4,h5⟩:=b
 exact ⟨es,So,St,h1.frame (fun _ h=>h) fun k hk=>hh k (h3 k hk),h2.frame fun k hk=>hh k (h4 k hk),h3,h4,h5⟩
theorem BT.mono {B:Nat} {h:Heap} {F F':Nat→Prop} {x:AV} {n:Nat} (b:BT B h F x n) (hF:∀ k,F k→F' k):BT B h F' x n:=by
 obtain ⟨es,So,St,h1,h2,h3,h4,h5⟩:=b
 exact ⟨es,So,St,h1,h2,fun k hk=>hF k (h3 k hk),fun k hk=>hF k (h4 k hk),h5⟩
theorem BT.more {B B':Nat} (hB:B≤B') {h:Heap} {F:Nat→Prop} {x:AV} {n:Nat} (b:BT B h F x n):BT B' h F x n:=by
 obtain ⟨es,So,St,h1,h2,h3,h4,h5⟩:=b
 exact ⟨es,So,St,h1,h2.more hB,h3,h4,h5⟩
structure Head (B:Nat) (h:Heap) (F:Nat→Prop) (gl len n:Nat) (kind:Int) (name:ByteArray) (lo hi cv body:AV) (array:ByteArray) (subs:AV) (ex:List AV) (es:List (List AV)) (nb:Nat) (fs:List Wb.Form):Prop where
 hlen:len=es.length+1
 at_:h gl=some (.row 15 ((.int kind::.str name::lo::hi::cv::body::.str array::subs::ex)::es) .live none)
 mem:F gl
 lt:nb<n
 exl:ex.length=7
 cells:lo.cell=true∧hi.cell=true∧subs.cell=true∧ex.all AV.cell=true∧cv.cell=true∧body.cell=true
 conds:fs.length≤B
 cond:cv=.sl (fs.map Form.cells) true∨∃ g,F g∧g≠gl∧cv=.row g 2 0 fs.length∧h g=some (.row 2 (fs.map Form.cells) .live none)
 down:∃ F2:Nat→Prop,(∀ k,F2 k→F k∧k≠gl)∧BT B h F2 body nb∧∀ (h':Heap) (E:Nat→Prop),(∀ k,E k→¬F k)→(∀ k,F k→¬F2 k→h' k=h k)→BT (B+1) h' (fun k=>F2 k∨E k) body nb→BT (B+1) h' (fun k=>F k∨E k) (.row gl 15 0 len) n
 updA:∀ (h':Heap) (kind':Int) (name':ByteArray) (lo':AV) (array':ByteArray) (ex':List AV) (los':List Wb.Bound) (e':Wb.Expr),(lo'=lo∨(norm lo'=row (los'.map Bound.cells)∧lo'.cell=true))→(ex'=ex∨(aT ex'=e'.cells∧ex'.all AV.cell=true)) →
  h' gl=some (.row 15 ((.int kind'::.str name'::lo'::hi::cv::body::.str array'::subs::ex')::es) .live none)→(∀ k,F k→k≠gl→h' k=h k)→BT (B+1) h' F (.row gl 15 0 len) n
 updB:∀ (h':Heap) (E:Nat→Prop) (gn:Nat) (fs':List Wb.Form),fs'.length≤B+1→E gn→(∀ k,E k→¬F k)→h' gn=some (.row 2 (fs'.map Form.cells) .live none) →
  h' gl=some (.row 15 ((.int kind::.str name::lo::hi::.row gn 2 0 fs'.length::body::.str array::subs::ex)::es) .live none)→(∀ k,F k→k≠gl→(∀ m,cv≠.row k 2 0 m)→h' k=h k)→BT (B+1) h' (fun k=>F k∨E k) (.row gl 15 0 len) n
theorem BT.focus {B:Nat} {h:Heap} {F:Nat→Prop} {gl len n:Nat} (b:BT B h F (.row gl 15 0 len) n) (hl:0<len):∃ kind name lo hi cv body array subs ex es nb fs,Head B h F gl len n kind name lo hi cv body array subs ex es nb fs:=by
 obtain ⟨es,So,St,h1,h2,h3,h4,h5⟩:=b
 rcases h1 with ⟨_,h1,_⟩ | ⟨g,hg,h1,h6⟩
 ·cases h1
 injection h1 with e1 e2 e3 e4
 subst e1
 have hok:=h2.len
 cases h2 with
 | nil S=>simp at e4; omega
 | cons S So' Sb Sr kind name lo hi cv body array subs ex los his fs ss e bes es n m hlo hhi hsub hex hlc hc hb ht hr k1 k2 k3 d1 d2 d3=>
  have hok1:=hok _ (List.mem_cons_self)
  simp only [az,List.length_cons,Bool.and_eq_true,beq_iff_eq,List.all_cons] at hok1
  refine ⟨kind,name,lo,hi,cv,body,array,subs,ex,es,n,fs,⟨by simpa using e4,h6,h3 _ hg,by omega,by omega,⟨hlc.1,hlc.2.1,hlc.2.2.1,hlc.2.2.2.1,hok1.2.2.2.2.2.1,hok1.2.2.2.2.2.2.1⟩,hlc.2.2.2.2,?_,?_,?_,?_⟩⟩
  ·rcases hc with hc | ⟨g2,q1,q2,q3⟩
   ·exact .inl hc
   ·exact .inr ⟨g2,h4 _ (k1 _ q1),fun e=>h5 gl hg (e▸k1 _ q1),q2,q3⟩
  ·
   refine ⟨fun k=>(So' k∧∃ m,body=.row k 15 0 m)∨Sb k,?_,⟨bes,fun k=>So' k∧∃ m,body=.row k 15 0 m,Sb,?_,ht,fun k hk=>.inl hk,fun k hk=>.inr hk,fun k hk hk2=>d1 k hk.1 hk2⟩,?_⟩
   ·intro k hk
    have hk':St k:=hk.elim (fun q=>k1 k q.1) (k2 k)
    exact ⟨h4 k hk',fun e=>h5 k (e▸hg) hk'⟩
   ·rcases hb with hb | ⟨g2,q1,q2,q3⟩
    ·exact .inl hb
    ·exact .inr ⟨g2,⟨q1,_,q2⟩,q2,q3⟩
   ·intro h' E hE hh hb'
    obtain ⟨bes',So2,St2,b1,b2,b3,b4,b5⟩:=hb'
    have hgl:h' gl=h gl:=hh gl (h3 _ hg) fun hk=>by
     rcases hk with hk | hk
     ·exact h5 gl hg (k1 _ hk.1)
     ·exact h5 gl hg (k2 _ hk)
    have hnF2:∀ k,So' k→(∀ m,body≠.row k 15 0 m)→h' k=h k:=fun k hk hne=>hh k (h4 _ (k1 _ hk)) fun hk2=>by
     rcases hk2 with ⟨_,m,hm⟩ | hk2
     ·exact hne m hm
     ·exact d1 k hk hk2
    have hcv':CondAt h' (fun k=>So' k∧∀ m,body≠.row k 15 0 m) cv fs:=by
     rcases hc with hc | ⟨g2,q1,q2,q3⟩
     ·exact .inl hc
     ·have hnb:∀ m,body≠.row g2 15 0 m:=fun m hm=>by
       rcases hb with ⟨b,hb,_⟩ | ⟨g3,r1,r2,r3⟩
       ·rw [hb] at hm; cases hm
       ·rw [r2] at hm; injection hm with hm; subst hm; rw [q3] at r3; cases r3
      exact .inr ⟨g2,⟨q1,hnb⟩,q2,(hnF2 g2 q1 hnb).trans q3⟩
    refine ⟨(.int kind::.str name::lo::hi::cv::body::.str array::subs::ex)::es,fun k=>k=gl,fun k=>(St k∧k≠gl)∨E k,.inr ⟨gl,rfl,by rw [e4],hgl.trans h6⟩,?_,fun k hk=>.inl (hk▸h3 _ hg),fun k hk=>hk.imp (fun q=>h4 _ q.1) id,fun k hk hk2=>?_⟩
    ·have hSo2:∀ k,So2 k→((So' k∧∃ m,body=.row k 15 0 m)∨Sb k)∨E k:=b3
     refine Tr.cons _ (fun k=>(So' k∧∀ m,body≠.row k 15 0 m)∨So2 k) St2 Sr kind name lo hi cv body array subs ex los his fs ss e bes' es n m hlo hhi hsub hex ⟨hlc.1,hlc.2.1,hlc.2.2.1,hlc.2.2.2.1,Nat.le_succ_of_le hlc.2.2.2.2⟩ (hcv'.frame (fun _ h=>.inl h) fun _ _=>rfl) (b1.frame (fun _ h=>.inr h) fun _ _=>rfl) b2 ((hr.more (Nat.le_succ B)).frame fun k hk=>hh k (h4 _ (k3 _ hk)) fun hk2=>?_) ?_ ?_ ?_ ?_ ?_ ?_
     ·rcases hk2 with hk2 | hk2
      ·exact d2 k hk2.1 hk
      ·exact d3 k hk2 hk
     ·intro k hk
      rcases hk with hk | hk
      ·exact .inl ⟨k1 _ hk.1,fun e=>h5 gl hg (e▸k1 _ hk.1)⟩
      ·rcases b3 k hk with (hk | hk) | hk
       ·exact .inl ⟨k1 _ hk.1,fun e=>h5 gl hg (e▸k1 _ hk.1)⟩
       ·exact .inl ⟨k2 _ hk,fun e=>h5 gl hg (e▸k2 _ hk)⟩
       ·exact .inr hk
     ·intro k hk
      rcases b4 k hk with (hk | hk) | hk
      ·exact .inl ⟨k1 _ hk.1,fun e=>h5 gl hg (e▸k1 _ hk.1)⟩
      ·exact .inl ⟨k2 _ hk,fun e=>h5 gl hg (e▸k2 _ hk)⟩
      ·exact .inr hk
     ·intro k hk
      exact .inl ⟨k3 _ hk,fun e=>h5 gl hg (e▸k3 _ hk)⟩
     ·intro k hk hk2
      rcases hk with hk | hk
      ·rcases b4 k hk2 with (hk3 | hk3) | hk3
       ·obtain ⟨_,m',hm'⟩:=hk3; exact hk.2 m' hm'
       ·exact d1 k hk.1 hk3
       ·exact hE k hk3 (h4 _ (k1 _ hk.1))
      ·exact b5 k hk hk2
     ·intro k hk hk2
      rcases hk with hk | hk
      ·exact d2 k hk.1 hk2
      ·rcases b3 k hk with (hk | hk) | hk
       ·exact d2 k hk.1 hk2
       ·exact d3 k hk hk2
       ·exact hE k hk (h4 _ (k3 _ hk2))
     ·intro k hk hk2
      rcases b4 k hk with (hk | hk) | hk
      ·exact d2 k hk.1 hk2
      ·exact d3 k hk hk2
      ·exact hE k hk (h4 _ (k3 _ hk2))
    ·subst hk
     rcases hk2 with hk2 | hk2
     ·exact hk2.2 rfl
     ·exact hE _ hk2 (h3 _ hg)
  ·
   intro h' kind' name' lo' array' ex' los' e' hlo' hex' hgl hh
   have hne:∀ k,St k→k≠gl:=fun k hk e=>h5 gl hg (e▸hk)
   have hfr:∀ k,St k→h' k=h k:=fun k hk=>hh k (h4 _ hk) (hne k hk)
   refine ⟨(.int kind'::.str name'::lo'::hi::cv::body::.str array'::subs::ex')::es,fun k=>k=gl,St,.inr ⟨gl,rfl,by rw [e4]; rfl,hgl⟩,?_,fun k hk=>hk▸h3 _ hg,h4,fun k hk hk2=>hne k hk2 hk⟩
   have hlo2:∃ los2:List Wb.Bound,norm lo'=row (los2.map Bound.cells)∧lo'.cell=true:=by
    rcases hlo' with rfl | hq
    ·exact ⟨los,hlo,hlc.1⟩
    ·exact ⟨los',hq⟩
   obtain ⟨los2,hlo2⟩:=hlo2
   have hex2:∃ e2:Wb.Expr,aT ex'=e2.cells∧ex'.all AV.cell=true:=by
    rcases hex' with rfl | hq
    ·exact ⟨e,hex,hlc.2.2.2.1⟩
    ·exact ⟨e',hq⟩
   obtain ⟨e2,he2,he3⟩:=hex2
   exact Tr.cons St So' Sb Sr kind' name' lo' hi cv body array' subs ex' _ his fs ss e2 bes es n m hlo2.1 hhi hsub he2 ⟨hlo2.2,hlc.2.1,hlc.2.2.1,he3,Nat.le_succ_of_le hlc.2.2.2.2⟩ (hc.frame (fun _ h=>h) fun k hk=>hfr k (k1 k hk)) (hb.frame (fun _ h=>h) fun k hk=>hfr k (k1 k hk)) ((ht.more (Nat.le_succ B)).frame fun k hk=>hfr k (k2 k hk)) ((hr.more (Nat.le_succ B)).frame fun k hk=>hfr k (k3 k hk)) k1 k2 k3 d1 d2 d3
  ·
   intro h' E gn fs' hfs' hgn hE hgn2 hgl hh
   have hne:∀ k,St k→k≠gl:=fun k hk e=>h5 gl hg (e▸hk)
   have hncv:∀ k,St k→(∀ m,cv≠.row k 2 0 m)→h' k=h k:=fun k hk hc=>hh k (h4 _ hk) (hne k hk) hc
   have hcS:∀ k m',cv=.row k 2 0 m'→So' k∧∃ es',h k=some (.row 2 es' .live none):=fun k m' hm=>by
    rcases hc with hc | ⟨g2,q1,q2,q3⟩
    ·rw [hc] at hm; cases hm
    ·rw [q2] at hm; injection hm with hm; subst hm; exact ⟨q1,_,q3⟩
   have hSb:∀ k,Sb k→h' k=h k:=fun k hk=>hncv k (k2 k hk) fun m' hm=>d1 k (hcS k m' hm).1 hk
   have hSr:∀ k,Sr k→h' k=h k:=fun k hk=>hncv k (k3 k hk) fun m' hm=>d2 k (hcS k m' hm).1 hk
   refine ⟨(.int kind::.str name::lo::hi::.row gn 2 0 fs'.length::body::.str array::subs::ex)::es,fun k=>k=gl,fun k=>(St k∧k≠gl)∨E k,.inr ⟨gl,rfl,by rw [e4]; rfl,hgl⟩,?_,fun k hk=>.inl (hk▸h3 _ hg),fun k hk=>hk.imp (fun q=>h4 _ q.1) id,fun k hk hk2=>?_⟩
   ·refine Tr.cons _ (fun k=>(So' k∧∃ m,body=.row k 15 0 m)∨k=gn) Sb Sr kind name lo hi (.row gn 2 0 fs'.length) body array subs ex los his fs' ss e bes es n m hlo hhi hsub hex ⟨hlc.1,hlc.2.1,hlc.2.2.1,hlc.2.2.2.1,hfs'⟩ (.inr ⟨gn,.inr rfl,rfl,hgn2⟩) ?_ ((ht.more (Nat.le_succ B)).frame hSb) ((hr.more (Nat.le_succ B)).frame hSr) ?_ ?_ ?_ ?_ ?_ d3
    ·rcases hb with hb | ⟨g3,r1,r2,r3⟩
     ·exact .inl hb
     ·refine .inr ⟨g3,.inl ⟨r1,_,r2⟩,r2,(hncv g3 (k1 _ r1) fun m' hm=>?_).trans r3⟩
      obtain ⟨_,es',hes'⟩:=hcS g3 m' hm
      rw [r3] at hes'; cases hes'
    ·intro k hk
     rcases hk with hk | rfl
     ·exact .inl ⟨k1 _ hk.1,hne k (k1 _ hk.1)⟩
     ·exact .inr hgn
    ·exact fun k hk=>.inl ⟨k2 _ hk,hne k (k2 _ hk)⟩
    ·exact fun k hk=>.inl ⟨k3 _ hk,hne k (k3 _ hk)⟩
    ·intro k hk hk2
     rcases hk with hk | rfl
     ·exact d1 k hk.1 hk2
     ·exact hE _ hgn (h4 _ (k2 _ hk2))
    ·intro k hk hk2
     rcases hk with hk | rfl
     ·exact d2 k hk.1 hk2
     ·exact hE _ hgn (h4 _ (k3 _ hk2))
   ·subst hk
    rcases hk2 with hk2 | hk2
    ·exact hk2.2 rfl
    ·exact hE _ hk2 (h3 _ hg)
def pv (h:Heap) (ga:Nat) (A:List Wb.Array):Prop:=∃ (k0 k1 k2:ByteArray) (s0 s1 s2:AV) (z0 z1 z2:List Int),A=[⟨k0,z0⟩,⟨k1,z1⟩,⟨k2,z2⟩]∧h ga=some (.row 2 [[.str k0,s0],[.str k1,s1],[.str k2,s2]] .live none)∧norm s0=row (aj z0)∧norm s1=row (aj z1)∧norm s2=row (aj z2)∧s0.cell=true∧s1.cell=true∧s2.cell=true
def SmallA (A:List Wb.Array):Prop:=∀ a∈A,a.sizes.length≤5∧∀ k∈a.sizes,0≤k∧k≤20000
end Go.Proofs.YtocppbmmfklbmaaGreat
set_option maxRecDepth 20000
set_option maxHeartbeats 4000000
namespace Go.Proofs.YtocppbmmfklbmaaGreat
open Go.AM Go.Wb
theorem _root_.Go.AM.stI_c {g e o sz:Nat} {v:AV} {es:List (List AV)} {cs:List AV} {s:St} (hv:v.cell=true) (hg:s.h g=some (.row sz es .live none)) (he:es[e]?=some cs) (ho:o+1≤cs.length) :
  stI 1 (.ptr g e o) v s=some { s with h:=upd s.h g (some (.row sz (es.set e (cs.take o++[v]++cs.drop (o+1))) .live none)) }:=by
 have hc:v.cells=[v]:=by cases v <;> first | rfl | cases hv
 simp only [stI,hg,he,hc,List.length_cons,List.length_nil,List.all_cons,List.all_nil,hv,ho,Bool.and_true,and_self,if_true,dm,Nat.zero_add]
theorem _root_.Go.AM.lp_cut {P:Program} {a:AC} {Q:Ex→Slots→St→Prop} {sl:Slots} {s:St} (id:Nat) (W:List Nat) (hW:fV a.wr W=true) (Post:Slots→St→Prop) (h:acW P (.loop a) (fun e sl' s'=>e=.exit id∧Post sl' s') sl s)
  (hk:∀ v s',Post (ov W sl v) s'→Q (.exit id) (ov W sl v) s'):acW P (.loop a) Q sl s:=by
 refine bX _ (gQ _ h) fun e sl' s' hp=>?_
 obtain ⟨⟨rfl,hp⟩,hf⟩:=hp
 have e:ov W sl sl'=sl':=rU fun t ht=>hf t (lu hW ht)
 have:=hk sl' s' (by rw [e]; exact hp)
 rwa [e] at this
theorem BT.len {B:Nat} {h:Heap} {F:Nat→Prop} {x:AV} {n:Nat} (b:BT B h F x n) (s:St):∃ (len:Int),eP 1 x s=some (.int len)∧(0<len→∃ gl l,x=.row gl 15 0 l∧0<l∧len=l)∧(¬0<len→len=0):=by
 obtain ⟨es,So,St,hb,_⟩:=b
 rcases hb with ⟨b,rfl,_⟩ | ⟨g,_,rfl,_⟩
 ·exact ⟨0,rfl,fun h=>by omega,fun _=>rfl⟩
 ·exact ⟨es.length,rfl,fun h=>⟨_,_,rfl,by omega,rfl⟩,fun h=>by omega⟩
structure PgAt (B:Nat) (h:Heap) (cp ga:Nat) (A:List Wb.Array) (F:Nat→Prop) (x:AV) (n:Nat):Prop where
 at_:h cp=some (.row 2 [[.row ga 2 0 3,x]] .live none)
 arr:pv h ga A
 small:SmallA A
 bt:BT B h F x n
 ne:cp≠ga
 fcp:¬F cp
 fga:¬F ga
def nz (L:List Int) (g:Nat) (h0:Heap) (c0 cp ga:Nat) (F:Nat→Prop) (n:Nat) (a:Int) (h:Heap) (c:Nat):Prop:=
 ∃ (A:List Wb.Array) (F':Nat→Prop) (x':AV) (n':Nat) (a':Int),PgAt 3 h cp ga A F' x' n'∧n'≤n+2∧(∀ k,F' k→F k∨(c0≤k∧k<c))∧SM h g L a'∧a≤a'∧a'≤a+100∧∀ k,k<c0→k≠g→k≠cp→k≠ga→¬F k→h k=h0 k
theorem SmallA.one {k0 k1 k2:ByteArray} {z0 z1 z2:List Int} (h:SmallA [⟨k0,z0⟩,⟨k1,z1⟩,⟨k2,z2⟩]) (y:List Int) (hy:y.length≤5∧∀ k∈y,0≤k∧k≤20000) (k':ByteArray):SmallA [⟨k0,y⟩,⟨k1,z1⟩,⟨k2,z2⟩]∧SmallA [⟨k0,z0⟩,⟨k',z1⟩,⟨k2,z2⟩]:=by
 refine ⟨fun a ha=>?_,fun a ha=>?_⟩
 ·simp at ha
  rcases ha with rfl | rfl | rfl
  ·exact hy
  ·exact h _ (by simp)
  ·exact h _ (by simp)
 ·simp at ha
  rcases ha with rfl | rfl | rfl
  ·exact h ⟨k0,z0⟩ (by simp)
  ·exact h ⟨k1,z1⟩ (by simp)
  ·exact h ⟨k2,z2⟩ (by simp)
theorem vp (L:List Int) (hL:L.length≤1048576) (a:Int) (g cp ga:Nat) (A:List Wb.Array) (F:Nat→Prop) (x:AV) (n:Nat) (hn:n≤50) (h0:Heap) (c0:Nat) (hs:SM h0 g L a) (ha:0≤a) (ha':a<700000000) (hg:g<c0) (hcp:cp<c0) (hga:ga<c0) (hgcp:g≠cp) (hgga:g≠ga) (hF:∀ k,F k→k<c0∧k≠g) (hp:PgAt 2 h0 cp ga A F x n) :
  ACalls Pg Fn33.n [.ptr g 0 0,.ptr cp 0 0] ⟨h0,c0⟩ fun av s'=>nz L g h0 c0 cp ga F n a s'.h s'.c:=by
 obtain ⟨p1,p2,p3,p4,p5,p6,p7⟩:=hp
 refine Fn33.calls .keep ?_
 unfold Fn33.ac
 simp
 refine ACalls.draw (bY L a 4 g h0 c0 (by omega) hs ha (by omega) hL (by omega)) fun v h1 c1 a1 hv hc1 q1 q2 q3 q4=>?_
 obtain ⟨k1,rfl,hk1,hk2,_⟩:=hv
 obtain ⟨b0,b1,b2,s0,s1,s2,z0,z1,z2,rfl,r1,r2,r3,r4,r5,r6,r7⟩:=p2
 have hp1:h1 cp=some (.row 2 [[.row ga 2 0 3,x]] .live none):=(q4 cp (Ne.symm hgcp)).trans p1
 have ha1:h1 ga=some (.row 2 [[.str b0,s0],[.str b1,s1],[.str b2,s2]] .live none):=(q4 ga (Ne.symm hgga)).trans r1
 have hbt1:BT 2 h1 F x n:=p4.frame fun k hk=>q4 k (hF k hk).2
 have hxc:x.cell=true:=by
  obtain ⟨es,So,St,hb,_⟩:=p4
  rcases hb with ⟨b,rfl,_⟩ | ⟨g,_,rfl,_⟩ <;> rfl
 by_cases e0:k1=0
 ·subst e0
  simp [hp1,bsI,au]
  refine ACalls.draw (bY L a1 5 g h1 c1 (by omega) q3 (by omega) (by omega) hL (by omega)) fun v h2 c2 a2 hv hc2 t1 t2 t3 t4=>?_
  obtain ⟨k2,rfl,hk3,hk4,_⟩:=hv
  have hp2:=(t4 cp (Ne.symm hgcp)).trans hp1
  have ha2:=(t4 ga (Ne.symm hgga)).trans ha1
  have hk5:∃ (y:List Int) (sv:AV),(y.length≤5∧∀ k∈y,0≤k∧k≤20000)∧([[AV.nil],[.sl [[.int 0]] true],[.sl [[.int 3]] true],[.sl [[.int 20000]] true],[.sl [[.int 2],[.int 2],[.int 2],[.int 2],[.int 2]] true]]:List (List AV))[k2.toNat]?=some [sv]∧norm sv=row (aj y)∧sv.cell=true:=by
   have:k2=0∨k2=1∨k2=2∨k2=3∨k2=4:=by omega
   rcases this with rfl | rfl | rfl | rfl | rfl
   ·exact ⟨[],_,by simp,rfl,rfl,rfl⟩
   ·exact ⟨[0],_,by simp,rfl,rfl,rfl⟩
   ·exact ⟨[3],_,by simp,rfl,rfl,rfl⟩
   ·exact ⟨[20000],_,by simp,rfl,rfl,rfl⟩
   ·exact ⟨[2,2,2,2,2],_,by simp,rfl,rfl,rfl⟩
  obtain ⟨y,sv,hy1,hy2,hy3,hy4⟩:=hk5
  have hst:=stI_c (o:=1) (s:=⟨h2,c2⟩) hy4 ha2 (e:=0) rfl (by simp)
  simp [hp2,hy2,hk3,hst,-rb]
  refine ⟨_,F,x,n,a2,⟨?_,⟨b0,b1,b2,sv,s1,s2,y,z1,z2,rfl,af,hy3,r3,r4,hy4,r6,r7⟩,(p3.one y hy1 b0).1,?_,p5,p6,p7⟩,by omega,fun k hk=>.inl hk,?_,by omega,by omega,?_⟩
  ·show upd h2 ga _ cp=_
   rw [ad p5]; exact hp2
  ·refine (hbt1.more (by omega)).frame fun k hk=>?_
   show upd h2 ga _ k=_
   rw [ad (show k≠ga from fun e=>p7 (e▸hk)),t4 k (hF k hk).2]
  ·show SM (upd h2 ga _) g L a2
   unfold SM; rw [ad hgga]; exact t3
  ·intro k hk hkg hkp hka hkF
   show upd h2 ga _ k=_
   rw [ad hka,t4 k hkg,q4 k hkg]
 by_cases e1:k1=1
 ·subst e1
  simp [hp1,bsI,au]
  refine ACalls.draw (R:=fun v=>∃ k,v=.str k∧k∈([⟨#[97]⟩,⟨#[]⟩,⟨#[105]⟩,⟨#[102,111,114]⟩]:List ByteArray)) (iA [⟨#[97]⟩,⟨#[]⟩,⟨#[105]⟩,⟨#[102,111,114]⟩] L a1 g h1 c1 (by simp) (by simp) q3 (by omega) (by omega) hL (by omega)) fun v h2 c2 a2 hv hc2 t1 t2 t3 t4=>?_
  obtain ⟨nm,rfl,_⟩:=hv
  have hp2:=(t4 cp (Ne.symm hgcp)).trans hp1
  have ha2:=(t4 ga (Ne.symm hgga)).trans ha1
  simp [hp2,ha2]
  refine ⟨_,F,x,n,a2,⟨?_,⟨b0,nm,b2,s0,s1,s2,z0,z1,z2,rfl,af,r2,r3,r4,r5,r6,r7⟩,(p3.one z0 (p3 ⟨b0,z0⟩ (by simp)) nm).2,?_,p5,p6,p7⟩,by omega,fun k hk=>.inl hk,?_,by omega,by omega,?_⟩
  ·show upd h2 ga _ cp=_
   rw [ad p5]; exact hp2
  ·refine (hbt1.more (by omega)).frame fun k hk=>?_
   show upd h2 ga _ k=_
   rw [ad (show k≠ga from fun e=>p7 (e▸hk)),t4 k (hF k hk).2]
  ·show SM (upd h2 ga _) g L a2
   unfold SM; rw [ad hgga]; exact t3
  ·intro k hk hkg hkp hka hkF
   show upd h2 ga _ k=_
   rw [ad hka,t4 k hkg,q4 k hkg]
 by_cases e2:k1=2
 ·subst e2
  simp [hp1]
  obtain ⟨Inv,hInv⟩:∃ Inv:Int→Nat→Slots→St→Prop,Inv=fun d m sl s'=>∃ (x':AV) (F2:Nat→Prop) (a':Int),sl 4=x'∧(∀ k,F2 k→F k)∧BT 2 s'.h F2 x' m∧m≤n∧SM s'.h g L a'∧a1≤a'∧a'+m≤a1+n+d∧c1≤s'.c∧(∀ k,k≠g→s'.h k=h1 k) ∧
    ∀ (h':Heap) (E:Nat→Prop),(∀ k,E k→¬F k)→(∀ k,F k→¬F2 k→h' k=h1 k)→BT 3 h' (fun k=>F2 k∨E k) x' m→BT 3 h' (fun k=>F k∨E k) x n:=⟨_,rfl⟩
  obtain ⟨Post,hPost⟩:∃ Post:Slots→St→Prop,Post=fun sl s'=>∃ m,Inv 1 m sl s':=⟨_,rfl⟩
  refine lp_cut 1 Fn33.W0 (by rfl) Post ?_ ?_
  ·refine cD Fn33.W0 (by rfl) (Inv 0) n ?_ ?_
   ·rw [hInv]; exact ⟨x,F,a1,by simp,fun _ h=>h,hbt1,Nat.le_refl _,q3,Int.le_refl _,by omega,Nat.le_refl _,fun _ _=>rfl,fun _ _ _ _ h=>h⟩
   ·intro m v s' hI
    have hI':=hI
    rw [hInv] at hI
    obtain ⟨x',F2,a2,h4,i1,i2,i3,i4,i5,i6,i7,i8,i9⟩:=hI
    obtain ⟨h,c⟩:=s'
    simp at h4
    simp only at i2 i4 i7 i8
    obtain ⟨len,hlen,hpos,_⟩:=i2.len ⟨h,c⟩
    have hfin:∀ (h':Heap) (a':Int) (c':Nat),c≤c'→SM h' g L a'→a2≤a'→(∀ k,k≠g→h' k=h k)→∀ sl':Slots,sl' 4=x'→a'+m≤a1+n+1→Post sl' ⟨h',c'⟩:=by
     intro h' a' c' hc hsm hle hfr sl' hsl hle2
     rw [hPost,hInv]
     exact ⟨m,x',F2,a',hsl,i1,i2.frame fun k hk=>hfr k (hF k (i1 k hk)).2,i3,hsm,by omega,by omega,by show c1≤c'; omega,fun k hk=>(hfr k hk).trans (i8 k hk),i9⟩
    by_cases hl:0<len
    case neg=>
     simp [h4,hlen,hl]
     exact hfin h a2 c (by omega) i4 (by omega) (fun _ _=>rfl) _ (by simp [h4]) (by omega)
    obtain ⟨gl,l,rfl,hl1,hl2⟩:=hpos hl
    obtain ⟨kind,name,lo,hi,cv,body,array,subs,ex,es,nb,fs,H⟩:=i2.focus hl1
    have hHa:=H.at_
    obtain ⟨F3,j1,j2,j3⟩:=H.down
    obtain ⟨len2,hlen2,hpos2,_⟩:=j2.len ⟨h,c⟩
    have hl1':(0:Int)<l:=by omega
    simp [h4,hlen,hl,hHa,hl1,hlen2]
    by_cases hb:0<len2
    case neg=>
     simp [hb]
     exact hfin h a2 c (by omega) i4 (by omega) (fun _ _=>rfl) _ (by simp [h4]) (by omega)
    simp [hb]
    refine ACalls.draw (cM L a2 2 g h c (by omega) i4 (by omega) (by omega) hL (by omega)) fun v h2 c2 a3 hv hc2 t1 t2 t3 t4=>?_
    obtain ⟨b,rfl⟩:=hv
    have hH2:=(t4 gl (hF gl (i1 gl H.mem)).2).trans hHa
    have hlt:=H.lt
    cases b
    case false=>
     simp
     exact hfin h2 a3 c2 hc2 t3 t1 t4 _ (by simp [h4]) (by omega)
    simp [h4,hl1,hH2]
    refine ⟨nb,hlt,?_⟩
    rw [hInv]
    have hle:a3+nb≤a1+n+0:=by omega
    refine ⟨body,F3,a3,by simp,fun k hk=>i1 k (j1 k hk).1,j2.frame fun k hk=>t4 k (hF k (i1 k (j1 k hk).1)).2,by omega,t3,by omega,by omega,by show c1≤c2; omega,fun k hk=>(t4 k hk).trans (i8 k hk),?_⟩
    intro h' E hE hh hb'
    refine i9 h' E hE (fun k hk hk2=>hh k hk fun hk3=>hk2 (j1 k hk3).1) ?_
    refine j3 h' E (fun k hk hk2=>hE k hk (i1 k hk2)) (fun k hk hk2=>?_) hb'
    rw [hh k (i1 k hk) hk2,i8 k (hF k (i1 k hk)).2]
  ·intro v s' hP
   rw [hPost] at hP
   obtain ⟨m,hI⟩:=hP
   rw [hInv] at hI
   obtain ⟨x',F2,a2,h4,i1,i2,i3,i4,i5,i6,i7,i8,i9⟩:=hI
   obtain ⟨h,c⟩:=s'
   simp at h4
   simp only at i2 i4 i7 i8
   have hdone:∀ (h':Heap) (c':Nat) (a':Int) (E:Nat→Prop),(∀ k,E k→c0≤k∧k<c')→BT 3 h' (fun k=>F k∨E k) x n→SM h' g L a'→a1≤a'→a'≤a1+n+40→(∀ k,¬F k→k<c0→k≠g→h' k=h1 k)→nz L g h0 c0 cp ga F n a h' c':=by
    intro h' c' a' E hE hb hsm hle hle2 hfr
    refine ⟨_,fun k=>F k∨E k,x,n,a',⟨(hfr cp p6 hcp (Ne.symm hgcp)).trans hp1,⟨b0,b1,b2,s0,s1,s2,z0,z1,z2,rfl,(hfr ga p7 hga (Ne.symm hgga)).trans ha1,r2,r3,r4,r5,r6,r7⟩,p3,hb,p5,fun hk=>?_,fun hk=>?_⟩,by omega,fun k hk=>hk.imp id (hE k),hsm,by omega,by omega,fun k hk hkg hkp hka hkF=>(hfr k hkF hk hkg).trans (q4 k hkg)⟩
    ·rcases hk with hk | hk
     ·exact p6 hk
     ·have:=hE _ hk; omega
    ·rcases hk with hk | hk
     ·exact p7 hk
     ·have:=hE _ hk; omega
   obtain ⟨len,hlen,hpos,hzero⟩:=i2.len ⟨h,c⟩
   by_cases hl:0<len
   case neg=>
    have hz:=hzero hl
    subst hz
    simp [h4,hlen]
    exact hdone h c a2 (fun _=>False) (fun k hk=>hk.elim) ((hbt1.more (by omega)).frame (fun k hk=>i8 k (hF k hk).2) |>.mono fun k hk=>.inl hk) i4 (by omega) (by omega) (fun k _ _ hkg=>i8 k hkg)
   obtain ⟨gl,l,rfl,hl1,hl2⟩:=hpos hl
   obtain ⟨kind,name,lo,hi,cv,body,array,subs,ex,es,nb,fs,H⟩:=i2.focus hl1
   have hHa:=H.at_
   have hglF:=i1 gl H.mem
   have hglg:gl≠g:=(hF gl hglF).2
   have hglc:gl<c0:=(hF gl hglF).1
   have hl1':(0:Int)<l:=by omega
   have hl1'':¬(l:Int)=0:=by omega
   have hl0:l≠0:=by omega
   have hdoneA:∀ (h':Heap) (c':Nat) (a':Int),BT 3 h' F2 (.row gl 15 0 l) m→SM h' g L a'→a1≤a'→a'≤a1+n+40→(∀ k,k≠gl→k≠g→h' k=h1 k)→nz L g h0 c0 cp ga F n a h' c':=by
    intro h' c' a' hb hsm hle hle2 hfr
    refine hdone h' c' a' (fun _=>False) (fun k hk=>hk.elim) (i9 h' _ (fun k hk=>hk.elim) (fun k hk hk2=>hfr k (fun e=>hk2 (e▸H.mem)) (hF k hk).2) (hb.mono fun k hk=>.inl hk)) hsm hle hle2 fun k hk _ hkg=>hfr k (fun e=>hk (e▸hglF)) hkg
   obtain ⟨hcl,hch,hcs,hcx,hcc,hcb⟩:=H.cells
   have hlz:¬len=0:=by omega
   simp [h4,hlen,hl1,hl1',hl1'',hl0,hlz]
   refine ACalls.draw (bY L a2 5 g h c (by omega) i4 (by omega) (by omega) hL (by omega)) fun v h2 c2 a3 hv hc2 t1 t2 t3 t4=>?_
   obtain ⟨k5,rfl,hk5,hk6,_⟩:=hv
   have hH2:=(t4 gl hglg).trans hHa
   have hF2':∀ k,F2 k→k≠g:=fun k hk=>(hF k (i1 k hk)).2
   have hfr2:∀ k,k≠g→h2 k=h1 k:=fun k hk=>(t4 k hk).trans (i8 k hk)
   by_cases f0:k5=0
   ·subst f0
    simp [h4]
    refine ACalls.draw (lW L a3 1 3 g h2 c2 (by omega) (by omega) (by omega) (by omega) t3 (by omega) (by omega) hL (by omega)) fun v h3 c3 a4 hv hc3 u1 u2 u3 u4=>?_
    obtain ⟨kd,rfl⟩:=hv
    have hH3:=(u4 gl hglg).trans hH2
    simp [hH3]
    refine hdoneA _ _ a4 (H.updA _ kd name lo array ex [] (.mk 0 0 ⟨0,[]⟩ ⟨#[]⟩ [] []) (.inl rfl) (.inl rfl) af fun k hk hkl=>?_) ?_ (by omega) (by omega) fun k hk hkg=>?_
    ·show upd h3 gl _ k=_
     rw [ad hkl,u4 k (hF2' k hk),t4 k (hF2' k hk)]
    ·show SM (upd h3 gl _) g L a4
     unfold SM; rw [ad (Ne.symm hglg)]; exact u3
    ·show upd h3 gl _ k=_
     rw [ad hk,u4 k hkg,hfr2 k hkg]
   by_cases f1:k5=1
   ·subst f1
    simp [h4,bsI,au,hH2]
    refine ACalls.draw (R:=fun v=>∃ k,v=.str k∧k∈([⟨#[]⟩,⟨#[97]⟩,⟨#[105]⟩,⟨#[115,48]⟩]:List ByteArray)) (iA [⟨#[]⟩,⟨#[97]⟩,⟨#[105]⟩,⟨#[115,48]⟩] L a3 g h2 c2 (by simp) (by simp) t3 (by omega) (by omega) hL (by omega)) fun v h3 c3 a4 hv hc3 u1 u2 u3 u4=>?_
    obtain ⟨nm,rfl,_⟩:=hv
    have hH3:=(u4 gl hglg).trans hH2
    simp [hH3,bsI,au]
    refine ACalls.draw (R:=fun v=>∃ k,v=.str k∧k∈([array,⟨#[122,122]⟩,⟨#[]⟩]:List ByteArray)) (iA [array,⟨#[122,122]⟩,⟨#[]⟩] L a4 g h3 c3 (by simp) (by simp) u3 (by omega) (by omega) hL (by omega)) fun v h5 c5 a5 hv hc5 w1 w2 w3 w4=>?_
    obtain ⟨ar,rfl,_⟩:=hv
    have hH5:=(w4 gl hglg).trans hH3
    simp [hH5,bsI,au]
    refine hdoneA _ _ a5 (H.updA _ kind nm lo ar ex [] (.mk 0 0 ⟨0,[]⟩ ⟨#[]⟩ [] []) (.inl rfl) (.inl rfl) af fun k hk hkl=>?_) ?_ (by omega) (by omega) fun k hk hkg=>?_
    ·show upd h5 gl _ k=_
     rw [ad hkl,w4 k (hF2' k hk),u4 k (hF2' k hk),t4 k (hF2' k hk)]
    ·show SM (upd h5 gl _) g L a5
     unfold SM; rw [ad (Ne.symm hglg)]; exact w3
    ·show upd h5 gl _ k=_
     rw [ad hk,w4 k hkg,u4 k hkg,hfr2 k hkg]
   by_cases f2:k5=2
   ·subst f2
    simp [h4,bsI,au,hH2]
    refine ACalls.draw (R:=fun v=>∃ k,v=.str k∧k∈([⟨#[105]⟩,⟨#[106]⟩,⟨#[113]⟩]:List ByteArray)) (iA [⟨#[105]⟩,⟨#[106]⟩,⟨#[113]⟩] L a3 g h2 c2 (by simp) (by simp) t3 (by omega) (by omega) hL (by omega)) fun v h3 c3 a4 hv hc3 u1 u2 u3 u4=>?_
    obtain ⟨nm,rfl,_⟩:=hv
    have hH3:=(u4 gl hglg).trans hH2
    simp [hH3,bsI,au]
    refine ACalls.draw (R:=fun v=>∃ k,v=.int k∧k∈[1,1001]) (bS [1,1001] L a4 g h3 c3 (by simp) (by simp) u3 (by omega) (by omega) hL (by omega)) fun v h5 c5 a5 hv hc5 w1 w2 w3 w4=>?_
    obtain ⟨pk,rfl,hpk⟩:=hv
    have hpk0:pk≠0:=by simp at hpk; omega
    have hH5:=(w4 gl hglg).trans hH3
    simp [hH5,bsI,au,aK]
    refine ACalls.quiet (R:=fun av=>∃ f:Wb.Form,av=f.av) (bD 0 [⟨nm,pk⟩] (by simp) (by simp [hpk0]) ⟨h5,c5⟩) fun w c6 hw hc6=>?_
    obtain ⟨f,rfl⟩:=hw
    simp [bsI,au,aK]
    refine ACalls.draw (R:=fun v=>∃ k,v=.int k∧k∈[1,0,3]) (bS [1,0,3] L a5 g h5 c6 (by simp) (by simp) w3 (by omega) (by omega) hL (by omega)) fun v h7 c7 a7 hv hc7 x1 x2 x3 x4=>?_
    obtain ⟨pd,rfl,_⟩:=hv
    have hH7:=(x4 gl hglg).trans hH5
    simp [hH7,bsI,au,aK,Form.av,Form.cells]
    refine hdoneA _ _ a7 (H.updA _ kind name (.sl [[.int f.const,row (f.terms.map Term.cells),.int pd]] true) array ex [⟨f,pd⟩] (.mk 0 0 ⟨0,[]⟩ ⟨#[]⟩ [] []) (.inr ⟨by simp [Bound.cells],rfl⟩) (.inl rfl) af fun k hk hkl=>?_) ?_ (by omega) (by omega) fun k hk hkg=>?_
    ·show upd h7 gl _ k=_
     rw [ad hkl,x4 k (hF2' k hk),w4 k (hF2' k hk),u4 k (hF2' k hk),t4 k (hF2' k hk)]
    ·show SM (upd h7 gl _) g L a7
     unfold SM; rw [ad (Ne.symm hglg)]; exact x3
    ·show upd h7 gl _ k=_
     rw [ad hk,x4 k hkg,w4 k hkg,u4 k hkg,hfr2 k hkg]
   by_cases f3:k5=3
   ·subst f3
    simp [h4,bsI,au,aK,hH2]
    refine ACalls.quiet (R:=fun av=>∃ f:Wb.Form,av=f.av) (bD 0 [⟨⟨#[113]⟩,1⟩] (by simp) (by simp) ⟨h2,c2⟩) fun w c6 hw hc6=>?_
    obtain ⟨f,rfl⟩:=hw
    have hokf:∀ e∈([[.int f.const,row (f.terms.map Term.cells)]]:List (List AV)),az 2 e=true:=fun e he=>by simp at he; subst he; rfl
    have hokfs:∀ e∈fs.map Form.cells,az 2 e=true:=fun e he=>by obtain ⟨t,_,rfl⟩:=List.mem_map.1 he; rfl
    have hfs:(fs++[f]).map Form.cells=fs.map Form.cells++[[.int f.const,row (f.terms.map Term.cells)]]:=by simp [Form.cells]
    have hEc:∀ k,k=c6→¬F2 k:=fun k hk hk2=>by have:=hF k (i1 k hk2); omega
    have hEc':∀ k,k=c6→¬F k:=fun k hk hk2=>by have:=hF k hk2; omega
    have hgl6:gl≠c6:=by omega
    have hg6:g≠c6:=by omega
    have hfsl:(fs++[f]).length=fs.length+1:=by simp
    have hsm:=fs.length
    have hfs2:=H.conds
    rcases H.cond with hcv | ⟨gc,hgc1,hgc2,hcv,hgc3⟩
    ·have hap:=cJ (sz:=2) (bytes:=32) (md:=.plain) (es:=fs.map Form.cells) (xs:=[[.int f.const,row (f.terms.map Term.cells)]]) (b:=true) (s:=⟨h2,c6⟩) (by decide) (by decide) (by decide) hokfs hokf (by simp; omega) (.inl (by simp))
     rw [hcv] at hH2
     simp [Form.av,Form.cells,bsI,au,hcv,hH2,hap,hgl6]
     refine hdone _ (c6+1) a3 (fun k=>k=c6) (fun k hk=>by omega) (i9 _ _ hEc' (fun k hk hk2=>?_) (H.updB _ (fun k=>k=c6) c6 (fs++[f]) (by simp; omega) rfl hEc ?_ (by rw [hfsl]; exact af) (fun k hk hkl hkc=>?_))) ?_ (by omega) (by omega) fun k hk hkc hkg=>?_
     ·have hkl:k≠gl:=fun e=>hk2 (e▸H.mem)
      have hk6:k≠c6:=fun e=>hEc' k e hk
      show upd (upd h2 c6 _) gl _ k=_
      rw [ad hkl,ad hk6,hfr2 k (hF k hk).2]
     ·show upd (upd h2 c6 _) gl _ c6=_
      rw [ad (Ne.symm hgl6),af,hfs]
     ·have hk6:k≠c6:=fun e=>hEc k e hk
      show upd (upd h2 c6 _) gl _ k=_
      rw [ad hkl,ad hk6,t4 k (hF2' k hk)]
     ·show SM (upd (upd h2 c6 _) gl _) g L a3
      unfold SM; rw [ad (Ne.symm hglg),ad hg6]; exact t3
     ·have hkl:k≠gl:=fun e=>hk (e▸hglF)
      show upd (upd h2 c6 _) gl _ k=_
      rw [ad hkl,ad (by omega),hfr2 k hkg]
    ·have hgcg:gc≠g:=(hF gc (i1 gc hgc1)).2
     have hgcc:gc<c0:=(hF gc (i1 gc hgc1)).1
     have hgch:=(t4 gc hgcg).trans hgc3
     have hap:=jD (sz:=2) (bytes:=32) (md:=.plain) (es:=fs.map Form.cells) (xs:=[[.int f.const,row (f.terms.map Term.cells)]]) (b:=true) (len:=fs.length) (s:=⟨h2,c6⟩) (by simp) hgch (by simp) (by decide) (by decide) (by decide) hokf (by simp; omega)
     rw [hcv] at hH2
     have hgcl:¬gl=gc:=Ne.symm hgc2
     simp [Form.av,Form.cells,bsI,au,hcv,hH2,hap,hgl6,hgcl]
     refine hdone _ (c6+1) a3 (fun k=>k=c6) (fun k hk=>by omega) (i9 _ _ hEc' (fun k hk hk2=>?_) (H.updB _ (fun k=>k=c6) c6 (fs++[f]) (by simp; omega) rfl hEc ?_ (by rw [hfsl]; exact af) (fun k hk hkl hkc=>?_))) ?_ (by omega) (by omega) fun k hk hkc hkg=>?_
     ·have hkl:k≠gl:=fun e=>hk2 (e▸H.mem)
      have hk6:k≠c6:=fun e=>hEc' k e hk
      have hkg2:k≠gc:=fun e=>hk2 (e▸hgc1)
      show upd (upd (upd h2 gc _) c6 _) gl _ k=_
      rw [ad hkl,ad hk6,ad hkg2,hfr2 k (hF k hk).2]
     ·show upd (upd (upd h2 gc _) c6 _) gl _ c6=_
      rw [ad (Ne.symm hgl6),af,hfs]
     ·have hk6:k≠c6:=fun e=>hEc k e hk
      have hkg2:k≠gc:=fun e=>by subst e; exact hkc _ hcv
      show upd (upd (upd h2 gc _) c6 _) gl _ k=_
      rw [ad hkl,ad hk6,ad hkg2,t4 k (hF2' k hk)]
     ·show SM (upd (upd (upd h2 gc _) c6 _) gl _) g L a3
      unfold SM; rw [ad (Ne.symm hglg),ad hg6,ad (Ne.symm hgcg)]; exact t3
     ·have hkl:k≠gl:=fun e=>hk (e▸hglF)
      have hkg2:k≠gc:=fun e=>hk (e▸i1 gc hgc1)
      show upd (upd (upd h2 gc _) c6 _) gl _ k=_
      rw [ad hkl,ad (by omega),ad hkg2,hfr2 k hkg]
   simp [f0,f1,f2,f3,h4]
   refine ACalls.draw (lW L a3 1 6 g h2 c2 (by omega) (by omega) (by omega) (by omega) t3 (by omega) (by omega) hL (by omega)) fun v h3 c3 a4 hv hc3 u1 u2 u3 u4=>?_
   obtain ⟨o1,rfl⟩:=hv
   simp
   refine ACalls.draw (lW L a4 0 1000002 g h3 c3 (by omega) (by omega) (by omega) (by omega) u3 (by omega) (by omega) hL (by omega)) fun v h5 c5 a5 hv hc5 w1 w2 w3 w4=>?_
   obtain ⟨o2,rfl⟩:=hv
   simp [bsI,au]
   refine ACalls.draw (R:=fun v=>∃ k,v=.str k∧k∈([⟨#[]⟩,⟨#[97]⟩]:List ByteArray)) (iA [⟨#[]⟩,⟨#[97]⟩] L a5 g h5 c5 (by simp) (by simp) w3 (by omega) (by omega) hL (by omega)) fun v h7 c7 a7 hv hc7 x1 x2 x3 x4=>?_
   obtain ⟨nm,rfl,_⟩:=hv
   have hH7:=(x4 gl hglg).trans ((w4 gl hglg).trans ((u4 gl hglg).trans hH2))
   have hexl:=H.exl
   simp [hH7,aK,hexl]
   refine hdoneA _ _ a7 (H.updA _ kind name lo array [.int o1,.int o2,.int 0,.nil,.str nm,.nil,.nil] [] (.mk o1 o2 ⟨0,[]⟩ nm [] []) (.inl rfl) (.inr ⟨by simp [Expr.cells_mk,aT],rfl⟩) (by simp [hexl]) fun k hk hkl=>?_) ?_ (by omega) (by omega) fun k hk hkg=>?_
   ·show upd h7 gl _ k=_
    rw [ad hkl,x4 k (hF2' k hk),w4 k (hF2' k hk),u4 k (hF2' k hk),t4 k (hF2' k hk)]
   ·show SM (upd h7 gl _) g L a7
    unfold SM; rw [ad (Ne.symm hglg)]; exact x3
   ·show upd h7 gl _ k=_
    rw [ad hk,x4 k hkg,w4 k hkg,u4 k hkg,hfr2 k hkg]
 simp [e0,e1,e2]
 refine ACalls.quiet (R:=fun av=>∃ f:Wb.Form,av=f.av) (bD 0 [] (by simp) (by simp) ⟨h1,c1⟩) fun w c2 hw hc2=>?_
 obtain ⟨f1,rfl⟩:=hw
 simp
 refine ACalls.pure (eK f1 1) fun c3 hc3=>?_
 simp [bsI,au,Bound.av,Bound.cells]
 refine ACalls.draw (R:=fun v=>∃ k,v=.int k∧k∈[2,300,1000000]) (bS [2,300,1000000] L a1 g h1 c3 (by simp) (by simp) q3 (by omega) (by omega) hL (by omega)) fun v h4 c4 a4 hv hc4 t1 t2 t3 t4=>?_
 obtain ⟨pk,rfl,_⟩:=hv
 simp
 refine ACalls.quiet (R:=fun av=>∃ f:Wb.Form,av=f.av) (bD pk [] (by simp) (by simp) ⟨h4,c4⟩) fun w c5 hw hc5=>?_
 obtain ⟨f2,rfl⟩:=hw
 simp
 refine ACalls.pure (eK f2 1) fun c6 hc6=>?_
 have hp4:=(t4 cp (Ne.symm hgcp)).trans hp1
 have hcp6:¬cp=c6:=by omega
 simp [bsI,au,Bound.av,Bound.cells,aK,hp4,hcp6]
 have hg6:¬g=c6:=by omega
 have h6g:¬c6=g:=by omega
 refine ACalls.draw (R:=fun v=>∃ k,v=.int k∧k∈[1,1000]) (bS [1,1000] L a4 g _ _ (by simp) (by simp) (by unfold SM; rw [ad hg6]; exact t3) (by omega) (by omega) hL (by omega)) fun v h7 c7 a7 hv hc7 u1 u2 u3 u4=>?_
 obtain ⟨pk2,rfl,hpk2⟩:=hv
 have hpk0:pk2≠0:=by simp at hpk2; omega
 have hp7:h7 cp=some (.row 2 [[.row ga 2 0 3,x]] .live none):=by rw [u4 cp (Ne.symm hgcp),ad hcp6]; exact hp4
 have hx7:=(u4 c6 h6g).trans af
 simp [hp7,bsI,au,aK]
 refine ACalls.quiet (R:=fun av=>∃ f:Wb.Form,av=f.av) (bD 0 [⟨⟨#[105]⟩,pk2⟩] (by simp) (by simp [hpk0]) ⟨h7,c7⟩) fun w c8 hw hc8=>?_
 obtain ⟨f3,rfl⟩:=hw
 simp [hp7]
 refine ACalls.pure (eK f3 1) fun c9 hc9=>?_
 simp [bsI,au,Bound.av,Bound.cells,hp7]
 refine ACalls.quiet (R:=fun av=>∃ f:Wb.Form,av=f.av) (bD 900 [] (by simp) (by simp) ⟨h7,c9⟩) fun w c10 hw hc10=>?_
 obtain ⟨f4,rfl⟩:=hw
 simp [hp7]
 refine ACalls.pure (eK f4 1) fun c11 hc11=>?_
 have h611:¬c6=c11:=by omega
 have hcp11:¬cp=c11:=by omega
 have hcp12:¬cp=c11+1:=by omega
 have hc11:c0≤c6∧c6+1≤c11:=by omega
 have hfin:∀ h',h' cp=some (.row 2 [[.row ga 2 0 3,.row (c11+1) 15 0 1]] .live none)→(∀ k,k≠cp→h' k=upd (upd (upd (upd h7 c11 (some (.row 15 [[.int 1,.str ⟨#[106]⟩,.sl [[.int f3.const,row (f3.terms.map Term.cells),.int 1]] true,.sl [[.int f4.const,row (f4.terms.map Term.cells),.int 1]] true,.nil,x,.str ⟨#[]⟩,.nil,.int 0,.int 0,.int 0,.nil,.str ⟨#[]⟩,.nil,.nil]] .live none))) c6 (some (.row 15 [[.int 1,.str ⟨#[105]⟩,.sl [[.int f1.const,row (f1.terms.map Term.cells),.int 1]] true,.sl [[.int f2.const,row (f2.terms.map Term.cells),.int 1]] true,.nil,.row c11 15 0 1,.str ⟨#[]⟩,.nil,.int 0,.int 0,.int 0,.nil,.str ⟨#[]⟩,.nil,.nil]] .live none))) (c11+1) (some (.row 15 [[.int 1,.str ⟨#[105]⟩,.sl [[.int f1.const,row (f1.terms.map Term.cells),.int 1]] true,.sl [[.int f2.const,row (f2.terms.map Term.cells),.int 1]] true,.nil,.row c11 15 0 1,.str ⟨#[]⟩,.nil,.int 0,.int 0,.int 0,.nil,.str ⟨#[]⟩,.nil,.nil]] .live none))) cp none k)→nz L g h0 c0 cp ga F n a h' (c11+1+1):=by
  intro h' hc1' hc2'
  have e1:h' c11=some (.row 15 [[.int 1,.str ⟨#[106]⟩,.sl [[.int f3.const,row (f3.terms.map Term.cells),.int 1]] true,.sl [[.int f4.const,row (f4.terms.map Term.cells),.int 1]] true,.nil,x,.str ⟨#[]⟩,.nil,.int 0,.int 0,.int 0,.nil,.str ⟨#[]⟩,.nil,.nil]] .live none):=by
   rw [hc2' _ (Ne.symm hcp11),ad (Ne.symm hcp11),ad (by omega),ad (Ne.symm h611),af]
  have e2:h' (c11+1)=some (.row 15 [[.int 1,.str ⟨#[105]⟩,.sl [[.int f1.const,row (f1.terms.map Term.cells),.int 1]] true,.sl [[.int f2.const,row (f2.terms.map Term.cells),.int 1]] true,.nil,.row c11 15 0 1,.str ⟨#[]⟩,.nil,.int 0,.int 0,.int 0,.nil,.str ⟨#[]⟩,.nil,.nil]] .live none):=by
   rw [hc2' _ (Ne.symm hcp12),ad (Ne.symm hcp12),af]
  have e3:∀ k,k<c0→k≠cp→h' k=h7 k:=fun k hk hkc=>by
   rw [hc2' _ hkc,ad hkc,ad (by omega),ad (by omega),ad (by omega)]
  have e4:∀ k,k<c0→k≠cp→k≠g→h' k=h1 k:=fun k hk hkc hkg=>by rw [e3 k hk hkc,u4 k hkg,ad (by omega),t4 k hkg]
  have hbx:BT 3 h' F x n:=(hbt1.more (by omega)).frame fun k hk=>e4 k (hF k hk).1 (fun e=>p6 (e▸hk)) (hF k hk).2
  obtain ⟨es,So,St,y1,y2,y3,y4,y5⟩:=hbx
  have tj:Tr 3 h' F [[.int 1,.str ⟨#[106]⟩,.sl [[.int f3.const,row (f3.terms.map Term.cells),.int 1]] true,.sl [[.int f4.const,row (f4.terms.map Term.cells),.int 1]] true,.nil,x,.str ⟨#[]⟩,.nil,.int 0,.int 0,.int 0,.nil,.str ⟨#[]⟩,.nil,.nil]] (1+n+0):=
   Tr.cons F So St (fun _=>False) 1 _ _ _ .nil x _ .nil _ [⟨f3,1⟩] [⟨f4,1⟩] [] [] (.mk 0 0 ⟨0,[]⟩ ⟨#[]⟩ [] []) es [] n 0 (by simp [Bound.cells]) (by simp [Bound.cells]) (by rfl) (by simp [Expr.cells_mk,aT]) ⟨rfl,rfl,rfl,rfl,by simp⟩ (.inl rfl) y1 y2 (.nil _) y3 y4 (fun _ h=>h.elim) y5 (fun _ _ h=>h) (fun _ _ h=>h)
  have tx:Tr 3 h' (fun k=>F k∨k=c11) [[.int 1,.str ⟨#[105]⟩,.sl [[.int f1.const,row (f1.terms.map Term.cells),.int 1]] true,.sl [[.int f2.const,row (f2.terms.map Term.cells),.int 1]] true,.nil,.row c11 15 0 1,.str ⟨#[]⟩,.nil,.int 0,.int 0,.int 0,.nil,.str ⟨#[]⟩,.nil,.nil]] (1+(1+n+0)+0):=
   Tr.cons _ (fun k=>k=c11) F (fun _=>False) 1 _ _ _ .nil (.row c11 15 0 1) _ .nil _ [⟨f1,1⟩] [⟨f2,1⟩] [] [] (.mk 0 0 ⟨0,[]⟩ ⟨#[]⟩ [] []) _ [] _ 0 (by simp [Bound.cells]) (by simp [Bound.cells]) (by rfl) (by simp [Expr.cells_mk,aT]) ⟨rfl,rfl,rfl,rfl,by simp⟩ (.inl rfl) (.inr ⟨c11,rfl,rfl,e1⟩) tj (.nil _) (fun _ h=>.inr h) (fun _ h=>.inl h) (fun _ h=>h.elim) (fun k h1 h2=>by have:=hF k h2; omega) (fun _ _ h=>h) (fun _ _ h=>h)
  refine ⟨_,fun k=>(F k∨k=c11)∨k=c11+1,.row (c11+1) 15 0 1,1+(1+n+0)+0,a7,⟨hc1',⟨b0,b1,b2,s0,s1,s2,z0,z1,z2,rfl,(e4 ga hga (Ne.symm p5) (Ne.symm hgga)).trans ha1,r2,r3,r4,r5,r6,r7⟩,p3,⟨_,fun k=>k=c11+1,_,.inr ⟨c11+1,rfl,rfl,e2⟩,tx,fun k hk=>.inr hk,fun k hk=>.inl hk,fun k hk hk2=>?_⟩,p5,?_,?_⟩,by omega,?_,?_,by omega,by omega,?_⟩
  ·rcases hk2 with hk2 | hk2
   ·have:=hF k hk2; omega
   ·omega
  ·rintro ((hk | hk) | hk)
   ·exact p6 hk
   ·omega
   ·omega
  ·rintro ((hk | hk) | hk)
   ·exact p7 hk
   ·omega
   ·omega
  ·rintro k ((hk | hk) | hk)
   ·exact .inl hk
   ·exact .inr (by omega)
   ·exact .inr (by omega)
  ·unfold SM; rw [e3 g hg hgcp]; exact u3
  ·intro k hk hkg hkp hka hkF
   rw [e4 k hk hkp hkg,q4 k hkg]
 have hxs:(∃ b,x=.sl [] b)∨∃ gx lx,x=.row gx 15 0 lx:=by
  obtain ⟨es,So,St,hb,_⟩:=p4
  rcases hb with ⟨b,e,_⟩ | ⟨gx,_,e,_⟩
  ·exact .inl ⟨b,e⟩
  ·exact .inr ⟨gx,_,e⟩
 rcases hxs with ⟨b,hxs⟩ | ⟨gx,lx,hxs⟩
 all_goals
  rw [hxs] at hp7 hfin
  simp [bsI,au,aK,Bound.av,Bound.cells,hp7,hx7,h611,hcp11,hcp12,hcp6,hxs]
  refine hfin _ (by simp [hp7]) fun k hk=>?_
  show upd _ cp _ k=_
  rw [ad hk,ad hk]
end Go.Proofs.YtocppbmmfklbmaaGreat
set_option maxRecDepth 20000
set_option maxHeartbeats 4000000
namespace Go.Proofs.YtocppbmmfklbmaaGreat
open Go.AM Go.Wb
theorem stC1 (L:List Int) (hL:L.length≤1048576) (g gn:Nat) (hgn:g≠gn):StC L g gn 4 16 30 3615:=by
 have s1:=cS L hL g gn hgn 1 (by omega) (by omega) 1 0 0 (by omega) (by omega) (by omega) (fun h=>by omega)
 have s2:=cS L hL g gn hgn 2 (by omega) (by omega) 2 2 241 (by omega) (by omega) (by omega) (fun _=>s1)
 have s3:=cS L hL g gn hgn 3 (by omega) (by omega) 4 6 723 (by omega) (by omega) (by omega) (fun _=>s2)
 exact cS L hL g gn hgn 4 (by omega) (by omega) 8 14 1687 (by omega) (by omega) (by omega) (fun _=>s3)
structure GenP (p:Wb.Prog):Prop where
 arrays:p.arrays.length=3
 small:SmallA p.arrays
 steps:aC p.steps≤32
theorem wE (L:List Int) (hL:L.length≤1048576) (a:Int) (g:Nat) (h0:Heap) (c0:Nat) (hs:SM h0 g L a) (ha:0≤a) (ha':a<100000000) (hg:g<c0) :
  ACalls Pg Fn5.n [.ptr g 0 0] ⟨h0,c0⟩ fun av s'=>(∃ p:Wb.Prog,av=p.av∧GenP p)∧∃ a',a≤a'∧a'≤a+4000∧SM s'.h g L a'∧∀ k,k<c0→k≠g→s'.h k=h0 k:=by
 refine ACalls.deep (fun k=>c0≤k) (R:=fun av s'=>∃ (A:List Wb.Array) (F:Nat→Prop) (x:AV) (n:Nat) (ga:Nat) (a':Int),av=.agg [.row ga 2 0 3,x]∧pv s'.h ga A∧SmallA A∧BT 3 s'.h F x n∧c0≤ga∧(∀ k,F k→c0≤k)∧n≤32∧a≤a'∧a'≤a+4000∧SM s'.h g L a'∧∀ k,k<c0→k≠g→s'.h k=h0 k) ?_ ?_
 ·refine Fn5.calls .keep ?_
  unfold Fn5.ac
  have e1:¬c0=c0+1:=by omega
  have e2:¬c0=c0+2:=by omega
  simp [bsI,au,aK]
  obtain ⟨h1,hh1⟩:∃ h1,h1=upd (upd (upd h0 c0 (some (.row 2 [[.nil,.nil]] .live none))) (c0+1) (some (.row 1 [[.int 0]] .live none))) (c0+1+1) (some (.row 2 [[.str ⟨#[97]⟩,.sl [[.int 12]] true],[.str ⟨#[98]⟩,.sl [[.int 12],[.int 12]] true],[.str ⟨#[99]⟩,.sl [[.int 2]] true]] .live none)):=⟨_,rfl⟩
  have q0:h1 c0=some (.row 2 [[.nil,.nil]] .live none):=by rw [hh1,ad (by omega),ad (by omega),af]
  have q1:h1 (c0+1)=some (.row 1 [[.int 0]] .live none):=by rw [hh1,ad (by omega),af]
  have q2:h1 (c0+2)=some (.row 2 [[.str ⟨#[97]⟩,.sl [[.int 12]] true],[.str ⟨#[98]⟩,.sl [[.int 12],[.int 12]] true],[.str ⟨#[99]⟩,.sl [[.int 2]] true]] .live none):=by rw [hh1,af]
  have q3:∀ k,k<c0→h1 k=h0 k:=fun k hk=>by rw [hh1,ad (by omega),ad (by omega),ad (by omega)]
  rw [←hh1]
  refine (stC1 L hL g (c0+1) (by omega) [] 2 0 a h1 (c0+1+1+1) (by simp) (by omega) (by omega) (by unfold SM; rw [q3 g hg]; exact hs) ha (by omega) q1 (by omega) (by omega) (by omega) (by omega)).mono ?_
  rintro av ⟨h2,c2⟩ hc2 ⟨es,gr,hes,rfl,m,n',a2,S,t1,t2,t3,t4,t5,t6,t7,t8,t9,t10,t11,t12,t13⟩
  simp only at hc2 t2 t3 t4 t5 t7 t10 t13
  have u0:=(t13 c0 (by omega) (by omega) (by omega)).trans q0
  have u2:=(t13 (c0+2) (by omega) (by omega) (by omega)).trans q2
  have u3:∀ k,k<c0→k≠g→h2 k=h0 k:=fun k hk hkg=>(t13 k (by omega) hkg (by omega)).trans (q3 k hk)
  have n0:¬c0=c2:=by omega
  have n0':¬c2=c0:=by omega
  have n2:¬c2=g:=by omega
  have n3:¬g=c2:=by omega
  simp [aK,n0]
  refine ACalls.draw (cM L a2 14 g _ _ (by omega) (by unfold SM; rw [ad n3]; exact t10) (by omega) (by omega) hL (by omega)) fun w h3 c3 a3 hw hc3 s1 s2 s3 s4=>?_
  obtain ⟨b,rfl⟩:=hw
  have v0:h3 c0=some (.row 2 [[.nil,.nil]] .live none):=by rw [s4 c0 (by omega),ad n0]; exact u0
  have v1:h3 c2=some (.row 2 [[.row (c0+1+1) 2 0 3,.row gr 15 0 es.length]] .live none):=by rw [s4 c2 n2,af]
  have v2:h3 (c0+2)=some (.row 2 [[.str ⟨#[97]⟩,.sl [[.int 12]] true],[.str ⟨#[98]⟩,.sl [[.int 12],[.int 12]] true],[.str ⟨#[99]⟩,.sl [[.int 2]] true]] .live none):=by rw [s4 _ (by omega),ad (by omega)]; exact u2
  have v3:h3 gr=some (.row 15 es .live none):=by rw [s4 _ (by omega),ad (by omega)]; exact t3
  have vb:BT 2 h3 (fun k=>S k∨k=gr) (.row gr 15 0 es.length) m:=⟨es,fun k=>k=gr,S,.inr ⟨gr,rfl,rfl,v3⟩,t4.frame fun k hk=>by have:=t5 k hk; rw [s4 _ (by omega),ad (by omega)],fun k hk=>.inr hk,fun k hk=>.inl hk,fun k h1 h2=>(t5 k h2).2.2 h1⟩
  have v4:∀ k,k<c0→k≠g→h3 k=h0 k:=fun k hk hkg=>by rw [s4 k hkg,ad (by omega)]; exact u3 k hk hkg
  have hA3:pv h3 (c0+2) [⟨⟨#[97]⟩,[12]⟩,⟨⟨#[98]⟩,[12,12]⟩,⟨⟨#[99]⟩,[2]⟩]:=⟨_,_,_,_,_,_,_,_,_,rfl,v2,rfl,rfl,rfl,rfl,rfl,rfl⟩
  have hS3:SmallA [⟨⟨#[97]⟩,[12]⟩,⟨⟨#[98]⟩,[12,12]⟩,⟨⟨#[99]⟩,[2]⟩]:=by
   intro x hx
   simp at hx
   rcases hx with rfl | rfl | rfl <;> simp
  cases b
  case false=>
   simp [v1,v0,n0']
   refine ⟨_,fun k=>S k∨k=gr,_,m,c0+2,⟨rfl,rfl⟩,?_,hS3,(vb.more (by omega)).frame fun k hk=>?_,by omega,fun k hk=>?_,by omega,a3,by omega,by omega,?_,fun k hk hkg=>?_⟩
   ·obtain ⟨k0,k1,k2,s0,s1,s2,z0,z1,z2,r0,r1,r⟩:=hA3
    exact ⟨k0,k1,k2,s0,s1,s2,z0,z1,z2,r0,by rw [ad (by omega)]; exact r1,r⟩
   ·rw [ad]
    rcases hk with hk | hk
    ·have:=t5 k hk; omega
    ·omega
   ·rcases hk with hk | hk
    ·have:=t5 k hk; omega
    ·omega
   ·unfold SM; rw [ad (by omega)]; exact s3
   ·rw [ad (by omega)]; exact v4 k hk hkg
  simp
  refine (vp L hL a3 g c2 (c0+2) _ (fun k=>S k∨k=gr) _ m (by omega) h3 c3 s3 (by omega) (by omega) (by omega) (by omega) (by omega) n3 (by omega) (fun k hk=>?_) ⟨v1,hA3,hS3,vb,by omega,fun hk=>?_,fun hk=>?_⟩).mono ?_
  ·rcases hk with hk | hk
   ·have:=t5 k hk; omega
   ·omega
  ·rcases hk with hk | hk
   ·have:=t5 _ hk; omega
   ·omega
  ·rcases hk with hk | hk
   ·have:=t5 _ hk; omega
   ·omega
  rintro av ⟨h4,c4⟩ hc4 ⟨A',F',x',n2',a4,⟨w1,w2,w3,w4,w5,w6,w7⟩,w8,w9,w10,w11,w12,w13⟩
  simp only at hc4 w1 w2 w4 w9 w10 w13
  have hg4:¬(S c0∨c0=gr):=fun hk=>by
   rcases hk with hk | hk
   ·have:=t5 _ hk; omega
   ·omega
  have x0:=(w13 c0 (by omega) (by omega) n0 (by omega) hg4).trans v0
  have hF'0:∀ k,F' k→c0<k:=fun k hk=>by
   rcases w9 k hk with (hk | hk) | hk
   ·have:=t5 _ hk; omega
   ·omega
   ·omega
  have hxc:(∃ b,x'=.sl [] b)∨∃ gx lx,x'=.row gx 15 0 lx:=by
   obtain ⟨es,So,St,hb,_⟩:=w4
   rcases hb with ⟨b,e,_⟩ | ⟨gx,_,e,_⟩
   ·exact .inl ⟨b,e⟩
   ·exact .inr ⟨gx,_,e⟩
  have hfin:∀ h5:Heap,(∀ k,k≠c0→h5 k=h4 k)→∃ (A:List Wb.Array) (F:Nat→Prop) (x:AV) (n:Nat) (ga:Nat) (a':Int),AV.agg [.row (c0+2) 2 0 3,x']=.agg [.row ga 2 0 3,x]∧pv h5 ga A∧SmallA A∧BT 3 h5 F x n∧c0≤ga∧(∀ k,F k→c0≤k)∧n≤32∧a≤a'∧a'≤a+4000∧SM h5 g L a'∧∀ k,k<c0→k≠g→h5 k=h0 k:=by
   intro h5 hh
   refine ⟨A',F',x',n2',c0+2,a4,rfl,?_,w3,w4.frame fun k hk=>hh k (by have:=hF'0 k hk; omega),by omega,fun k hk=>by have:=hF'0 k hk; omega,by omega,by omega,by omega,?_,fun k hk hkg=>?_⟩
   ·obtain ⟨k0,k1,k2,s0,s1,s2,z0,z1,z2,r0,r1,r⟩:=w2
    exact ⟨k0,k1,k2,s0,s1,s2,z0,z1,z2,r0,(hh _ (by omega)).trans r1,r⟩
   ·unfold SM; rw [hh g (by omega)]; exact w10
   ·rw [hh k (by omega),w13 k (by omega) hkg (by omega) (by omega) ?_]
    ·exact v4 k hk hkg
    ·intro hk'
     rcases hk' with hk' | hk'
     ·have:=t5 _ hk'; omega
     ·omega
  rcases hxc with ⟨b,hxc⟩ | ⟨gx,lx,hxc⟩
  all_goals
   subst hxc
   simp [w1,x0,n0']
   simpa using hfin _ fun k hk=>ad hk
 ·rintro av s' ⟨A,F,x,n,ga,a',rfl,hA,hsm,hb,hga,hF,hn,h1,h2,h3,h4⟩
  obtain ⟨es,So,St,b1,b2,b3,b4,b5⟩:=hb
  obtain ⟨l,l1,l2,l3⟩:=b2.frz (D:=fun k=>c0≤k) fun k hk=>hF k (b4 k hk)
  obtain ⟨k0,k1,k2,s0,s1,s2,z0,z1,z2,rfl,r1,r2,r3,r4,r5,r6,r7⟩:=hA
  refine ⟨(Wb.Prog.mk [⟨k0,z0⟩,⟨k1,z1⟩,⟨k2,z2⟩] l).av,?_,fun h'' hh=>⟨⟨_,rfl,rfl,hsm,by show aC l≤32; omega⟩,a',h1,h2,?_,fun k hk hkg=>?_⟩⟩
  ·refine .agg _ _ (by simp [Prog.av]) ?_
   intro j c y hc hy
   match j with
   | 0=>
    simp at hc hy; subst hc; subst hy
    refine .row ga 2 0 3 _ .live _ r1 (.inl rfl) hga (by simp) (by simp) ?_ ?_
    ·intro i e y he hy
     match i with
     | 0=>simp [Array.cells] at he hy; subst he; subst hy; rfl
     | 1=>simp [Array.cells] at he hy; subst he; subst hy; rfl
     | 2=>simp [Array.cells] at he hy; subst he; subst hy; rfl
     | i+3=>simp at hy
    ·intro i j e y c d he hy hc hd
     match i with
     | 0=>
      simp [Array.cells] at he hy; subst he; subst hy
      match j with
      | 0=>simp at hc hd; subst hc; subst hd; exact .leaf _
      | 1=>simp at hc hd; subst hc; subst hd; exact .of_norm r2
      | j+2=>simp at hc
     | 1=>
      simp [Array.cells] at he hy; subst he; subst hy
      match j with
      | 0=>simp at hc hd; subst hc; subst hd; exact .leaf _
      | 1=>simp at hc hd; subst hc; subst hd; exact .of_norm r3
      | j+2=>simp at hc
     | 2=>
      simp [Array.cells] at he hy; subst he; subst hy
      match j with
      | 0=>simp at hc hd; subst hc; subst hd; exact .leaf _
      | 1=>simp at hc hd; subst hc; subst hd; exact .of_norm r4
      | j+2=>simp at hc
     | i+3=>simp at hy
   | 1=>
    simp at hc hy; subst hc; subst hy
    have hl:(l.map Step.cells).length=es.length:=by simpa using l2
    rcases b1 with ⟨b,rfl,rfl⟩ | ⟨gs,g1,rfl,g2⟩
    ·have:l=[]:=List.length_eq_zero_iff.1 l2
     rw [this]; exact .of_norm rfl
    ·refine .row gs 15 0 es.length _ .live _ g2 (.inl rfl) (hF gs (b3 gs g1)) (by simp) hl ?_ ?_
     ·intro i e y he hy
      rw [Nat.zero_add] at he
      rw [←Step.list_map] at hy
      exact (l3 i e y he hy).1
     ·intro i j e y c d he hy hc hd
      rw [Nat.zero_add] at he
      rw [←Step.list_map] at hy
      exact (l3 i e y he hy).2 j c d hc hd
   | j+2=>simp at hc
  ·have:h'' g=s'.h g:=by
    rcases hh g with q | ⟨q,_⟩
    ·exact q
    ·omega
   show SM h'' g L a'
   unfold SM; rw [this]; exact h3
  ·have:h'' k=s'.h k:=by
    rcases hh k with q | ⟨q,_⟩
    ·exact q
    ·omega
   exact this.trans (h4 k hk hkg)
end Go.Proofs.YtocppbmmfklbmaaGreat
namespace Go.Proofs.YtocppbmmfklbmaaGreat
section
variable {α:Type} (lt:α→α→Bool)
theorem pa:∀ (l:List α) (j:Nat) (a b:α),l[j+1]?=some a→l[j]?=some b→((l.set (j+1) b).set j a).Perm l
 | [],j,a,b,h,_=>by simp at h
 | x::xs,0,a,b,h,h'=>by
  cases xs with
  | nil=>simp at h
  | cons y ys=>
   simp at h h'
   subst h; subst h'
   simpa using List.Perm.swap x y ys
 | x::xs,j+1,a,b,h,h'=>by
  simp only [List.set_cons_succ]
  exact (pa xs j a b (by simpa using h) (by simpa using h')).cons x
theorem mE:∀ (j:Nat) (l:List α),(bub lt l j).Perm l
 | 0,l=>List.Perm.refl l
 | j+1,l=>by
  simp only [bub]
  split
  ·rename_i a b ha hb
   split
   ·exact (mE j _).trans (pa l j a b ha hb)
   ·exact List.Perm.refl l
  ·exact List.Perm.refl l
theorem mj (l:List α):∀ i,(cB lt l i).Perm l
 | 0=>List.Perm.refl l
 | i+1=>(mE lt _ _).trans (mj l i)
theorem fT (l:List α):(dq lt l).Perm l:=mj lt l _
variable (htr:∀ a b c:α,lt b a=false→lt c b=false→lt c a=false) (has:∀ a b:α,lt a b=true→lt b a=false)
include htr has
theorem nK:∀ (j:Nat) (l:List α),j<l.length→(l.take j).Pairwise (fun x y=>lt y x=false)→((bub lt l j).take (j+1)).Pairwise (fun x y=>lt y x=false)∧(bub lt l j).drop (j+1)=l.drop (j+1)
 | 0,l,hj,_=>by
  refine ⟨?_,rfl⟩
  cases l with
  | nil=>simp at hj
  | cons x xs=>simp [bub]
 | j+1,l,hj,hs=>by
  have ha:l[j+1]?=some l[j+1]:=List.getElem?_eq_getElem hj
  have hb:l[j]?=some l[j]:=List.getElem?_eq_getElem (by omega)
  have htk:l.take (j+1)=l.take j++[l[j]]:=by rw [List.take_add_one,hb]; rfl
  rw [htk] at hs
  obtain ⟨hs1,_,hs2⟩:=List.pairwise_append.1 hs
  simp only [bub,ha,hb]
  by_cases h:lt l[j+1] l[j]=true
  ·rw [if_pos h]
   have hlen:j<((l.set (j+1) l[j]).set j l[j+1]).length:=by simp; omega
   have htj:((l.set (j+1) l[j]).set j l[j+1]).take j=l.take j:=by
    rw [List.take_set_of_le (by omega),List.take_set_of_le (by omega)]
   obtain ⟨i1,i2⟩:=nK j _ hlen (by rw [htj]; exact hs1)
   generalize hl':(l.set (j+1) l[j]).set j l[j+1]=l' at hlen htj i1 i2
   have hp:=mE lt j l'
   have hd:l'.drop (j+1)=l[j]::l.drop (j+2):=by
    rw [←hl',List.drop_set_of_lt (by omega)]
    rw [List.drop_set]
    rw [if_neg (by omega),List.drop_eq_getElem_cons hj,Nat.sub_self,List.set_cons_zero]
   have htk':l'.take (j+1)=l.take j++[l[j+1]]:=by
    rw [List.take_add_one,htj]
    have:l'[j]?=some l[j+1]:=by rw [←hl',List.getElem?_set_self (by simp; omega)]
    rw [this]; rfl
   have hpt:((bub lt l' j).take (j+1)).Perm (l'.take (j+1)):=by
    have h1:(bub lt l' j).take (j+1)++(bub lt l' j).drop (j+1)=bub lt l' j:=List.take_append_drop _ _
    have h2:l'.take (j+1)++l'.drop (j+1)=l':=List.take_append_drop _ _
    rw [←h1] at hp
    rw [i2] at hp
    have hp':((bub lt l' j).take (j+1)++l'.drop (j+1)).Perm (l'.take (j+1)++l'.drop (j+1)):=by rw [h2]; exact hp
    exact (List.perm_append_right_iff _).1 hp'
   have hlb:(bub lt l' j).length=l'.length:=oq lt j l'
   have hll:l'.length=l.length:=by rw [←hl']; simp
   have htk2:(bub lt l' j).take (j+2)=(bub lt l' j).take (j+1)++[l[j]]:=by
    rw [List.take_add_one]
    have:(bub lt l' j)[j+1]?=some l[j]:=by
     have:=congrArg (·[0]?) i2
     simp only [hd,List.getElem?_drop] at this
     simpa using this
    rw [this]; rfl
   refine ⟨?_,?_⟩
   ·rw [htk2,List.pairwise_append]
    refine ⟨i1,by simp,fun x hx y hy=>?_⟩
    simp at hy; subst hy
    have hx':=hpt.mem_iff.1 hx
    rw [htk'] at hx'
    rcases List.mem_append.1 hx' with hx' | hx'
    ·exact hs2 x hx' _ (by simp)
    ·simp at hx'; rw [hx']; exact has _ _ h
   ·have:=congrArg (·.drop 1) i2
    simp only [hd,List.drop_drop] at this
    simpa using this
  ·rw [if_neg h]
   refine ⟨?_,rfl⟩
   rw [List.take_add_one,ha,htk]
   rw [List.pairwise_append]
   refine ⟨hs,by simp,fun x hx y hy=>?_⟩
   simp at hy; subst hy
   rcases List.mem_append.1 hx with hx | hx
   ·exact htr x l[j] _ (hs2 x hx _ (by simp)) (by simpa using h)
   ·simp at hx; rw [hx]; simpa using h
theorem kI (l:List α):∀ i,i<l.length→((cB lt l i).take (i+1)).Pairwise (fun x y=>lt y x=false)
 | 0,h=>by
  cases l with
  | nil=>simp at h
  | cons x xs=>simp [cB]
 | i+1,h=>by
  simp only [cB]
  exact (nK lt htr has (i+1) _ (by rw [dx]; exact h) (kI l i (by omega))).1
theorem qm (l:List α):(dq lt l).Pairwise (fun x y=>lt y x=false):=by
 cases l with
 | nil=>simp [dq,cB]
 | cons x xs=>
  have:=kI lt htr has (x::xs) xs.length (by simp)
  have e:(cB lt (x::xs) xs.length).take (xs.length+1)=cB lt (x::xs) xs.length:=List.take_of_length_le (by rw [dx]; simp)
  rw [e] at this
  simpa [dq] using this
omit htr has
theorem oL:∀ {a b:List α},a.Perm b→a.Pairwise (fun x y=>lt y x=false)→b.Pairwise (fun x y=>lt y x=false)→(∀ x∈a,∀ y∈a,lt x y=false→lt y x=false→x=y)→a=b
 | [],b,hp,_,_,_=>(List.nil_perm.1 hp).symm
 | x::a,[],hp,_,_,_=>by have:=List.perm_nil.1 hp; cases this
 | x::a,y::b,hp,ha,hb,he=>by
  obtain ⟨ha1,ha2⟩:=List.pairwise_cons.1 ha
  obtain ⟨hb1,hb2⟩:=List.pairwise_cons.1 hb
  have hxy:x=y:=by
   have hy:y∈x::a:=hp.mem_iff.2 (by simp)
   have hx:x∈y::b:=hp.mem_iff.1 (by simp)
   rcases List.mem_cons.1 hy with rfl | hy'
   ·rfl
   ·rcases List.mem_cons.1 hx with rfl | hx'
    ·rfl
    ·exact he x (by simp) y hy (hb1 x hx') (ha1 y hy')
  subst hxy
  rw [oL ((List.perm_cons x).1 hp) ha2 hb2 fun u hu v hv=>he u (by simp [hu]) v (by simp [hv])]
end
end Go.Proofs.YtocppbmmfklbmaaGreat
set_option maxRecDepth 20000
set_option maxHeartbeats 4000000
namespace Go.Proofs.YtocppbmmfklbmaaGreat
open Go.AM Go.Wb
def du (n:Nat):List Int:=(List.range n).map fun (i:Nat)=>(i:Int)
theorem m9 (n:Nat):(du n).length=n:=by simp [du]
theorem pe (n:Nat):aj (du (n+1))=aj (du n)++[[.int n]]:=by simp [du,aj,List.range_succ]
theorem rz (n:Nat) (hn:n≤1000000) (h0:Heap) (c0:Nat):ACalls Pg Fn16.n [.int n] ⟨h0,c0⟩ fun av s'=>∃ g,av=.row g 1 0 n∧c0≤g∧g<s'.c∧s'.h g=some (.row 1 (aj (du n)) .live none)∧Fr c0 h0 s'.h s'.c:=by
 refine Fn16.calls .keep ?_
 unfold Fn16.ac
 simp
 obtain ⟨Inv,hInv⟩:∃ Inv:Nat→List Unit→Slots→St→Prop,Inv=fun i r sl s'=>∃ g,sl 3=.row g 1 0 i∧c0≤g∧g<s'.c∧s'.h g=some (.row 1 (aj (du i)) .live none)∧Fr c0 h0 s'.h s'.c:=⟨_,rfl⟩
 refine aY 6 Fn16.W0 (List.replicate n ()) Inv (by rfl) (by rfl) ?_ ?_ ?_
 ·rw [hInv]
  exact ⟨by simp,c0,by simp,Nat.le_refl _,Nat.lt_succ_self _,af,(Fr.refl h0 c0).upd (Nat.le_refl _) (Nat.le_succ _)⟩
 ·intro v s' hv hI
  rw [hInv] at hI
  obtain ⟨g,h3,i1,i2,i3,i4⟩:=hI
  simp at h3 hv
  simp [hv,h3]
  simp at i3
  exact ⟨i1,i2,i3,i4⟩
 ·intro i x xs v s' hi hx hl hv hI
  rw [hInv] at hI
  obtain ⟨g,h3,i1,i2,i3,i4⟩:=hI
  obtain ⟨h,c⟩:=s'
  simp at h3 hi
  simp only at i2 i3 i4
  have hw:=ae (x:=(i:Int)+1) (by omega) (by omega)
  have hap:=bH (sz:=1) (bytes:=8) (md:=.plain) (x:=[.int i]) (b:=true) (s:=⟨h,c⟩) (len:=i) (by simp) i3 (by simp [aj,du]) (by decide) (by decide) (by decide) rfl (by omega)
  simp [hv,hi,h3,bsI,au,hap,hw]
  rw [hInv]
  refine ⟨c,by simp,i4.c,by show c<c+1; omega,by rw [pe]; exact af,?_⟩
  exact (i4.upd (b:=none) i1 (Nat.le_refl _)).upd i4.c (Nat.le_succ _)
def swp (l:List Int) (i j:Nat):List Int:=(l.set i (l.getD j 0)).set j (l.getD i 0)
theorem AY (l:List Int) (i j:Nat):(swp l i j).length=l.length:=by simp [swp]
theorem eQ (l:List Int) (x:Int):aj (l++[x])=aj l++[[.int x]]:=by simp [aj]
theorem iI (l:List Int) (i:Nat) (x:Int):(aj l).set i [.int x]=aj (l.set i x):=by simp [aj,List.map_set]
theorem tm (l:List Int) (i:Nat) (h:i<(aj l).length):(aj l)[i]=[.int (l[i]'(by simpa [aj] using h))]:=by simp [aj]
theorem dd {l:List Int} {i:Nat} (h:i<l.length):(aj l)[i]?=some [.int l[i]]:=by simp [aj,h]
theorem vy (n:Nat) (hn:n≤1000000) (L:List Int) (hL:L.length≤1048576) (a:Int) (g:Nat) (h0:Heap) (c0:Nat) (hs:SM h0 g L a) (ha:0≤a) (ha':a+n<900000000) (hg:g<c0) :
  ACalls Pg Fn45.n [.ptr g 0 0,.int n] ⟨h0,c0⟩ fun av s'=>∃ (gr:Nat) (l:List Int) (a':Int),av=.row gr 1 0 n∧l.length=n∧c0≤gr∧gr<s'.c∧s'.h gr=some (.row 1 (aj l) .live none)∧SM s'.h g L a'∧a≤a'∧a'≤a+n∧∀ k,k<c0→k≠g→s'.h k=h0 k:=by
 refine Fn45.calls .keep ?_
 unfold Fn45.ac
 simp
 obtain ⟨Inv,hInv⟩:∃ Inv:Nat→List Unit→Slots→St→Prop,Inv=fun i r sl s'=>∃ g,sl 5=.row g 1 0 i∧c0≤g∧g<s'.c∧s'.h g=some (.row 1 (aj (du i)) .live none)∧Fr c0 h0 s'.h s'.c:=⟨_,rfl⟩
 refine aY 10 Fn45.W0 (List.replicate n ()) Inv (by rfl) (by rfl) ?_ ?_ ?_
 ·rw [hInv]
  exact ⟨by simp,c0,by simp,Nat.le_refl _,Nat.lt_succ_self _,af,(Fr.refl h0 c0).upd (Nat.le_refl _) (Nat.le_succ _)⟩
 ·intro v s' hv hI
  rw [hInv] at hI
  obtain ⟨gr,h5,i1,i2,i3,i4⟩:=hI
  obtain ⟨h,c⟩:=s'
  simp at h5 hv i3
  simp only at i2 i4
  have hw:=ae (x:=(n:Int)-1) (by omega) (by omega)
  simp [hv,h5,hw]
  obtain ⟨Inv2,hInv2⟩:∃ Inv:Nat→Slots→St→Prop,Inv=fun (m:Nat) sl s'=>∃ (l:List Int) (a':Int) (j:Int),sl 7=.int j∧(j=(m:Int)∨(m=0∧j = -1))∧(m<n∨m=0)∧sl 5=.row gr 1 0 n∧l.length=n∧c≤s'.c∧s'.h gr=some (.row 1 (aj l) .live none)∧SM s'.h g L a'∧a≤a'∧a'+m≤a+n∧∀ k,k<c0→k≠g→s'.h k=h0 k:=⟨_,rfl⟩
  refine cD Fn45.W1 (by rfl) Inv2 (n-1) ?_ ?_
  ·rw [hInv2]
   refine ⟨du n,a,(n:Int)-1,by simp,by omega,by omega,by simp [h5],m9 n,Nat.le_refl _,i3,?_,by omega,by omega,fun k hk _=>i4.h k hk⟩
   show h g=_; rw [i4.h g hg]; exact hs
  ·intro m v2 s2 hI
   rw [hInv2] at hI
   obtain ⟨l,a',j,j1,j2,j3,j4,j5,j6,j7,j8,j9,j10,j11⟩:=hI
   obtain ⟨h2,c2⟩:=s2
   simp at j1 j4
   simp only at j6 j7 j8 j11
   by_cases hj:0<j
   case neg=>
    simp [j1,hj,j4]
    exact ⟨l,j5,i1,by omega,j7,a',j8,by omega,by omega,j11⟩
   have hjm:j=m:=by omega
   subst hjm
   have hw1:=ae (x:=(m:Int)+1) (by omega) (by omega)
   have hw2:=ae (x:=(m:Int)-1) (by omega) (by omega)
   have hm0:0<m:=by omega
   simp [j1,hj,j4,hw1,hm0]
   refine ACalls.draw (bY L a' (m+1) g h2 c2 (by omega) j8 (by omega) (by omega) hL (by omega)) fun w h3 c3 a3 hw3 hc3 t1 t2 t3 t4=>?_
   obtain ⟨k,rfl,hk1,hk2,_⟩:=hw3
   obtain ⟨kn,hkn⟩:∃ kn:Nat,k=kn:=⟨k.toNat,by omega⟩
   subst hkn
   have hk2':=hk2 (by omega)
   have hkl:kn<l.length:=by omega
   have hml:m<l.length:=by omega
   have hkn2:kn<n:=by omega
   have hmn2:m<n:=by omega
   have j7':h3 gr=some (.row 1 (aj l) .live none):=(t4 gr (by omega)).trans j7
   have hil:(aj l).length=l.length:=by simp [aj]
   have hg2:(aj (l.set m l[kn]))[kn]?=some [.int ((l.set m l[kn])[kn]'(by simp; exact hkl))]:=dd (by simp; exact hkl)
   simp [j1,j4,hkn2,hmn2,j7',dd hkl,dd hml,iI,hg2,hw2]
   refine ⟨m-1,by omega,?_⟩
   rw [hInv2]
   refine ⟨(l.set m l[kn]).set kn l[m],a3,(m:Int)-1,by simp,by omega,by omega,by simp [j4],by simp [j5],by show c≤c3; omega,af,?_,by omega,by omega,fun k hk hkg=>?_⟩
   ·show upd h3 gr _ g=_
    rw [ad (by omega)]; exact t3
   ·show upd h3 gr _ k=_
    rw [ad (by omega),t4 k hkg]; exact j11 k hk hkg
 ·intro i x xs v s' hi hx hl hv hI
  rw [hInv] at hI
  obtain ⟨g,h3,i1,i2,i3,i4⟩:=hI
  obtain ⟨h,c⟩:=s'
  simp at h3 hi
  simp only at i2 i3 i4
  have hw:=ae (x:=(i:Int)+1) (by omega) (by omega)
  have hap:=bH (sz:=1) (bytes:=8) (md:=.plain) (x:=[.int i]) (b:=true) (s:=⟨h,c⟩) (len:=i) (by simp) i3 (by simp [aj,du]) (by decide) (by decide) (by decide) rfl (by omega)
  simp [hv,hi,h3,bsI,au,hap,hw]
  rw [hInv]
  refine ⟨c,by simp,i4.c,by show c<c+1; omega,by rw [pe]; exact af,?_⟩
  exact (i4.upd (b:=none) i1 (Nat.le_refl _)).upd i4.c (Nat.le_succ _)
theorem wn (n:Nat) (hn:n≤1000) (L:List Int) (hL:L.length≤1048576) (a:Int) (g:Nat) (h0:Heap) (c0:Nat) (hs:SM h0 g L a) (ha:0≤a) (ha':a+n<800000000) (hg:g<c0) :
  ACalls Pg Fn9.n [.ptr g 0 0,.int n] ⟨h0,c0⟩ fun av s'=>(∃ l:List Int,av=row (aj l)∧l.length≤n+1)∧SMI h0 g L a (n+20) s'.h:=by
 refine Fn9.calls .frz ?_
 unfold Fn9.ac
 simp
 refine (rz n (by omega) h0 c0).mono ?_
 rintro av ⟨h1,c1⟩ hc1 ⟨gr,rfl,i1,i2,i3,i4⟩
 simp only at hc1 i2 i3 i4
 simp [bsI,au]
 refine ACalls.draw (R:=fun v=>∃ k,v=.int k∧k∈[0,1,2,5]) (bS [0,1,2,5] L a g h1 c1 (by simp) (by simp) (by unfold SM; rw [i4.h g hg]; exact hs) (by omega) (by omega) hL (by omega)) fun v h2 c2 a2 hv hc2 t1 t2 t3 t4=>?_
 obtain ⟨kk,rfl,hkk⟩:=hv
 have hkk2:0≤kk∧kk≤5:=by simp at hkk; omega
 obtain ⟨kn,hkn⟩:∃ kn:Nat,kk=kn:=⟨kk.toNat,by omega⟩
 subst hkn
 simp
 obtain ⟨Inv,hInv⟩:∃ Inv:Nat→List Unit→Slots→St→Prop,Inv=fun (i:Nat) r sl s'=>∃ (l:List Int) (a':Int),sl 5=.row gr 1 0 n∧l.length=n∧c2≤s'.c∧s'.h gr=some (.row 1 (aj l) .live none)∧SM s'.h g L a'∧a≤a'∧a'≤a+1+i∧∀ k,k<c0→k≠g→s'.h k=h0 k:=⟨_,rfl⟩
 refine aY 12 Fn9.W0 (List.replicate kn ()) Inv (by rfl) (by rfl) ?_ ?_ ?_
 ·rw [hInv]
  refine ⟨by simp,du n,a2,by simp,m9 n,Nat.le_refl _,?_,t3,by omega,by omega,fun k hk hkg=>?_⟩
  ·show h2 gr=_
   rw [t4 gr (by omega)]; exact i3
  ·show h2 k=_
   rw [t4 k hkg]; exact i4.h k hk
 ·intro v s' hv hI
  rw [hInv] at hI
  obtain ⟨l,a3,h5,j1,j2,j3,j4,j5,j6,j7⟩:=hI
  obtain ⟨h,c⟩:=s'
  simp at h5 hv j6
  simp only at j2 j3 j4 j7
  have hkn5:kn≤5:=by omega
  simp [hv,h5]
  by_cases hn0:(0:Int)<n
  case neg=>
   have hn0':¬0<n:=by omega
   simp [hn0,hn0']
   have hlen:=j1
   have hrow:=j3
   have hsm:=j4
   have hfr:=j7
   obtain ⟨LL,hLL⟩:∃ LL,LL=l:=⟨_,rfl⟩
   rw [←hLL] at hlen hrow
   refine ACalls.draw (cM L a3 30 g h c (by omega) hsm (by omega) (by omega) hL (by omega)) fun w h9 c9 a9 hw9 hc9 w1 w2 w3 w4=>?_
   obtain ⟨b9,rfl⟩:=hw9
   have hrow9:h9 gr=some (.row 1 (aj LL) .live none):=(w4 gr (by omega)).trans hrow
   have hil:(aj LL).length=n:=by simp [aj,hlen]
   have hap:=bH (sz:=1) (bytes:=8) (md:=.plain) (x:=[.int 0]) (b:=true) (s:=⟨h9,c9⟩) (len:=n) (by simp) hrow9 hil (by decide) (by decide) (by decide) rfl (by omega)
   cases b9
   ·simp [h5,hrow9,hil]
    refine ⟨⟨LL,by simp [←hil],by omega⟩,SMI.fin hg (fun k hkg hk=>?_) (a':=a9) ?_ (by omega) (by omega)⟩
    ·rw [ad (by omega),w4 k hkg]; exact hfr k hk hkg
    ·unfold SM; rw [ad (by omega)]; exact w3
   ·simp [h5,hrow9,hil,bsI,au,hap]
    refine ⟨⟨LL++[0],by rw [List.take_of_length_le (by simp [aj,hlen]),←eQ]; simp,by simp [hlen]⟩,SMI.fin hg (fun k hkg hk=>?_) (a':=a9) ?_ (by omega) (by omega)⟩
    ·rw [ad (by omega),ad (by omega),w4 k hkg]; exact hfr k hk hkg
    ·unfold SM; rw [ad (by omega),ad (by omega)]; exact w3
  have hn0':0<n:=by omega
  simp [hn0,hn0']
  refine ACalls.draw (cM L a3 4 g h c (by omega) j4 (by omega) (by omega) hL (by omega)) fun w h3 c3 a4 hw3 hc3 u1 u2 u3 u4=>?_
  obtain ⟨b3,rfl⟩:=hw3
  cases b3
  case false=>
   simp [hn0,hn0']
   have hlen:=j1
   have hrow:h3 gr=some (.row 1 (aj l) .live none):=(u4 gr (by omega)).trans j3
   have hsm:=u3
   have hfr:∀ k,k<c0→k≠g→h3 k=h0 k:=fun k hk hkg=>(u4 k hkg).trans (j7 k hk hkg)
   obtain ⟨LL,hLL⟩:∃ LL,LL=l:=⟨_,rfl⟩
   rw [←hLL] at hlen hrow
   refine ACalls.draw (cM L a4 15 g h3 c3 (by omega) hsm (by omega) (by omega) hL (by omega)) fun w h6 c6 a6 hw6 hc6 v1 v2 v3 v4=>?_
   obtain ⟨b6,rfl⟩:=hw6
   have hrow6:h6 gr=some (.row 1 (aj LL) .live none):=(v4 gr (by omega)).trans hrow
   have hfr6:∀ k,k<c0→k≠g→h6 k=h0 k:=fun k hk hkg=>(v4 k hkg).trans (hfr k hk hkg)
   cases b6
   case false=>
    simp
    have hrow:=hrow6
    have hfr:=hfr6
    have hsm:=v3
    refine ACalls.draw (cM L a6 30 g h6 c6 (by omega) hsm (by omega) (by omega) hL (by omega)) fun w h9 c9 a9 hw9 hc9 w1 w2 w3 w4=>?_
    obtain ⟨b9,rfl⟩:=hw9
    have hrow9:h9 gr=some (.row 1 (aj LL) .live none):=(w4 gr (by omega)).trans hrow
    have hil:(aj LL).length=n:=by simp [aj,hlen]
    have hap:=bH (sz:=1) (bytes:=8) (md:=.plain) (x:=[.int 0]) (b:=true) (s:=⟨h9,c9⟩) (len:=n) (by simp) hrow9 hil (by decide) (by decide) (by decide) rfl (by omega)
    cases b9
    ·simp [h5,hrow9,hil]
     refine ⟨⟨LL,by simp [←hil],by omega⟩,SMI.fin hg (fun k hkg hk=>?_) (a':=a9) ?_ (by omega) (by omega)⟩
     ·rw [ad (by omega),w4 k hkg]; exact hfr k hk hkg
     ·unfold SM; rw [ad (by omega)]; exact w3
    ·simp [h5,hrow9,hil,bsI,au,hap]
     refine ⟨⟨LL++[0],by rw [List.take_of_length_le (by simp [aj,hlen]),←eQ]; simp,by simp [hlen]⟩,SMI.fin hg (fun k hkg hk=>?_) (a':=a9) ?_ (by omega) (by omega)⟩
     ·rw [ad (by omega),ad (by omega),w4 k hkg]; exact hfr k hk hkg
     ·unfold SM; rw [ad (by omega),ad (by omega)]; exact w3
   simp [h5]
   refine ACalls.draw (bY L a6 n g h6 c6 (by omega) v3 (by omega) (by omega) hL (by omega)) fun w h7 c7 a7 hw7 hc7 x1 x2 x3 x4=>?_
   obtain ⟨k7,rfl,hk71,hk72,_⟩:=hw7
   obtain ⟨m,hm⟩:∃ kn:Nat,k7=kn:=⟨k7.toNat,by omega⟩
   subst hm
   have hk72':=hk72 (by omega)
   have hmn:m<n:=by omega
   have hml:m<LL.length:=by omega
   simp [bsI,au]
   refine ACalls.draw (R:=fun v=>∃ k,v=.int k∧k∈[-1,(n:Int),0]) (bS [-1,(n:Int),0] L a7 g h7 c7 (by simp) (by simp) x3 (by omega) (by omega) hL (by omega)) fun w h8 c8 a8 hw8 hc8 y1 y2 y3 y4=>?_
   obtain ⟨k8,rfl,_⟩:=hw8
   have hrow8:h8 gr=some (.row 1 (aj LL) .live none):=by rw [y4 gr (by omega),x4 gr (by omega)]; exact hrow6
   simp [h5,hmn,hrow8,dd hml,iI]
   have hlen':(LL.set m k8).length=n:=by simp [hlen]
   obtain ⟨hX,hXe⟩:∃ hX,hX=upd h8 gr (some (.row 1 (aj (LL.set m k8)) .live none)):=⟨_,rfl⟩
   obtain ⟨LL2,hLL2⟩:∃ l,l=LL.set m k8:=⟨_,rfl⟩
   rw [←hXe]
   rw [←hLL2] at hXe hlen'
   have hrow:hX gr=some (.row 1 (aj LL2) .live none):=by rw [hXe]; exact af
   have hsm:SM hX g L a8:=by unfold SM; rw [hXe,ad (by omega)]; exact y3
   have hfr:∀ k,k<c0→k≠g→hX k=h0 k:=fun k hk hkg=>by rw [hXe,ad (by omega),y4 k hkg,x4 k hkg]; exact hfr6 k hk hkg
   have hlen:=hlen'
   clear hXe hLL2
   refine ACalls.draw (cM L a8 30 g hX c8 (by omega) hsm (by omega) (by omega) hL (by omega)) fun w h9 c9 a9 hw9 hc9 w1 w2 w3 w4=>?_
   obtain ⟨b9,rfl⟩:=hw9
   have hrow9:h9 gr=some (.row 1 (aj LL2) .live none):=(w4 gr (by omega)).trans hrow
   have hil:(aj LL2).length=n:=by simp [aj,hlen]
   have hap:=bH (sz:=1) (bytes:=8) (md:=.plain) (x:=[.int 0]) (b:=true) (s:=⟨h9,c9⟩) (len:=n) (by simp) hrow9 hil (by decide) (by decide) (by decide) rfl (by omega)
   cases b9
   ·simp [h5,hrow9,hil]
    refine ⟨⟨LL2,by simp [←hil],by omega⟩,SMI.fin hg (fun k hkg hk=>?_) (a':=a9) ?_ (by omega) (by omega)⟩
    ·rw [ad (by omega),w4 k hkg]; exact hfr k hk hkg
    ·unfold SM; rw [ad (by omega)]; exact w3
   ·simp [h5,hrow9,hil,bsI,au,hap]
    refine ⟨⟨LL2++[0],by rw [List.take_of_length_le (by simp [aj,hlen]),←eQ]; simp,by simp [hlen]⟩,SMI.fin hg (fun k hkg hk=>?_) (a':=a9) ?_ (by omega) (by omega)⟩
    ·rw [ad (by omega),ad (by omega),w4 k hkg]; exact hfr k hk hkg
    ·unfold SM; rw [ad (by omega),ad (by omega)]; exact w3
  simp
  refine (vy n (by omega) L hL a4 g h3 c3 u3 (by omega) (by omega) (by omega)).mono ?_
  rintro av ⟨h4,c4⟩ hc4 ⟨gr2,LL,a5,rfl,o1,o2,o3,o4,o5,o6,o7,o8⟩
  simp only at hc4 o3 o4 o5 o8
  simp [hn0,hn0']
  have hlen:=o1
  have hrow:=o4
  have hsm:=o5
  have hfr:∀ k,k<c0→k≠g→h4 k=h0 k:=fun k hk hkg=>by rw [o8 k (by omega) hkg,u4 k hkg]; exact j7 k hk hkg
  refine ACalls.draw (cM L a5 15 g h4 c4 (by omega) hsm (by omega) (by omega) hL (by omega)) fun w h6 c6 a6 hw6 hc6 v1 v2 v3 v4=>?_
  obtain ⟨b6,rfl⟩:=hw6
  have hrow6:h6 gr2=some (.row 1 (aj LL) .live none):=(v4 gr2 (by omega)).trans hrow
  have hfr6:∀ k,k<c0→k≠g→h6 k=h0 k:=fun k hk hkg=>(v4 k hkg).trans (hfr k hk hkg)
  cases b6
  case false=>
   simp
   have hrow:=hrow6
   have hfr:=hfr6
   have hsm:=v3
   refine ACalls.draw (cM L a6 30 g h6 c6 (by omega) hsm (by omega) (by omega) hL (by omega)) fun w h9 c9 a9 hw9 hc9 w1 w2 w3 w4=>?_
   obtain ⟨b9,rfl⟩:=hw9
   have hrow9:h9 gr2=some (.row 1 (aj LL) .live none):=(w4 gr2 (by omega)).trans hrow
   have hil:(aj LL).length=n:=by simp [aj,hlen]
   have hap:=bH (sz:=1) (bytes:=8) (md:=.plain) (x:=[.int 0]) (b:=true) (s:=⟨h9,c9⟩) (len:=n) (by simp) hrow9 hil (by decide) (by decide) (by decide) rfl (by omega)
   cases b9
   ·simp [h5,hrow9,hil]
    refine ⟨⟨LL,by simp [←hil],by omega⟩,SMI.fin hg (fun k hkg hk=>?_) (a':=a9) ?_ (by omega) (by omega)⟩
    ·rw [ad (by omega),w4 k hkg]; exact hfr k hk hkg
    ·unfold SM; rw [ad (by omega)]; exact w3
   ·simp [h5,hrow9,hil,bsI,au,hap]
    refine ⟨⟨LL++[0],by rw [List.take_of_length_le (by simp [aj,hlen]),←eQ]; simp,by simp [hlen]⟩,SMI.fin hg (fun k hkg hk=>?_) (a':=a9) ?_ (by omega) (by omega)⟩
    ·rw [ad (by omega),ad (by omega),w4 k hkg]; exact hfr k hk hkg
    ·unfold SM; rw [ad (by omega),ad (by omega)]; exact w3
  simp [h5]
  refine ACalls.draw (bY L a6 n g h6 c6 (by omega) v3 (by omega) (by omega) hL (by omega)) fun w h7 c7 a7 hw7 hc7 x1 x2 x3 x4=>?_
  obtain ⟨k7,rfl,hk71,hk72,_⟩:=hw7
  obtain ⟨m,hm⟩:∃ kn:Nat,k7=kn:=⟨k7.toNat,by omega⟩
  subst hm
  have hk72':=hk72 (by omega)
  have hmn:m<n:=by omega
  have hml:m<LL.length:=by omega
  simp [bsI,au]
  refine ACalls.draw (R:=fun v=>∃ k,v=.int k∧k∈[-1,(n:Int),0]) (bS [-1,(n:Int),0] L a7 g h7 c7 (by simp) (by simp) x3 (by omega) (by omega) hL (by omega)) fun w h8 c8 a8 hw8 hc8 y1 y2 y3 y4=>?_
  obtain ⟨k8,rfl,_⟩:=hw8
  have hrow8:h8 gr2=some (.row 1 (aj LL) .live none):=by rw [y4 gr2 (by omega),x4 gr2 (by omega)]; exact hrow6
  simp [h5,hmn,hrow8,dd hml,iI]
  have hlen':(LL.set m k8).length=n:=by simp [hlen]
  obtain ⟨hX,hXe⟩:∃ hX,hX=upd h8 gr2 (some (.row 1 (aj (LL.set m k8)) .live none)):=⟨_,rfl⟩
  obtain ⟨LL2,hLL2⟩:∃ l,l=LL.set m k8:=⟨_,rfl⟩
  rw [←hXe]
  rw [←hLL2] at hXe hlen'
  have hrow:hX gr2=some (.row 1 (aj LL2) .live none):=by rw [hXe]; exact af
  have hsm:SM hX g L a8:=by unfold SM; rw [hXe,ad (by omega)]; exact y3
  have hfr:∀ k,k<c0→k≠g→hX k=h0 k:=fun k hk hkg=>by rw [hXe,ad (by omega),y4 k hkg,x4 k hkg]; exact hfr6 k hk hkg
  have hlen:=hlen'
  clear hXe hLL2
  refine ACalls.draw (cM L a8 30 g hX c8 (by omega) hsm (by omega) (by omega) hL (by omega)) fun w h9 c9 a9 hw9 hc9 w1 w2 w3 w4=>?_
  obtain ⟨b9,rfl⟩:=hw9
  have hrow9:h9 gr2=some (.row 1 (aj LL2) .live none):=(w4 gr2 (by omega)).trans hrow
  have hil:(aj LL2).length=n:=by simp [aj,hlen]
  have hap:=bH (sz:=1) (bytes:=8) (md:=.plain) (x:=[.int 0]) (b:=true) (s:=⟨h9,c9⟩) (len:=n) (by simp) hrow9 hil (by decide) (by decide) (by decide) rfl (by omega)
  cases b9
  ·simp [h5,hrow9,hil]
   refine ⟨⟨LL2,by simp [←hil],by omega⟩,SMI.fin hg (fun k hkg hk=>?_) (a':=a9) ?_ (by omega) (by omega)⟩
   ·rw [ad (by omega),w4 k hkg]; exact hfr k hk hkg
   ·unfold SM; rw [ad (by omega)]; exact w3
  ·simp [h5,hrow9,hil,bsI,au,hap]
   refine ⟨⟨LL2++[0],by rw [List.take_of_length_le (by simp [aj,hlen]),←eQ]; simp,by simp [hlen]⟩,SMI.fin hg (fun k hkg hk=>?_) (a':=a9) ?_ (by omega) (by omega)⟩
   ·rw [ad (by omega),ad (by omega),w4 k hkg]; exact hfr k hk hkg
   ·unfold SM; rw [ad (by omega),ad (by omega)]; exact w3
 ·intro i x xs v s' hi hx hl hv hI
  rw [hInv] at hI
  obtain ⟨l,a3,h5,j1,j2,j3,j4,j5,j6,j7⟩:=hI
  obtain ⟨h,c⟩:=s'
  simp at h5 hi
  simp only at j2 j3 j4 j7
  have hw:=ae (x:=(i:Int)+1) (by omega) (by omega)
  by_cases h1n:(1:Int)<n
  case neg=>
   simp [hv,hi,h1n,hw]
   rw [hInv]
   exact ⟨l,a3,by simp [h5],j1,j2,j3,j4,by omega,by omega,j7⟩
  have hw2:=ae (x:=(n:Int)-1) (by omega) (by omega)
  have h1n':1<n:=by omega
  simp [hv,hi,h1n,h1n',hw2]
  refine ACalls.draw (bY L a3 (n-1) g h c (by omega) j4 (by omega) (by omega) hL (by omega)) fun w h3 c3 a4 hw3 hc3 u1 u2 u3 u4=>?_
  obtain ⟨k,rfl,hk1,hk2,_⟩:=hw3
  obtain ⟨m,hkn⟩:∃ kn:Nat,k=kn:=⟨k.toNat,by omega⟩
  subst hkn
  have hk2':=hk2 (by omega)
  have hm1:m<n:=by omega
  have hm2:m+1<n:=by omega
  have hm2':(m:Int)+1<n:=by omega
  have hl1:m<l.length:=by omega
  have hl2:m+1<l.length:=by omega
  have hw4:=ae (x:=(m:Int)+1) (by omega) (by omega)
  have j3':h3 gr=some (.row 1 (aj l) .live none):=(u4 gr (by omega)).trans j3
  have hz:((m:Int)+1).toNat=m+1:=by omega
  have hz0:(0:Int)≤(m:Int)+1:=by omega
  have hg2:(aj (l.set m l[m+1]))[m+1]?=some [.int ((l.set m l[m+1])[m+1]'(by simp; exact hl2))]:=dd (by simp; exact hl2)
  simp [h5,hm1,hm2,hm2',j3',dd hl1,dd hl2,iI,hg2,hw4,hz,hz0,hv,hw]
  rw [hInv]
  refine ⟨(l.set m l[m+1]).set (m+1) l[m],a4,by simp [h5],by simp [j1],by show c2≤c3; omega,af,?_,by omega,by omega,fun k hk hkg=>?_⟩
  ·show upd h3 gr _ g=_
   rw [ad (by omega)]; exact u3
  ·show upd h3 gr _ k=_
   rw [ad (by omega),u4 k hkg]; exact j7 k hk hkg
end Go.Proofs.YtocppbmmfklbmaaGreat
set_option maxRecDepth 20000
set_option maxHeartbeats 4000000
namespace Go.Proofs.YtocppbmmfklbmaaGreat
open Go.AM Go.Wb
def eM (e:List AV):Nat:=match e with
 | [_,.row g _ _ _]=>g
 | _=>0
structure GLs (B:Nat) (h:Heap) (c0 c:Nat) (es:List (List AV)):Prop where
 el:∀ e∈es,∃ (key:ByteArray) (gv:Nat) (l:List Int),e=[.str key,.row gv 1 0 l.length]∧c0≤gv∧gv<c∧h gv=some (.row 1 (aj l) .live none)∧l.length≤B
 nd:(es.map eM).Nodup
theorem GLs.ok {B:Nat} {h:Heap} {c0 c:Nat} {es:List (List AV)} (H:GLs B h c0 c es):∀ e∈es,az 2 e=true:=fun e he=>by
 obtain ⟨key,gv,l,rfl,_⟩:=H.el e he; rfl
theorem GLs.perm {B:Nat} {h:Heap} {c0 c:Nat} {es es':List (List AV)} (H:GLs B h c0 c es) (hp:es'.Perm es):GLs B h c0 c es':=
 ⟨fun e he=>H.el e (hp.mem_iff.1 he),(hp.map eM).nodup_iff.2 H.nd⟩
theorem GLs.frame {B:Nat} {h h':Heap} {c0 c c':Nat} {es:List (List AV)} (H:GLs B h c0 c es) (hc:c≤c') (hh:∀ e∈es,h' (eM e)=h (eM e)):GLs B h' c0 c' es:=
 ⟨fun e he=>by
  obtain ⟨key,gv,l,rfl,h1,h2,h3,h4⟩:=H.el e he
  exact ⟨key,gv,l,rfl,h1,by omega,(hh _ he).trans h3,h4⟩,H.nd⟩
theorem vX (a b:ByteArray) (x y:AV) (hx:x.cell=true) (hy:y.cell=true) (s:St):ACalls Pg Fn36.n [.agg [.str a,x],.agg [.str b,y]] s fun av s'=>av=.int (Lib.compareBytes (bs a) (bs b))∧s'.h=s.h:=by
 refine Fn36.calls .frz ?_
 unfold Fn36.ac
 have hne:¬s.c=s.c+1:=by omega
 have hx':az 2 [.str a,x]=true:=by simp only [az,List.all_cons,hx,List.all_nil]; rfl
 have hy':az 2 [.str b,y]=true:=by simp only [az,List.all_cons,hy,List.all_nil]; rfl
 simp only [az] at hx' hy'
 simp [hne,-AV.cell,AV.cells,hx,hy,show (AV.str a).cell=true from rfl,show (AV.str b).cell=true from rfl]
 refine ACalls.pure (lP _ _) fun c1 hc1=>?_
 simp
theorem sC {B:Nat} {h:Heap} {c0 c:Nat} {es:List (List AV)} (H:GLs B h c0 c es):mF Fn36.n tlt es:=by
 intro x hx y hy h' c'
 obtain ⟨k1,g1,l1,rfl,_⟩:=H.el x hx
 obtain ⟨k2,g2,l2,rfl,_⟩:=H.el y hy
 refine (vX k1 k2 _ _ rfl rfl ⟨h',c'⟩).mono fun r s' _ hr=>?_
 exact ⟨⟨_,hr.1,rfl⟩,hr.2⟩
theorem GLs.more {B B':Nat} {h:Heap} {c0 c:Nat} {es:List (List AV)} (H:GLs B h c0 c es) (hB:B≤B'):GLs B' h c0 c es:=
 ⟨fun e he=>by
  obtain ⟨key,gv,l,h0,h1,h2,h3,h4⟩:=H.el e he
  exact ⟨key,gv,l,h0,h1,h2,h3,by omega⟩,H.nd⟩
theorem GLs.inj {B:Nat} {h:Heap} {c0 c:Nat} {es:List (List AV)} (H:GLs B h c0 c es) {i j:Nat} (hi:i<es.length) (hj:j<es.length) (e:eM es[i]=eM es[j]):i=j:=by
 have:=List.pairwise_iff_getElem.1 H.nd
 rcases Nat.lt_trichotomy i j with h1 | h1 | h1
 ·have:=this i j (by simpa using hi) (by simpa using hj) h1
  simp at this; exact absurd e this
 ·exact h1
 ·have:=this j i (by simpa using hj) (by simpa using hi) h1
  simp at this; exact absurd e.symm this
theorem wI (p:Wb.Prog) (hp:GenP p) (L:List Int) (hL:L.length≤1048576) (a:Int) (g:Nat) (h0:Heap) (c0:Nat) (hs:SM h0 g L a) (ha:0≤a) (ha':a<100000000) (hg:g<c0) :
  ACalls Pg Fn6.n [.ptr g 0 0,p.av] ⟨h0,c0⟩ fun av s'=>(∃ gs:List Wb.Grid,av=row (gs.map Grid.cells)∧gs.length≤3)∧∃ a',a≤a'∧a'≤a+4000∧SM s'.h g L a'∧∀ k,k<c0→k≠g→s'.h k=h0 k:=by
 refine ACalls.deep (fun k=>c0≤k) (R:=fun av s'=>∃ (es:List (List AV)) (go:Nat) (a':Int),av=.row go 2 0 es.length∧c0≤go∧s'.h go=some (.row 2 es .live none)∧es.length≤3∧GLs 201 s'.h c0 s'.c es∧a≤a'∧a'≤a+4000∧SM s'.h g L a'∧∀ k,k<c0→k≠g→s'.h k=h0 k) ?_ ?_
 ·refine Fn6.calls .keep ?_
  unfold Fn6.ac
  simp [Prog.av]
  obtain ⟨Inv,hInv⟩:∃ Inv:Nat→List Wb.Array→Slots→St→Prop,Inv=fun (i:Nat) r sl s'=>∃ (es:List (List AV)) (go:Nat) (a':Int),sl 5=.row go 2 0 es.length∧c0<go∧go<s'.c∧s'.h go=some (.row 2 es .live none)∧es.length≤i∧GLs 200 s'.h c0 s'.c es∧a≤a'∧a'≤a+300*i∧SM s'.h g L a'∧c0<s'.c∧∀ k,k<c0→k≠g→s'.h k=h0 k:=⟨_,rfl⟩
  refine aY 17 Fn6.W0 p.arrays Inv (by rfl) (by rfl) ?_ ?_ ?_
  ·rw [hInv]
   refine ⟨by simp,[],c0+1,a,by simp,by omega,by show c0+1<c0+1+1; omega,af,Nat.le_refl _,⟨by simp,by simp⟩,by omega,by omega,?_,by show c0<c0+1+1; omega,fun k hk hkg=>?_⟩
   ·show upd (upd h0 c0 _) (c0+1) _ g=_
    rw [ad (by omega),ad (by omega)]; exact hs
   ·show upd (upd h0 c0 _) (c0+1) _ k=_
    rw [ad (by omega),ad (by omega)]
  ·intro v s' hv hI
   rw [hInv] at hI
   obtain ⟨es,go,a',h5,i1,i2,i3,i4,i5,i6,i7,i8,i9,i10⟩:=hI
   obtain ⟨h,c⟩:=s'
   simp at h5
   simp only at i2 i3 i5 i8 i9 i10
   have h3:=hp.arrays
   simp [hv,h5]
   refine (fB es (by omega) i5.ok Fn36.n tlt go h c i3 i2 (sC i5)).mono ?_
   rintro av ⟨h1,c1⟩ hc1 ⟨t1,t2⟩
   simp only at hc1 t1 t2
   obtain ⟨es',hes'⟩:∃ es',es'=dq tlt es:=⟨_,rfl⟩
   rw [←hes'] at t1
   have hlen':es'.length=es.length:=by rw [hes']; exact dx _ _ _
   have hne:∀ e∈es,eM e≠go:=fun e he e2=>by
    obtain ⟨key,gv,l,rfl,y1,y2,y3,_⟩:=i5.el e he
    rw [show eM [AV.str key,.row gv 1 0 l.length]=gv from rfl] at e2
    subst e2; rw [i3] at y3; cases y3
   have hgl:GLs 200 h1 c0 c1 es':=by
    rw [hes']
    exact (i5.frame hc1 fun e he=>t2 _ (hne e he)).perm (fT _ _)
   have hsm1:SM h1 g L a':=by unfold SM; rw [t2 g (by omega)]; exact i8
   have hfr1:∀ k,k<c0→k≠g→h1 k=h0 k:=fun k hk hkg=>(t2 k (by omega)).trans (i10 k hk hkg)
   have hL3:es.length≤3:=by omega
   have ha3:a'≤a+900:=by omega
   simp [h5]
   by_cases hz:es.length=0
   ·simp [h5,hz]
    have hz':es'=[]:=List.length_eq_zero_iff.1 (by omega)
    exact ⟨es',go,⟨rfl,by omega⟩,by omega,t1,by omega,hgl.more (by omega),a',i6,by omega,hsm1,hfr1⟩
   have hz1:0<es.length:=by omega
   simp [h5,hz1]
   refine ACalls.draw (cM L a' 15 g h1 c1 (by omega) hsm1 (by omega) (by omega) hL (by omega)) fun w h2 c2 a2 hw2 hc2 u1 u2 u3 u4=>?_
   obtain ⟨b2,rfl⟩:=hw2
   have hrow2:h2 go=some (.row 2 es' .live none):=(u4 go (by omega)).trans t1
   have hgl2:GLs 200 h2 c0 c2 es':=hgl.frame hc2 fun e he=>by
    obtain ⟨key,gv,l,rfl,y1,y2,_⟩:=hgl.el e he
    exact u4 gv (by omega)
   have hfr2:∀ k,k<c0→k≠g→h2 k=h0 k:=fun k hk hkg=>(u4 k hkg).trans (hfr1 k hk hkg)
   cases b2
   case false=>
    simp [h5]
    exact ⟨es',go,⟨rfl,by omega⟩,by omega,hrow2,by omega,hgl2.more (by omega),a2,by omega,by omega,u3,hfr2⟩
   simp [h5]
   refine ACalls.draw (bY L a2 es.length g h2 c2 (by omega) u3 (by omega) (by omega) hL (by omega)) fun w h3 c3 a3' hw3 hc3 v1 v2 v3 v4=>?_
   obtain ⟨k,rfl,hk1,hk2,_⟩:=hw3
   obtain ⟨m,hm⟩:∃ kn:Nat,k=kn:=⟨k.toNat,by omega⟩
   subst hm
   have hk2':=hk2 (by omega)
   simp
   refine ACalls.draw (bY L a3' 3 g h3 c3 (by omega) v3 (by omega) (by omega) hL (by omega)) fun w h4 c4 a4 hw4 hc4 w1 w2 w3 w4=>?_
   obtain ⟨k4,rfl,hk41,hk42,_⟩:=hw4
   have hrow4:h4 go=some (.row 2 es' .live none):=by rw [w4 go (by omega),v4 go (by omega)]; exact hrow2
   have hfr4:∀ k,k<c0→k≠g→h4 k=h0 k:=fun k hk hkg=>by rw [w4 k hkg,v4 k hkg]; exact hfr2 k hk hkg
   have hgl4:GLs 200 h4 c0 c4 es':=hgl2.frame (by omega) fun e he=>by
    obtain ⟨key,gv,l,rfl,y1,y2,_⟩:=hgl2.el e he
    show h4 gv=h2 gv
    rw [w4 gv (by omega),v4 gv (by omega)]
   have hm':m<es'.length:=by omega
   have hm2:m<es.length:=by omega
   obtain ⟨key,gv,l,hel,y1,y2,y3,y4⟩:=hgl4.el es'[m] (List.getElem_mem hm')
   have hget:es'[m]?=some [.str key,.row gv 1 0 l.length]:=by rw [List.getElem?_eq_getElem hm',hel]
   have hgvgo:gv≠go:=fun e=>by subst e; rw [hrow4] at y3; cases y3
   have hchg:∀ (h':Heap) (c':Nat) (key':ByteArray) (gv':Nat) (l':List Int),c4≤c'→(gv'=gv∨(c4≤gv'∧gv'<c'))→h' gv'=some (.row 1 (aj l') .live none)→l'.length≤201→(∀ k,k<c4→k≠gv→k≠go→k≠g→h' k=h4 k)→GLs 201 h' c0 c' (es'.set m [.str key',.row gv' 1 0 l'.length]):=by
    intro h' c' key' gv' l' hc' hgv' hrow' hl' hh
    have hgv1:c0≤gv'∧gv'<c':=by omega
    refine ⟨fun e he=>?_,?_⟩
    ·obtain ⟨i,hi,rfl⟩:=List.getElem_of_mem he
     simp at hi
     rw [List.getElem_set]
     split
     ·exact ⟨key',gv',l',rfl,hgv1.1,hgv1.2,hrow',hl'⟩
     ·rename_i hmi
      obtain ⟨key2,gv2,l2,e2,z1,z2,z3,z4⟩:=hgl4.el es'[i] (List.getElem_mem hi)
      refine ⟨key2,gv2,l2,e2,z1,by omega,?_,by omega⟩
      refine (hh gv2 z2 ?_ ?_ (by omega)).trans z3
      ·intro e3
       have:=hgl4.inj hi hm' (by rw [e2,hel]; exact e3)
       exact hmi this.symm
      ·intro e3; subst e3; rw [hrow4] at z3; cases z3
    ·refine List.pairwise_iff_getElem.2 fun i j hi hj hij=>?_
     simp at hi hj
     simp only [List.getElem_map,List.getElem_set]
     have hbelow:∀ (i:Nat) (hi:i<es'.length),eM es'[i]<c4:=fun i hi=>by
      obtain ⟨key2,gv2,l2,e2,z1,z2,_⟩:=hgl4.el es'[i] (List.getElem_mem hi)
      rw [e2]; exact z2
     have hgvm:eM es'[m]=gv:=by rw [hel]; rfl
     have hx:∀ (i:Nat) (hi:i<es'.length),i≠m→eM es'[i]≠gv':=fun i hi him e=>by
      rcases hgv' with rfl | hgv'
      ·exact him (hgl4.inj hi hm' (e.trans hgvm.symm))
      ·have:=hbelow i hi; omega
     split
     ·split
      ·omega
      ·exact fun e=>hx j hj (by omega) e.symm
     ·split
      ·exact fun e=>hx i hi (by omega) e
      ·exact fun e=>by have:=hgl4.inj hi hj e; omega
   have hlt:∀ k,k<c0→k≠gv∧k≠go:=fun k hk=>by omega
   by_cases e0:k4=0
   ·subst e0
    simp [h5,bsI,au]
    refine ACalls.draw (R:=fun v=>∃ k,v=.str k∧k∈([⟨#[]⟩,⟨#[122,122]⟩,⟨#[97]⟩,⟨#[65]⟩]:List ByteArray)) (iA [⟨#[]⟩,⟨#[122,122]⟩,⟨#[97]⟩,⟨#[65]⟩] L a4 g h4 c4 (by simp) (by simp) w3 (by omega) (by omega) hL (by omega)) fun w h6 c6 a6 hw6 hc6 x1 x2 x3 x4=>?_
    obtain ⟨nm,rfl,_⟩:=hw6
    have hrow6:=(x4 go (by omega)).trans hrow4
    simp [h5,hm2,hrow6,hget]
    refine ⟨es'.set m [.str nm,.row gv 1 0 l.length],go,⟨rfl,by simp [hlen']⟩,by omega,af,by simp [hlen']; omega,hchg _ c6 nm gv l hc6 (.inl rfl) ?_ (by omega) (fun k hk hk1 hk2 hk3=>?_),a6,by omega,by omega,?_,fun k hk hkg=>?_⟩
    ·rw [ad hgvgo,x4 gv (by omega)]; exact y3
    ·rw [ad hk2,x4 k hk3]
    ·unfold SM; rw [ad (by omega)]; exact x3
    ·rw [ad (by omega),x4 k hkg]; exact hfr4 k hk hkg
   by_cases e1:k4=1
   ·subst e1
    simp [h5,hm2,hrow4,hget]
    refine ACalls.draw (lW L a4 0 1000002 g h4 c4 (by omega) (by omega) (by omega) (by omega) w3 (by omega) (by omega) hL (by omega)) fun w h6 c6 a6 hw6 hc6 x1 x2 x3 x4=>?_
    obtain ⟨o,rfl⟩:=hw6
    have hrow6:=(x4 go (by omega)).trans hrow4
    have hgv6:=(x4 gv (by omega)).trans y3
    have hap:=bH (sz:=1) (bytes:=8) (md:=.plain) (x:=[.int o]) (b:=true) (s:=⟨h6,c6⟩) (len:=l.length) (by simp) hgv6 (by simp [aj]) (by decide) (by decide) (by decide) rfl (by omega)
    have hgogv:¬go=gv:=fun e=>hgvgo e.symm
    have hgo6:¬go=c6:=by omega
    simp [h5,hm2,hrow6,hget,bsI,au,hap,hgogv,hgo6]
    refine ⟨es'.set m [.str key,.row c6 1 0 (l.length+1)],go,⟨rfl,by simp [hlen']⟩,by omega,af,by simp [hlen']; omega,?_,a6,by omega,by omega,?_,fun k hk hkg=>?_⟩
    ·have:=hchg (upd (upd (upd h6 gv none) c6 (some (.row 1 (aj l++[[.int o]]) .live none))) go (some (.row 2 (es'.set m [.str key,.row c6 1 0 (l.length+1)]) .live none))) (c6+1) key c6 (l++[o]) (by omega) (.inr ⟨by omega,by omega⟩) ?_ (by simp; omega) (fun k hk hk1 hk2 hk3=>?_)
     ·simpa using this
     ·rw [ad (Ne.symm hgo6),af,eQ]
     ·rw [ad hk2,ad (by omega),ad hk1,x4 k hk3]
    ·unfold SM; rw [ad (by omega),ad (by omega),ad (by omega)]; exact x3
    ·rw [ad (by omega),ad (by omega),ad (by omega),x4 k hkg]; exact hfr4 k hk hkg
   by_cases hl0:l.length=0
   ·have hl00:¬0<l.length:=by omega
    simp [e0,e1,h5,hm2,hrow4,hget,hl0]
    exact ⟨es',go,⟨rfl,by omega⟩,by omega,hrow4,by omega,hgl4.more (by omega),a4,by omega,by omega,w3,hfr4⟩
   have hl00:0<l.length:=by omega
   simp [e0,e1,h5,hm2,hrow4,hget,hl00,bsI,au]
   refine ACalls.draw (R:=fun v=>∃ k,v=.int k∧k∈[-1,1000003,0]) (bS [-1,1000003,0] L a4 g h4 c4 (by simp) (by simp) w3 (by omega) (by omega) hL (by omega)) fun w h6 c6 a6 hw6 hc6 x1 x2 x3 x4=>?_
   obtain ⟨o,rfl,_⟩:=hw6
   have hrow6:=(x4 go (by omega)).trans hrow4
   have hgv6:=(x4 gv (by omega)).trans y3
   simp [h5,hm2,hrow6,hget,hl00,bsI,au,hgv6,dd hl00,iI]
   have hlset:(l.set 0 o).length=l.length:=by simp
   refine ⟨es',go,⟨rfl,by omega⟩,by omega,?_,by omega,?_,a6,by omega,by omega,?_,fun k hk hkg=>?_⟩
   ·rw [ad (Ne.symm hgvgo)]; exact hrow6
   ·have:=hchg (upd h6 gv (some (.row 1 (aj (l.set 0 o)) .live none))) c6 key gv (l.set 0 o) hc6 (.inl rfl) af (by rw [hlset]; omega) (fun k hk hk1 hk2 hk3=>by rw [ad hk1,x4 k hk3])
    rw [hlset,←hel,List.set_getElem_self] at this
    exact this
   ·unfold SM; rw [ad (by omega)]; exact x3
   ·rw [ad (by omega),x4 k hkg]; exact hfr4 k hk hkg
  ·intro i x xs v s' hi hx hl hv hI
   rw [hInv] at hI
   obtain ⟨es,go,a',h5,i1,i2,i3,i4,i5,i6,i7,i8,i9,i10⟩:=hI
   obtain ⟨h,c⟩:=s'
   simp at h5
   simp only at i2 i3 i5 i8 i9 i10
   have h3:=hp.arrays
   have hw:=ae (x:=(i:Int)+1) (by omega) (by omega)
   have hgc:¬g=c:=by omega
   have hcg:¬c=g:=by omega
   obtain ⟨xk,xz⟩:=x
   have hmem:(⟨xk,xz⟩:Wb.Array)∈p.arrays:=aM hl
   obtain ⟨hz5,hzb⟩:=hp.small _ hmem
   simp only at hz5 hzb
   simp [hv,hi,hx,Array.cells]
   refine ACalls.draw (cM L a' 3 g _ _ (by omega) (by unfold SM; rw [ad hgc]; exact i8) (by omega) (by omega) hL (by omega)) fun w h1 c1 a1 hw1 hc1 t1 t2 t3 t4=>?_
   obtain ⟨b1,rfl⟩:=hw1
   have hgo1:h1 go=some (.row 2 es .live none):=by rw [t4 go (by omega),ad (by omega)]; exact i3
   have hb1:h1 c=some (.row 2 [[.str xk,row (aj xz)]] .live none):=by rw [t4 c hcg,af]
   have hfr1:∀ k,k<c→k≠g→h1 k=h k:=fun k hk hkg=>by rw [t4 k hkg,ad (by omega)]
   have hgl1:GLs 200 h1 c0 c1 es:=i5.frame (by omega) fun e he=>by
    obtain ⟨key,gv,l,rfl,y1,y2,_⟩:=i5.el e he
    exact hfr1 gv y2 (by omega)
   cases b1
   case true=>
    simp [hv,hw]
    rw [hInv]
    exact ⟨es,go,a1,by simp [h5],i1,by show go<c1; omega,hgo1,by omega,hgl1,by omega,by omega,t3,by show c0<c1; omega,fun k hk hkg=>(hfr1 k (by omega) hkg).trans (i10 k hk hkg)⟩
   simp [hb1]
   obtain ⟨Inv1,hInv1⟩:∃ Inv:Nat→List Int→Slots→Prop,Inv=fun i r sl=>∃ n:Int,sl 8=.int n∧1≤n∧n≤200:=⟨_,rfl⟩
   refine bR 26 Fn6.W1 xz Inv1 (by rfl) (by rfl) ?_ ?_ ?_
   ·rw [hInv1]; exact ⟨by simp,1,by simp,by omega,by omega⟩
   ·intro v2 c2 hv2 hc2 hI2
    rw [hInv1] at hI2
    obtain ⟨n,h8,n1,n2⟩:=hI2
    obtain ⟨nn,hnn⟩:∃ nn:Nat,n=nn:=⟨n.toNat,by omega⟩
    subst hnn
    simp at h8
    have hlz:(aj xz).length=xz.length:=by simp [aj]
    simp [hv2,hlz,h8,hb1,aK]
    obtain ⟨Inv2,hInv2⟩:∃ Inv:Nat→List Unit→Slots→St→Prop,Inv=fun (j:Nat) r sl s'=>∃ (l:List Int) (v:AV) (a2:Int),l.length=j∧s'.h c2=some (.row 2 [[.str xk,v]] .live none)∧((j=0∧v=.sl [] true)∨∃ gv,v=.row gv 1 0 j∧c2<gv∧gv<s'.c∧s'.h gv=some (.row 1 (aj l) .live none))∧c2<s'.c∧SM s'.h g L a2∧a1≤a2∧a2≤a1+j∧∀ k,k<c2→k≠g→s'.h k=h1 k:=⟨_,rfl⟩
    refine aY 40 Fn6.W2 (List.replicate nn ()) Inv2 (by rfl) (by rfl) ?_ ?_ ?_
    ·rw [hInv2]
     refine ⟨by simp,[],.sl [] true,a1,rfl,af,.inl ⟨rfl,rfl⟩,by show c2<c2+1; omega,?_,by omega,by omega,fun k hk hkg=>?_⟩
     ·show upd h1 c2 _ g=_
      rw [ad (by omega)]; exact t3
     ·show upd h1 c2 _ k=_
      rw [ad (by omega)]
    ·intro v3 s3 hv3 hI3
     rw [hInv2] at hI3
     obtain ⟨l,vv,a3,l1,l2,l3,l4,l5,l6,l7,l8⟩:=hI3
     obtain ⟨h3',c3⟩:=s3
     simp at hv3 l1 l3 l7
     simp only at l2 l4 l5 l8
     rcases l3 with ⟨l3,_⟩ | ⟨gv,rfl,m1,m2,m3⟩
     ·omega
     have hgo3:h3' go=some (.row 2 es .live none):=(l8 go (by omega) (by omega)).trans hgo1
     have hap:=bH (sz:=2) (bytes:=40) (md:=.plain) (x:=[.str xk,.row gv 1 0 nn]) (b:=true) (s:=⟨h3',c3⟩) (len:=es.length) (by simp) hgo3 rfl (by decide) (by decide) (by decide) rfl (by omega)
     simp [hv3,l2,h5,bsI,au,hap,hv,hw]
     rw [hInv]
     have hgv3:∀ k,k<c→k≠g→k≠go→upd (upd h3' go none) c3 (some (.row 2 (es++[[.str xk,.row gv 1 0 nn]]) .live none)) k=h k:=fun k hk hkg hkgo=>by
      rw [ad (by omega),ad hkgo,l8 k (by omega) hkg]; exact hfr1 k hk hkg
     refine ⟨es++[[.str xk,.row gv 1 0 nn]],c3,a3,by simp,by omega,by show c3<c3+1; omega,af,by simp; omega,⟨fun e he=>?_,?_⟩,by omega,?_,?_,by show c0<c3+1; omega,fun k hk hkg=>?_⟩
     ·rcases List.mem_append.1 he with he | he
      ·obtain ⟨key,gv',l',rfl,y1,y2,y3,y4⟩:=i5.el e he
       refine ⟨key,gv',l',rfl,y1,by show gv'<c3+1; omega,?_,y4⟩
       refine (hgv3 gv' y2 (by omega) ?_).trans y3
       intro e; subst e; rw [i3] at y3; cases y3
      ·simp at he; subst he
       refine ⟨xk,gv,l,by rw [l1],by omega,by show gv<c3+1; omega,?_,by omega⟩
       show upd (upd h3' go none) c3 _ gv=_
       rw [ad (by omega),ad (by omega)]; exact m3
     ·rw [List.map_append,List.nodup_append]
      refine ⟨i5.nd,by simp,fun x hx y hy=>?_⟩
      have hy':y=gv:=by simpa [eM] using hy
      obtain ⟨e,he,rfl⟩:=List.mem_map.1 hx
      obtain ⟨key,gv',l',rfl,y1,y2,_⟩:=i5.el e he
      show gv'≠y
      omega
     ·have:((i+1:Nat):Int)=i+1:=by omega
      rw [this]; omega
     ·show upd (upd h3' go none) c3 _ g=_
      rw [ad (by omega),ad (by omega)]; exact l5
     ·refine (hgv3 k (by omega) hkg (by omega)).trans (i10 k hk hkg)
    ·intro j u us v3 s3 hj _ _ hv3 hI3
     rw [hInv2] at hI3
     obtain ⟨l,vv,a3,l1,l2,l3,l4,l5,l6,l7,l8⟩:=hI3
     obtain ⟨h3',c3⟩:=s3
     simp at hj
     simp only at l2 l3 l4 l5 l8
     have hw3:=ae (x:=(j:Int)+1) (by omega) (by omega)
     simp [hv3,hj,l2,bsI,au]
     refine ACalls.draw (R:=fun v=>∃ k,v=.int k∧k∈[0,1,3,5,999803]) (bS [0,1,3,5,999803] L a3 g h3' c3 (by simp) (by simp) l5 (by omega) (by omega) hL (by omega)) fun w h4 c4 a4 hw4 hc4 u1 u2 u3 u4=>?_
     obtain ⟨pk,rfl,_⟩:=hw4
     have hb4:h4 c2=some (.row 2 [[.str xk,vv]] .live none):=(u4 c2 (by omega)).trans l2
     simp [hb4,bsI,au]
     obtain ⟨z,hz⟩:∃ z,z=(IntKind.i64.wrap (IntKind.i64.wrap ((j:Int)*7)+pk)).tmod 1000003:=⟨_,rfl⟩
     rw [←hz]
     have hc4':¬c2=c4:=by omega
     rcases l3 with ⟨rfl,rfl⟩ | ⟨gv,rfl,m1,m2,m3⟩
     ·have hap:=cJ (sz:=1) (bytes:=8) (md:=.plain) (es:=[]) (xs:=[[.int z]]) (b:=true) (s:=⟨h4,c4⟩) (by decide) (by decide) (by decide) (by simp) (fun e he=>by simp at he; subst he; rfl) (by simp) (.inl (by simp))
      simp at hap
      have hl0:l=[]:=List.length_eq_zero_iff.1 l1
      subst hl0
      have hw1:IntKind.i64.wrap 1=1:=by decide
      simp [hap,hb4,hc4',hv3,hw1]
      rw [hInv2]
      refine ⟨[z],_,a4,rfl,af,.inr ⟨c4,rfl,by omega,by show c4<c4+1; omega,?_⟩,by show c2<c4+1; omega,?_,by omega,by omega,fun k hk hkg=>?_⟩
      ·show upd (upd h4 c4 _) c2 _ c4=_
       rw [ad (by omega),af]; rfl
      ·show upd (upd h4 c4 _) c2 _ g=_
       rw [ad (by omega),ad (by omega)]; exact u3
      ·show upd (upd h4 c4 _) c2 _ k=_
       rw [ad (by omega),ad (by omega),u4 k hkg]; exact l8 k hk hkg
     ·have hgv4:=(u4 gv (by omega)).trans m3
      have hap:=bH (sz:=1) (bytes:=8) (md:=.plain) (x:=[.int z]) (b:=true) (s:=⟨h4,c4⟩) (len:=j) (by simp) hgv4 (by simp [aj,l1]) (by decide) (by decide) (by decide) rfl (by omega)
      have hgvc:¬c2=gv:=by omega
      simp [hap,hb4,hc4',hgvc,hv3,hw3]
      rw [hInv2]
      refine ⟨l++[z],_,a4,by simp [l1],af,.inr ⟨c4,by simp,by omega,by show c4<c4+1; omega,?_⟩,by show c2<c4+1; omega,?_,by omega,by omega,fun k hk hkg=>?_⟩
      ·show upd (upd (upd h4 gv _) c4 _) c2 _ c4=_
       rw [ad (by omega),af,eQ]
      ·show upd (upd (upd h4 gv _) c4 _) c2 _ g=_
       rw [ad (by omega),ad (by omega),ad (by omega)]; exact u3
      ·show upd (upd (upd h4 gv _) c4 _) c2 _ k=_
       rw [ad (by omega),ad (by omega),ad (by omega),u4 k hkg]; exact l8 k hk hkg
   ·intro j y ys v2 c2 hj hy hyl hv2 hc2 hI2
    rw [hInv1] at hI2
    obtain ⟨n,h8,n1,n2⟩:=hI2
    simp at h8
    have hyz:=hzb y (aM hyl)
    have hge:(aj xz)[j]?=some [.int y]:=by rw [dd hj,hy]
    have hlz:(aj xz).length=xz.length:=by simp [aj]
    have hw2:=ae (x:=(j:Int)+1) (by omega) (by omega)
    obtain ⟨mx,hmx⟩:∃ mx:Int,mx=if y<1 then 1 else y:=⟨_,rfl⟩
    have hmx1:1≤mx∧mx≤20000:=by rw [hmx]; split <;> omega
    have hm1:1≤n*mx:=by have:=Int.mul_le_mul n1 hmx1.1 (by omega) (by omega); simpa using this
    have hm2:n*mx≤200*20000:=Int.mul_le_mul n2 hmx1.2 (by omega) (by omega)
    have hw3:=ae (x:=n*mx) (by omega) (by omega)
    simp [hv2,hj,hy,hlz,tm,h8,←hmx,hw2,hw3]
    refine ⟨by omega,?_⟩
    rw [hInv1]
    exact ⟨if 200<n*mx then 200 else n*mx,by simp,by split <;> omega,by split <;> omega⟩
 ·rintro av s' ⟨es,go,a',rfl,q1,q2,q3,q4,q5,q6,q7,q8⟩
  have hgs:∃ gs:List Wb.Grid,gs.length=es.length∧∀ (i:Nat) (e y:List AV),es[i]?=some e→(gs.map Grid.cells)[i]?=some y→e.length=y.length∧∀ (j:Nat) (c d:AV),e[j]?=some c→y[j]?=some d→Frz s'.h (fun k=>c0≤k) c d:=by
   have hel:=q4.el
   clear q4 q2 q3
   induction es with
   | nil=>exact ⟨[],rfl,by simp⟩
   | cons e es ih=>
    obtain ⟨gs,g1,g2⟩:=ih fun x hx=>hel x (List.mem_cons_of_mem _ hx)
    obtain ⟨key,gv,l,rfl,y1,y2,y3,y4⟩:=hel e (List.mem_cons_self)
    refine ⟨⟨key,l⟩::gs,by simp [g1],fun i e y he hy=>?_⟩
    cases i with
    | succ i=>exact g2 i e y (by simpa using he) (by simpa using hy)
    | zero=>
     simp [Grid.cells] at he hy
     subst he; subst hy
     refine ⟨rfl,fun j c d hc hd=>?_⟩
     match j with
     | 0=>simp at hc hd; subst hc; subst hd; exact .leaf _
     | 1=>
      simp at hc hd; subst hc; subst hd
      refine .row gv 1 0 l.length _ .live _ y3 (.inl rfl) y1 (by simp [aj]) (by simp [aj]) ?_ ?_
      ·intro i e y he hy
       rw [Nat.zero_add] at he; rw [he] at hy; cases hy; rfl
      ·intro i j e y c d he hy hc hd
       rw [Nat.zero_add] at he; rw [he] at hy; cases hy; rw [hc] at hd; cases hd
       obtain ⟨n,_,hn⟩:=List.mem_map.1 (List.mem_of_getElem? he)
       subst hn
       match j with
       | 0=>simp at hc; subst hc; exact .leaf _
       | j+1=>simp at hc
     | j+2=>simp at hc
  obtain ⟨gs,g1,g2⟩:=hgs
  refine ⟨row (gs.map Grid.cells),?_,fun h'' hh=>⟨⟨gs,rfl,by omega⟩,a',q5,q6,?_,fun k hk hkg=>?_⟩⟩
  ·refine .row go 2 0 es.length _ .live _ q2 (.inl rfl) q1 (by simp) (by simp [g1]) ?_ ?_
   ·intro i e y he hy
    rw [Nat.zero_add] at he
    exact (g2 i e y he hy).1
   ·intro i j e y c d he hy hc hd
    rw [Nat.zero_add] at he
    exact (g2 i e y he hy).2 j c d hc hd
  ·have:h'' g=s'.h g:=by
    rcases hh g with q | ⟨q,_⟩
    ·exact q
    ·omega
   show SM h'' g L a'
   unfold SM; rw [this]; exact q7
  ·have:h'' k=s'.h k:=by
    rcases hh k with q | ⟨q,_⟩
    ·exact q
    ·omega
   exact this.trans (q8 k hk hkg)
end Go.Proofs.YtocppbmmfklbmaaGreat
set_option maxRecDepth 20000
set_option maxHeartbeats 4000000
namespace Go.Proofs.YtocppbmmfklbmaaGreat
open Go.AM Go.Wb
abbrev Env:=List (ByteArray×Int)
def aw (e:Env) (n:ByteArray):Int:=(bL e n).getD 0
def ed (e:Env):Prop:=∀ p∈e,-1000000≤p.2∧p.2≤1000000
def d5 (φ:ByteArray→Int):List Wb.Term→Int→Int
 | [],n=>n
 | t::ts,n=>d5 φ ts (n+t.coef*φ t.name)
def aG (φ:ByteArray→Int) (f:Wb.Form):Int:=d5 φ f.terms f.const
structure OkForm (f:Wb.Form):Prop where
 const:-1000000≤f.const∧f.const≤1000000
 len:f.terms.length≤12
 coef:∀ t∈f.terms,-1000≤t.coef∧t.coef≤1000
def cA (b:Wb.Bound):Prop:=OkForm b.form∧1≤b.div∧b.div≤1000
theorem jb:∀ {l:List Wb.Term} {last:ByteArray},bu last l=0→∀ t∈l,-1000≤t.coef∧t.coef≤1000
 | [],last,_=>by simp
 | t::ts,last,h=>by
  simp only [bu] at h
  split at h
  ·cases h
  ·split at h
   ·cases h
   ·rename_i h2
    split at h
    ·cases h
    ·intro x hx
     rcases List.mem_cons.1 hx with rfl | hx
     ·exact Classical.byContradiction fun h3=>h2 (.inr h3)
     ·exact jb h x hx
theorem qd {f:Wb.Form} (h:bv f=0):OkForm f:=by
 simp only [bv] at h
 split at h
 ·cases h
 ·rename_i h1
  split at h
  ·cases h
  ·rename_i h2
   exact ⟨Classical.byContradiction h1,by omega,jb h⟩
theorem kW {f:Wb.Form} {L:List ByteArray} (h:bZ f L=0):OkForm f:=by
 simp only [bZ] at h
 split at h
 ·exact qd ‹_›
 ·exact absurd h ‹_›
theorem ko {L:List ByteArray}:∀ {l:List Wb.Form},bJ L l=0→∀ f∈l,OkForm f
 | [],_=>by simp
 | f::fs,h=>by
  simp only [bJ] at h
  split at h
  ·intro x hx
   rcases List.mem_cons.1 hx with rfl | hx
   ·exact kW ‹_›
   ·exact ko h x hx
  ·exact absurd h ‹_›
theorem mo {L:List ByteArray}:∀ {l:List Wb.Bound},bB L l=0→∀ b∈l,cA b
 | [],_=>by simp
 | b::bs,h=>by
  simp only [bB] at h
  split at h
  ·split at h
   ·intro x hx
    rcases List.mem_cons.1 hx with rfl | hx
    ·exact ⟨kW ‹_›,‹_›⟩
    ·exact mo h x hx
   ·cases h
  ·exact absurd h ‹_›
theorem lD {a b:Int} (ha:-1000≤a∧a≤1000) (hb:-1000000≤b∧b≤1000000):-1000000000≤a*b∧a*b≤1000000000:=by
 have h:=Int.natAbs_mul a b
 have h1:a.natAbs≤1000:=by omega
 have h2:b.natAbs≤1000000:=by omega
 have h3:=Nat.mul_le_mul h1 h2
 omega
theorem jo {φ:ByteArray→Int} (hφ:∀ n,-1000000≤φ n∧φ n≤1000000):∀ (l:List Wb.Term) (n B:Int),(∀ t∈l,-1000≤t.coef∧t.coef≤1000) → -B≤n∧n≤B → -(B+l.length*1000000000)≤d5 φ l n∧d5 φ l n≤B+l.length*1000000000
 | [],n,B,_,hn=>by simpa [d5] using hn
 | t::ts,n,B,ht,hn=>by
  have h1:=lD (ht t (List.mem_cons_self)) (hφ t.name)
  have:=jo hφ ts (n+t.coef*φ t.name) (B+1000000000) (fun x hx=>ht x (List.mem_cons_of_mem _ hx)) (by omega)
  simp only [d5,List.length_cons]
  omega
theorem cy {φ:ByteArray→Int} (hφ:∀ n,-1000000≤φ n∧φ n≤1000000) {f:Wb.Form} (hf:OkForm f):-12001000000≤aG φ f∧aG φ f≤12001000000:=by
 have:=jo hφ f.terms f.const 1000000 hf.coef hf.const
 have h2:=hf.len
 unfold aG
 omega
theorem cw {e:Env} (he:ed e) (n:ByteArray):-1000000≤aw e n∧aw e n≤1000000:=by
 unfold aw
 induction e with
 | nil=>simp [bL]
 | cons p e ih=>
  simp only [bL]
  split
  ·exact he p (List.mem_cons_self)
  ·exact ih fun q hq=>he q (List.mem_cons_of_mem _ hq)
def mxI (a b:Int):Int:=if a<b then b else a
def mnI (a b:Int):Int:=if b<a then b else a
def dL (φ:ByteArray→Int):List Wb.Bound→Int→Int
 | [],n=>n
 | b::bs,n=>dL φ bs (mxI n (upI (aG φ b.form) b.div))
def eF (φ:ByteArray→Int):List Wb.Bound→Int
 | []=>0
 | b::bs=>dL φ bs (upI (aG φ b.form) b.div)
def dr (φ:ByteArray→Int):List Wb.Bound→Int→Int
 | [],n=>n
 | b::bs,n=>dr φ bs (mnI n (aG φ b.form / b.div))
def eI (φ:ByteArray→Int):List Wb.Bound→Int
 | []=>0
 | b::bs=>dr φ bs (aG φ b.form / b.div)
theorem fH {a d:Int} (hd:1≤d) (B:Int) (ha:-B≤a∧a≤B):-B≤a / d∧a / d≤B:=by
 have h:=Int.natAbs_ediv_le_natAbs a d
 omega
theorem kl {a d:Int} (hd:1≤d) (B:Int) (ha:-B≤a∧a≤B):-B≤upI a d∧upI a d≤B:=by
 have:=fH (a:=-a) hd B (by omega)
 unfold upI
 omega
theorem kG {φ:ByteArray→Int} (hφ:∀ n,-1000000≤φ n∧φ n≤1000000):∀ (l:List Wb.Bound) (n:Int),(∀ b∈l,cA b) → -12001000000≤n∧n≤12001000000 → -12001000000≤dL φ l n∧dL φ l n≤12001000000
 | [],n,_,hn=>hn
 | b::bs,n,hb,hn=>by
  have h1:=hb b (List.mem_cons_self)
  have h2:=kl h1.2.1 12001000000 (cy hφ h1.1)
  refine kG hφ bs _ (fun x hx=>hb x (List.mem_cons_of_mem _ hx)) ?_
  unfold mxI; split <;> omega
theorem mt {φ:ByteArray→Int} (hφ:∀ n,-1000000≤φ n∧φ n≤1000000) {l:List Wb.Bound} (hb:∀ b∈l,cA b):-12001000000≤eF φ l∧eF φ l≤12001000000:=by
 cases l with
 | nil=>simp [eF]
 | cons b bs=>exact kG hφ bs _ (fun x hx=>hb x (List.mem_cons_of_mem _ hx)) (kl (hb b (List.mem_cons_self)).2.1 _ (cy hφ (hb b (List.mem_cons_self)).1))
theorem jr {φ:ByteArray→Int} (hφ:∀ n,-1000000≤φ n∧φ n≤1000000):∀ (l:List Wb.Bound) (n:Int),(∀ b∈l,cA b) → -12001000000≤n∧n≤12001000000 → -12001000000≤dr φ l n∧dr φ l n≤12001000000
 | [],n,_,hn=>hn
 | b::bs,n,hb,hn=>by
  have h1:=hb b (List.mem_cons_self)
  have h2:=fH h1.2.1 12001000000 (cy hφ h1.1)
  refine jr hφ bs _ (fun x hx=>hb x (List.mem_cons_of_mem _ hx)) ?_
  unfold mnI; split <;> omega
theorem lG {φ:ByteArray→Int} (hφ:∀ n,-1000000≤φ n∧φ n≤1000000) {l:List Wb.Bound} (hb:∀ b∈l,cA b):-12001000000≤eI φ l∧eI φ l≤12001000000:=by
 cases l with
 | nil=>simp [eI]
 | cons b bs=>exact jr hφ bs _ (fun x hx=>hb x (List.mem_cons_of_mem _ hx)) (fH (hb b (List.mem_cons_self)).2.1 _ (cy hφ (hb b (List.mem_cons_self)).1))
theorem se {φ:ByteArray→Int} (hφ:∀ n,-1000000≤φ n∧φ n≤1000000) {l:List Wb.Bound} (hb:∀ b∈l,cA b) (hne:l≠[]):dL φ l (-1099511627776)=eF φ l:=by
 cases l with
 | nil=>exact absurd rfl hne
 | cons b bs=>
  have h2:=kl (hb b (List.mem_cons_self)).2.1 12001000000 (cy hφ (hb b (List.mem_cons_self)).1)
  simp only [dL,eF,mxI]
  rw [if_pos (by omega)]
theorem qS {φ:ByteArray→Int} (hφ:∀ n,-1000000≤φ n∧φ n≤1000000) {l:List Wb.Bound} (hb:∀ b∈l,cA b) (hne:l≠[]):dr φ l 1099511627776=eI φ l:=by
 cases l with
 | nil=>exact absurd rfl hne
 | cons b bs=>
  have h2:=fH (hb b (List.mem_cons_self)).2.1 12001000000 (cy hφ (hb b (List.mem_cons_self)).1)
  simp only [dr,eI,mnI]
  rw [if_pos (by omega)]
def eH (A:List Wb.Array) (key:ByteArray) (subs:List Wb.Form):Prop:=∃ (i:Nat) (a:Wb.Array),A[i]?=some a∧bC A key=i∧a.key=key∧a.sizes.length=subs.length∧∀ f∈subs,OkForm f
mutual
def cr (A:List Wb.Array):Wb.Expr→Prop
 | .mk op n form array subs args=>(op=1∧args=[]∧0≤n∧n≤1000002)∨(op=2∧args=[]∧OkForm form)∨(op=3∧args=[]∧eH A array subs)∨(4≤op∧op≤6∧args.length=2∧cL A args)
def cL (A:List Wb.Array):List Wb.Expr→Prop
 | []=>True
 | e::es=>cr A e∧cL A es
end
mutual
def aR:Wb.Expr→Nat
 | .mk op _ _ _ _ args=>if op=3 then 1 else bg args
def bg:List Wb.Expr→Nat
 | []=>0
 | e::es=>aR e+bg es
end
mutual
def eh (A:List Wb.Array) (L:List ByteArray):Wb.Step→Prop
 | .mk kind name low high conds body array subs expr=>
  (kind=1∧inL name L=false∧low≠[]∧high≠[]∧(∀ b∈low,cA b)∧(∀ b∈high,cA b)∧cT A (L++[name]) body) ∨
  (kind=2∧(∀ f∈conds,OkForm f)∧cT A L body) ∨
  (kind=3∧body=[]∧eH A array subs∧cr A expr∧aR expr≤4096)
def cT (A:List Wb.Array) (L:List ByteArray):List Wb.Step→Prop
 | []=>True
 | s::ss=>eh A L s∧cT A L ss
end
theorem jm {A:List Wb.Array} {L:List ByteArray}:∀ {l:List Wb.Step},cT A L l→∀ s∈l,eh A L s
 | [],_=>by simp
 | s::ss,h=>by
  intro x hx
  simp only [cT] at h
  rcases List.mem_cons.1 hx with rfl | hx
  ·exact h.1
  ·exact jm h.2 x hx
theorem kV {A:List Wb.Array} {key:ByteArray} {subs:List Wb.Form} {L:List ByteArray} (h:bO A key subs L=0):eH A key subs:=by
 simp only [bO] at h
 split at h
 ·cases h
 ·rename_i h1
  split at h
  ·cases h
  ·rename_i h2
   obtain ⟨i,a,hi,h3,h4,h5,h6⟩:=fU h1
   exact ⟨i,a,by rw [List.getElem?_eq_getElem hi,h4],h3,h5,by rw [←h6]; exact Classical.byContradiction h2,ko h⟩
mutual
theorem lI {A:List Wb.Array} {L:List ByteArray}:∀ {e:Wb.Expr} {d:Int},aF A L d e=0→cr A e
 | .mk op n form array subs args,d,h=>by
  simp only [aF] at h
  split at h
  ·cases h
  ·split at h
   ·cases h
   ·rename_i h1
    split at h
    ·cases h
    ·rename_i h2
     have h2:aQ op n form array subs args=true:=by simpa using h2
     split at h
     ·cases h
     ·rename_i h3
      split at h
      ·rename_i h4
       exact .inr (.inl ⟨h4,dc h2 (.inr (.inl h4)),kW h⟩)
      ·rename_i h4
       split at h
       ·rename_i h5
        exact .inr (.inr (.inl ⟨h5,dc h2 (.inr (.inr h5)),kV h⟩))
       ·rename_i h5
        by_cases h6:op=1
        ·exact .inl ⟨h6,dc h2 (.inl h6),by omega⟩
        ·refine .inr (.inr (.inr ⟨by omega,by omega,?_,kJ h⟩))
         simp [aQ,h4,h5,h6] at h2
         omega
theorem kJ {A:List Wb.Array} {L:List ByteArray}:∀ {l:List Wb.Expr} {d:Int},ba A L d l=0→cL A l
 | [],_,_=>trivial
 | e::es,d,h=>by
  simp only [ba] at h
  split at h
  ·exact ⟨lI ‹_›,kJ h⟩
  ·exact absurd h ‹_›
end
mutual
theorem jd {A:List Wb.Array} {L:List ByteArray}:∀ {e:Wb.Expr} {d:Int} {k:Nat},aF A L d e=0→12≤d+k→aR e≤2 ^ k
 | .mk op n form array subs args,d,k,h,hk=>by
  simp only [aF] at h
  split at h
  ·cases h
  ·rename_i hd
   split at h
   ·cases h
   ·split at h
    ·cases h
    ·rename_i h2
     have h2:aQ op n form array subs args=true:=by simpa using h2
     split at h
     ·cases h
     ·split at h
      ·rename_i h4
       have:=dc h2 (.inr (.inl h4))
       subst this
       simp [aR,h4,bg]
      ·rename_i h4
       split at h
       ·rename_i h5
        simp only [aR,h5,if_true]
        exact Nat.one_le_two_pow
       ·rename_i h5
        simp only [aR,h5,if_false]
        by_cases h6:op=1
        ·have:=dc h2 (.inl h6)
         subst this
         simp [bg]
        ·simp [aQ,h4,h5,h6] at h2
         have hl:args.length=2:=by omega
         match args,hl,h with
         | [a,b],_,h=>
          simp only [ba] at h
          split at h
          ·rename_i ha
           split at h
           ·rename_i hb
            cases k with
            | zero=>
             exfalso
             have:(12:Int)<d+1:=by omega
             obtain ⟨_,_,_,_,_,_⟩:=a
             simp [aF,this] at ha
            | succ k=>
             have h1:=jd ha (k:=k) (by omega)
             have h2:=jd hb (k:=k) (by omega)
             simp only [bg]
             rw [Nat.pow_succ]; omega
           ·exact absurd h ‹_›
          ·exact absurd h ‹_›
end
theorem nv {A:List Wb.Array} {L:List ByteArray} {e:Wb.Expr} {d:Int} (h:aF A L d e=0) (hd:1≤d):aR e≤4096:=by
 have:=jd h (k:=12) (by omega)
 simpa using this
mutual
theorem qr {A:List Wb.Array}:∀ {s:Wb.Step} {L N:List ByteArray} {d:Int},(aI A L d N s).1=0→eh A L s
 | .mk kind name low high conds body array subs expr,L,N,d,h=>by
  simp only [aI] at h
  split at h
  ·cases h
  ·split at h
   ·cases h
   ·rename_i h1
    split at h
    ·cases h
    ·rename_i h2
     split at h
     ·cases h
     ·split at h
      ·rename_i h3
       split at h
       ·rename_i h4
        simp only [bz] at h4
        split at h4
        ·cases h4
        ·rename_i h5
         split at h4
         ·cases h4
         ·rename_i h6
          split at h4
          ·cases h4
          ·have hb:=mo h4
           refine .inl ⟨h3,by simpa using fun e=>h5 (.inl e),fun e=>h6 (.inl e),fun e=>h6 (.inr e),fun b hm=>hb b (List.mem_append_left _ hm),fun b hm=>hb b (List.mem_append_right _ hm),fp h⟩
       ·exact absurd h ‹_›
      ·rename_i h3
       split at h
       ·rename_i h4
        split at h
        ·rename_i h5
         simp only [bQ] at h5
         split at h5
         ·cases h5
         ·split at h5
          ·cases h5
          ·exact .inr (.inl ⟨h4,ko h5,fp h⟩)
        ·exact absurd h ‹_›
       ·rename_i h4
        have h2':bU kind name low high conds body array subs expr=true:=by simpa using h2
        simp [bU,h3,h4] at h2'
        simp only [cI] at h
        split at h
        ·cases h
        ·split at h
         ·exact .inr (.inr ⟨by omega,h2'.2,kV ‹_›,lI h,nv h (by omega)⟩)
         ·exact absurd h ‹_›
theorem fp {A:List Wb.Array}:∀ {l:List Wb.Step} {L N:List ByteArray} {d:Int},(aH A L d N l).1=0→cT A L l
 | [],_,_,_,_=>trivial
 | s::ss,L,N,d,h=>by
  simp only [aH] at h
  split at h
  ·exact ⟨qr ‹_›,fp h⟩
  ·exact absurd h ‹_›
end
def bA (l:List Int):Int:=l.foldl (·*·) 1
structure OkArray (a:Wb.Array):Prop where
 name:bK a.key=true
 some_:a.sizes≠[]
 len:a.sizes.length≤4
 sizes:∀ n∈a.sizes,1≤n∧n≤20000
 cells:bA a.sizes≤20000
theorem sq:∀ {l:List Int} {n:Int},(∀ s∈l,1≤s∧s≤20000)→1≤n→1≤l.foldl (·*·) n
 | [],n,_,hn=>hn
 | s::ss,n,h,hn=>by
  rw [List.foldl_cons]
  refine sq (fun x hx=>h x (List.mem_cons_of_mem _ hx)) ?_
  have:=Int.mul_le_mul hn (h s (List.mem_cons_self)).1 (by omega) (by omega); simpa using this
theorem nq:∀ {l:List Int} {n:Int},(∀ s∈l,1≤s∧s≤20000)→1≤n→n≤l.foldl (·*·) n
 | [],n,_,hn=>Int.le_refl _
 | s::ss,n,h,hn=>by
  rw [List.foldl_cons]
  have h1:n≤n*s:=by have:=Int.mul_le_mul_of_nonneg_left (h s (List.mem_cons_self)).1 (show 0≤n by omega); simpa using this
  exact Int.le_trans h1 (nq (fun x hx=>h x (List.mem_cons_of_mem _ hx)) (by omega))
theorem lA:∀ {l:List Int} {n m:Int},cF l n=some m→1≤n→n≤20001→(∀ s∈l,1≤s∧s≤20000)∧(m≤20000→l.foldl (·*·) n≤m)
 | [],n,m,h,_,_=>by
  simp only [cF,Option.some.injEq] at h
  subst h
  exact ⟨by simp,fun _=>Int.le_refl _⟩
 | s::ss,n,m,h,h1,h1'=>by
  simp only [cF] at h
  split at h
  ·rename_i hs
   have hp:1≤n*s:=by have:=Int.mul_le_mul h1 hs.1 (by omega) (by omega); simpa using this
   by_cases h2:20001<n*s
   ·rw [if_pos h2] at h
    obtain ⟨h3,h4⟩:=lA h (by omega) (by omega)
    refine ⟨fun x hx=>?_,fun hm=>?_⟩
    ·rcases List.mem_cons.1 hx with rfl | hx
     ·exact hs
     ·exact h3 x hx
    ·have:=nq (n:=20001) h3 (by omega)
     have:=h4 hm
     omega
   ·rw [if_neg h2] at h
    obtain ⟨h3,h4⟩:=lA h hp (by omega)
    refine ⟨fun x hx=>?_,h4⟩
    rcases List.mem_cons.1 hx with rfl | hx
    ·exact hs
    ·exact h3 x hx
  ·cases h
theorem jx:∀ {l before:List Wb.Array} {cells:Int},bI before l cells=0→0≤cells→cells≤20000→(∀ a∈l,OkArray a)∧(∀ (i:Nat) (a b:Wb.Array),l[i]?=some a→b∈before++l.take i→b.key≠a.key)
 | [],_,_,_,_,_=>⟨by simp,by simp⟩
 | a::l,before,cells,h,hc,hc2=>by
  simp only [bI] at h
  split at h
  ·rename_i h0
   have h0':=h0
   simp only [aU] at h0
   split at h0
   ·cases h0
   ·rename_i h1
    split at h0
    ·cases h0
    ·rename_i h2
     split at h0
     ·cases h0
     ·rename_i h3
      split at h0
      ·cases h0
      ·rename_i h4
       cases hs:cF a.sizes 1 with
       | none=>rw [hs] at h0; cases h0
       | some n=>
        rw [hs] at h0
        simp only at h0
        split at h0
        ·cases h0
        ·rename_i h5
         have he:(aU a before cells).2=cells+n:=by simp [aU,h1,h2,h3,h4,hs,h5]
         have hn:=ke hs (by omega)
         rw [he] at h
         obtain ⟨h6,h7⟩:=jx h (by omega) (by omega)
         obtain ⟨h8,h9⟩:=lA hs (by omega) (by omega)
         refine ⟨fun x hx=>?_,fun i x b hi hb=>?_⟩
         ·rcases List.mem_cons.1 hx with rfl | hx
          ·exact ⟨by simpa using h1,h3,by omega,h8,by have:=h9 (by omega); unfold bA; omega⟩
          ·exact h6 x hx
         ·cases i with
          | zero=>
           simp at hi hb
           subst hi
           intro e
           exact h2 (List.any_eq_true.2 ⟨b,hb,by simp [e]⟩)
          | succ i=>exact h7 i x b (by simpa using hi) (by simpa using hb)
  ·exact absurd h ‹_›
structure Right (p:Wb.Prog):Prop where
 arrays:∀ a∈p.arrays,OkArray a
 apart:∀ (i j:Nat) (a b:Wb.Array),p.arrays[i]?=some a→p.arrays[j]?=some b→j<i→b.key≠a.key
 steps:cT p.arrays [] p.steps
theorem fy {p:Wb.Prog} (h:aW p=0):Right p:=by
 simp only [aW] at h
 split at h
 ·cases h
 ·split at h
  ·rename_i h1
   obtain ⟨h2,h3⟩:=jx h1 (by omega) (by omega)
   split at h
   ·rename_i h4
    refine ⟨h2,fun i j a b hi hj hij=>h3 i a b hi ?_,fp h4⟩
    rw [List.nil_append]
    exact List.mem_of_getElem? (show (p.arrays.take i)[j]?=some b by rw [List.getElem?_take_of_lt hij]; exact hj)
   ·exact absurd h ‹_›
  ·exact absurd h ‹_›
structure Inst where
 num:Nat
 step:Wb.Step
 env:Env
 way:List Int
structure RS where
 rounds:Int
 l:List Inst
mutual
def cZ:Wb.Step→Nat
 | .mk kind _ _ _ _ body _ _ _=>(if kind=3 then 1 else 0)+fX body
def fX:List Wb.Step→Nat
 | []=>0
 | s::ss=>cZ s+fX ss
end
def cm (f:Int→RS→Int×RS):Nat→Int→RS→Int×RS
 | 0,_,s=>(0,s)
 | k+1,v,s=>if ¬(-1000000≤v∧v≤1000000) then (1,s) else if 200000<s.rounds+1 then (12,{ s with rounds:=s.rounds+1 }) else
  if (f v { s with rounds:=s.rounds+1 }).1=0 then cm f k (v+1) (f v { s with rounds:=s.rounds+1 }).2 else f v { s with rounds:=s.rounds+1 }
mutual
def bF (num:Nat) (e:Env) (way:List Int):Wb.Step→RS→Int×RS
 | .mk kind name low high conds body array subs expr,s=>
  if kind=1 then cm (fun v s=>aS num (e++[(name,v)]) way 0 body s) (eI (aw e) high-eF (aw e) low+1).toNat (eF (aw e) low) s
  else if kind=2 then if conds.all (fun f=>decide (0≤aG (aw e) f))=true then aS num e way 0 body s else (0,s)
  else if s.l.length=50000 then (12,s) else (0,{ s with l:=s.l++[⟨num,.mk kind name low high conds body array subs expr,e,way⟩] })
def aS (num:Nat) (e:Env) (way:List Int) (i:Nat):List Wb.Step→RS→Int×RS
 | [],s=>(0,s)
 | x::xs,s=>if (bF num e (way++[(i:Int)]) x s).1=0 then aS (num+cZ x) e way (i+1) xs (bF num e (way++[(i:Int)]) x s).2 else bF num e (way++[(i:Int)]) x s
end
def aA (p:Wb.Prog):Int×RS:=aS 0 [] [] 0 p.steps ⟨0,[]⟩
def cG (φ:ByteArray→Int):List Int→List Wb.Form→Int→Bool→Int×Bool
 | z::zs,f::fs,n,ok=>cG φ zs fs (IntKind.i64.wrap (IntKind.i64.wrap (n*z)+aG φ f)) (ok&&decide (0≤aG φ f∧aG φ f≤z-1))
 | _,_,n,ok=>(n,ok)
def bT (A:List Wb.Array) (φ:ByteArray→Int) (key:ByteArray) (subs:List Wb.Form):Wb.Spot×Bool:=(⟨key,(cG φ (ei A key) subs 0 true).1⟩,(cG φ (ei A key) subs 0 true).2)
mutual
def cE (A:List Wb.Array) (φ:ByteArray→Int):Wb.Expr→List Wb.Spot×Bool
 | .mk op n form array subs args=>if op=3 then ([(bT A φ array subs).1],(bT A φ array subs).2) else cC A φ args
def cC (A:List Wb.Array) (φ:ByteArray→Int):List Wb.Expr→List Wb.Spot×Bool
 | []=>([],true)
 | e::es=>((cE A φ e).1++(cC A φ es).1,(cE A φ e).2&&(cC A φ es).2)
end
mutual
theorem dS (A:List Wb.Array) (φ:ByteArray→Int):∀ e:Wb.Expr,(cE A φ e).1.length=aR e
 | .mk op n form array subs args=>by
  simp only [cE,aR]
  split
  ·rfl
  ·exact ky A φ args
theorem ky (A:List Wb.Array) (φ:ByteArray→Int):∀ l:List Wb.Expr,(cC A φ l).1.length=bg l
 | []=>rfl
 | e::es=>by simp [cC,bg,dS A φ e,ky A φ es]
end
theorem jj:∀ (a b:List Wb.Expr),bg (a++b)=bg a+bg b
 | [],b=>by simp [bg]
 | x::a,b=>by simp [bg,jj a b]; omega
def Step.array:Wb.Step→ByteArray | .mk _ _ _ _ _ _ array _ _=>array
def Step.subs:Wb.Step→List Wb.Form | .mk _ _ _ _ _ _ _ subs _=>subs
def Step.expr:Wb.Step→Wb.Expr | .mk _ _ _ _ _ _ _ _ expr=>expr
def Step.name:Wb.Step→ByteArray | .mk _ name _ _ _ _ _ _ _=>name
def Step.body:Wb.Step→List Wb.Step | .mk _ _ _ _ _ body _ _ _=>body
def Step.kind:Wb.Step→Int | .mk kind _ _ _ _ _ _ _ _=>kind
def Inst.reads (A:List Wb.Array) (i:Inst):List Wb.Spot:=(cE A (aw i.env) (Step.expr i.step)).1
def Inst.sets (A:List Wb.Array) (i:Inst):Wb.Spot:=(bT A (aw i.env) (Step.array i.step) (Step.subs i.step)).1
def Inst.ok (A:List Wb.Array) (i:Inst):Bool:=(cE A (aw i.env) (Step.expr i.step)).2&&(bT A (aw i.env) (Step.array i.step) (Step.subs i.step)).2
end Go.Proofs.YtocppbmmfklbmaaGreat
set_option maxRecDepth 20000
set_option maxHeartbeats 4000000
namespace Go.Proofs.YtocppbmmfklbmaaGreat
open Go.AM Go.Wb
def wx (t:Nat):Nat:=match t with
 | 23=>127
 | 25=>9
 | t=>t
def wo (f:Nat):Nat:=match f with
 | 5=>Fn111.n
 | _=>Fn168.n
def tV:Go.Shelf.Ren:=⟨wo,wx,fun g=>g⟩
theorem sH:SlLaysW.n5 Tryz.prog tV where
 mixed:=by kernel_rfl
 f5 := ⟨ "maps.Clone[warpbeam/wbref2.env,string,int]", by decide, Tryz.func111.trans (congrArg some (by kernel_rfl))⟩
 f7:=Tryz.func168.trans (congrArg some (by kernel_rfl))
 t4:=Tryz.underlying4
 a4:=Tryz.isAgg4
 z4:=Tryz.sizeOf4
 v4:=Tryz.zeroValue4
 t20:=Tryz.underlying20
 a20:=Tryz.isAgg20
 z20:=Tryz.sizeOf20
 v20:=Tryz.zeroValue20
 t23:=Tryz.underlying127
 a23:=Tryz.isAgg127
 z23:=Tryz.sizeOf127
 v23:=Tryz.zeroValue127
theorem pp (g:Nat) (kv:List (AV×AV)) (ver:Nat) (h0:Heap) (c0:Nat) (hg:h0 g=some (.map kv ver)) :
  ACalls Pg Fn111.n [.map g] ⟨h0,c0⟩ fun av s'=>av=.map c0∧s'=⟨upd h0 c0 (some (.map kv c0)),c0+1⟩:=by
 intro G w vs hS hv
 obtain ⟨hv1,hv2⟩:=hv
 match vs,hv1,hv2 with
 | [x],_,hv2=>
  have hx:=hv2 0 _ x rfl rfl
  cases hx with
  | map _ l hl=>
   obtain ⟨hcap,hver,es,clock,h1,h2,h3,h4⟩:=hS.map hg hl
   have hcall:=AnyW.maps_Clone sH l.b es clock w h1
   unfold CallOk
   rw [show [Value.map (some l.b)].toArray=#[.map (some l.b)] from rfl,Tryz.call111]
   refine hcall.mono fun e w' he=>?_
   obtain ⟨rfl,rfl⟩:=he
   have hold:∀ b,b<w.heap.size→(w.alloc (.map es clock)).heap[b]?=w.heap[b]?:=fun b hb=>heap_alloc_old w _ hb
   have hle:G.Le (G.addLoc c0 ⟨w.heap.size,1,0⟩):=Gh.le_addLoc hS.fresh
   have hs:=Sim.add (b':=.map kv c0) (l':=⟨w.heap.size,1,0⟩) (c':=c0+1) (w':=w.alloc (.map es clock)) hS (Nat.lt_succ_self _) hold (fun _=>Nat.le_refl _) (by intro kv0 ver0 e; injection e with _ e; subst e; exact Nat.le_refl _)
    ⟨⟨by simp,es,clock,heap_alloc_new w _,h2,fun i e p he hp=>by
     obtain ⟨a,b,c⟩:=h3 i e p he hp
     exact ⟨a.mono hle,b.mono hle,c⟩,h4⟩,Nat.lt_succ_self _⟩
   have ht:=Stp.add (b':=.map kv c0) (l':=⟨w.heap.size,1,0⟩) (c':=c0+1) (w':=w.alloc (.map es clock)) hS (Nat.lt_succ_self _) hold (fun _=>Nat.le_refl _) (by simp) rfl rfl rfl
   exact ⟨_,_,_,ht,hs,.map c0 ⟨w.heap.size,1,0⟩ (ce _ _ _),rfl,rfl⟩
end Go.Proofs.YtocppbmmfklbmaaGreat
set_option maxRecDepth 20000
set_option maxHeartbeats 4000000
namespace Go.Proofs.YtocppbmmfklbmaaGreat
open Go.AM Go.Wb
def cO (h:Heap) (g:Nat) (e:Env):Prop:=∃ ver,h g=some (.map (kvs AV.str AV.int e) ver)
theorem tZ {h:Heap} {g:Nat} {e:Env} (he:cO h g e) (x:ByteArray) (c:Nat):lkI (.one .str) (.int 0) false (.map g) (.str x) ⟨h,c⟩=some (.int (aw e x)):=by
 obtain ⟨ver,he⟩:=he
 rw [gX eJ (f:=AV.int) he x]
 unfold aw
 cases bL e x <;> rfl
theorem jn (f:Wb.Form) (hf:OkForm f) (e:Env) (he:ed e) (g:Nat) (h0:Heap) (c0:Nat) (hg:cO h0 g e) (hgc:g<c0) :
  ACalls Pg Fn99.n [.map g,f.av] ⟨h0,c0⟩ fun av s'=>av=.int (aG (aw e) f)∧s'.h=h0:=by
 refine Fn99.calls .frz ?_
 unfold Fn99.ac
 have hφ:=cw he
 have hlen:=hf.len
 simp [Form.av,Form.cells]
 refine bh 13 Fn99.W0 f.terms (fun i r sl s'=>∃ n:Int,sl 5=.int n∧d5 (aw e) r n=aG (aw e) f ∧ -(1000000+(i:Int)*1000000000)≤n∧n≤1000000+(i:Int)*1000000000) (by rfl) (by rfl) ?_ ?_ ?_
 ·simp
  exact ⟨rfl,hf.const⟩
 ·intro v h c hv hF hI
  obtain ⟨n,h5,hI,_⟩:=hI
  simp at h5
  simp [hv,h5]
  refine ⟨by simpa [d5] using hI,?_⟩
  exact aE fun k hk=>by rw [hF.h k (by omega),ad (by omega)]
 ·intro i t ts v h c hi hx hl hv hF hI
  obtain ⟨n,h5,hI,hn1,hn2⟩:=hI
  simp at h5
  have hw:=ae (x:=(i:Int)+1) (by omega) (by omega)
  have hcc:=hF.c
  have hm:=lD (hf.coef t (aM hl)) (hφ t.name)
  have hw1:=ae (x:=t.coef*aw e t.name) (by omega) (by omega)
  have hw2:=ae (x:=n+t.coef*aw e t.name) (by omega) (by omega)
  have hgh:cO (upd h c (some (.row 2 [[.str t.name,.int t.coef]] .live none))) g e:=by
   obtain ⟨ver,hg⟩:=hg
   exact ⟨ver,by rw [ad (by omega),hF.h g (by omega),ad (by omega)]; exact hg⟩
  have hlk:=tZ hgh t.name (c+1)
  simp [hv,hi,hx,Term.cells,h5,hlk,hw1,hw2,hw]
  refine ⟨hF.upd hcc (by omega),hI,by omega,by omega⟩
theorem tS (st:Wb.Step) (low high:List Wb.Bound) (hst:∃ kind name conds body array subs expr,st=.mk kind name low high conds body array subs expr) (hl:∀ b∈low,cA b) (hh:∀ b∈high,cA b) (hl0:low≠[]) (hh0:high≠[]) (e:Env) (he:ed e) (g:Nat) (h0:Heap) (c0:Nat) (hg:cO h0 g e) (hgc:g<c0) :
  ACalls Pg Fn110.n [.map g,st.av] ⟨h0,c0⟩ fun av s'=>av=.tup [.int (eF (aw e) low),.int (eI (aw e) high)]∧s'.h=h0:=by
 refine ACalls.small fun hsm=>?_
 obtain ⟨kind,name,conds,body,array,subs,⟨op,n,form,ea,es,args⟩,rfl⟩:=hst
 have hφ:=cw he
 rw [Step.av_mk] at hsm ⊢
 have hlen:low.length≤68719476736∧high.length≤68719476736:=by simp at hsm; omega
 refine Fn110.calls .frz ?_
 unfold Fn110.ac
 simp
 refine bh 15 Fn110.W0 low (fun i r sl s'=>∃ n:Int,sl 6=.int n∧dL (aw e) r n=eF (aw e) low ∧ -1099511627776≤n∧n≤12001000000) (by rfl) (by rfl) ?_ ?_ ?_
 ·simp
  exact se hφ hl hl0
 ·intro v h c hv hF hI
  obtain ⟨nl,h6,hI,_⟩:=hI
  simp at h6
  simp only [dL] at hI
  have hbox:h c0=_:=(hF.h c0 (by omega)).trans af
  have hcc:=hF.c
  simp [hv,hbox]
  refine bh 34 Fn110.W1 high (fun i r sl s'=>∃ n:Int,sl 7=.int n∧sl 6=.int (eF (aw e) low)∧dr (aw e) r n=eI (aw e) high ∧ -12001000000≤n∧n≤1099511627776) (by rfl) (by rfl) ?_ ?_ ?_
  ·simp [h6,hI]
   exact qS hφ hh hh0
  ·intro v2 h2 c2 hv2 hF2 hI2
   obtain ⟨nh,h7,h6',hI2,_⟩:=hI2
   simp at h7 h6'
   simp only [dr] at hI2
   simp [hv2,h7,h6',hI2]
   exact aE fun k hk=>by rw [hF2.h k (by omega),hF.h k (by omega),ad (by omega)]
  ·intro i b bs v2 h2 c2 hi hx hl2 hv2 hF2 hI2
   obtain ⟨nh,h7,h6',hI2,hn1,hn2⟩:=hI2
   simp at h7 h6'
   have hw:=ae (x:=(i:Int)+1) (by omega) (by omega)
   have hcc2:=hF2.c
   obtain ⟨bf,bd⟩:=b
   have hb:=hh _ (aM hl2)
   have hfb:-12001000000≤aG (aw e) bf∧aG (aw e) bf≤12001000000:=cy hφ hb.1
   have hbd:1≤bd:=hb.2.1
   have hdv:=fH (a:=aG (aw e) bf) hbd 12001000000 hfb
   have hgh:cO (upd h2 c2 (some (.row 3 [[.int bf.const,row (bf.terms.map Term.cells),.int bd]] .live none))) g e:=by
    obtain ⟨ver,hg⟩:=hg
    exact ⟨ver,by rw [ad (by omega),hF2.h g (by omega),hF.h g (by omega),ad (by omega)]; exact hg⟩
   simp [hv2,hi,hx,Bound.cells,h7]
   refine ACalls.at (jn bf hb.1 e he g _ _ hgh (by omega)) fun c3 hc3=>?_
   simp
   refine ACalls.pure (qo _ bd (by omega) (by omega) (by omega)) fun c4 hc4=>?_
   simp [hw,hv2,h6']
   refine ⟨hF2.upd hcc2 (by omega),?_,?_,?_⟩
   ·exact hI2
   ·show _≤mnI nh (_ / _); unfold mnI; split <;> omega
   ·show mnI nh (_ / _)≤_; unfold mnI; split <;> omega
 ·intro i b bs v h c hi hx hl2 hv hF hI
  obtain ⟨nl,h6,hI,hn1,hn2⟩:=hI
  simp at h6
  have hw:=ae (x:=(i:Int)+1) (by omega) (by omega)
  have hcc:=hF.c
  obtain ⟨bf,bd⟩:=b
  have hb:=hl _ (aM hl2)
  have hfb:-12001000000≤aG (aw e) bf∧aG (aw e) bf≤12001000000:=cy hφ hb.1
  have hbd:1≤bd:=hb.2.1
  have hub:=kl hbd 12001000000 hfb
  have hw1:=ae (x:=-aG (aw e) bf) (by omega) (by omega)
  have hw2:=ae (x:=upI (aG (aw e) bf) bd) (by omega) (by omega)
  have hdv:=fH (a:=-aG (aw e) bf) hbd 12001000000 (by omega)
  have hgh:cO (upd h c (some (.row 3 [[.int bf.const,row (bf.terms.map Term.cells),.int bd]] .live none))) g e:=by
   obtain ⟨ver,hg⟩:=hg
   exact ⟨ver,by rw [ad (by omega),hF.h g (by omega),ad (by omega)]; exact hg⟩
  simp [hv,hi,hx,Bound.cells,h6]
  refine ACalls.at (jn bf hb.1 e he g _ _ hgh (by omega)) fun c2 hc2=>?_
  simp [hw1]
  refine ACalls.pure (qo _ bd (by omega) (by omega) (by omega)) fun c3 hc3=>?_
  simp only [upI] at hw2 hub
  simp [hw2,hw,hv]
  refine ⟨hF.upd hcc (by omega),?_,?_,?_⟩
  ·exact hI
  ·show _≤mxI nl (-(-aG (aw e) bf / bd)); unfold mxI; split <;> omega
  ·show mxI nl (-(-aG (aw e) bf / bd))≤_; unfold mxI; split <;> omega
def dw (h:Heap) (g:Nat) (A:List Wb.Array) (S:List Wb.Step) (rounds:Int) (l:AV) (out:Bool) (fault:Int):Prop:=h g=some (.row 6 [[row (A.map Array.cells),row (S.map Step.cells),.int rounds,l,.bool out,.int fault]] .live none)
theorem kz {A:List Wb.Array} {key:ByteArray} {i:Nat} {a:Wb.Array} (h:A[i]?=some a) (hk:bC A key=i):ei A key=a.sizes:=by
 unfold ei
 rw [hk,show ((i:Int)).toNat=i by omega,h]
theorem pX (A:List Wb.Array) (hA:∀ a∈A,OkArray a) (S:List Wb.Step) (rounds:Int) (l:AV) (out:Bool) (fault:Int) (g:Nat) (key:ByteArray) (subs:List Wb.Form) (hs:eH A key subs) (e:Env) (he:ed e) (ge:Nat) (h0:Heap) (c0:Nat) (hg:dw h0 g A S rounds l out fault) (hgc:g<c0) (hge:cO h0 ge e) (hgec:ge<c0) :
  ACalls Pg Fn113.n [.ptr g 0 0,.str key,row (subs.map Form.cells),.map ge] ⟨h0,c0⟩ fun av s'=>av=.tup [.agg (Spot.cells (bT A (aw e) key subs).1),.bool (bT A (aw e) key subs).2]∧s'.h=h0:=by
 refine ACalls.small fun hsm=>?_
 have hφ:=cw he
 obtain ⟨i,a,hi,hk,hak,hlen,hsub⟩:=hs
 have ha:=hA a (List.mem_of_getElem? hi)
 have hlen4:=ha.len
 have hsz:=kz hi hk
 have hil:i<A.length:=(List.getElem?_eq_some_iff.1 hi).1
 have hAi:A[i]=a:=(List.getElem?_eq_some_iff.1 hi).2
 have hAg:(A.map Array.cells)[i]?=some [.str a.key,row (aj a.sizes)]:=by simp [hi,Array.cells]
 refine Fn113.calls .frz ?_
 unfold Fn113.ac
 unfold dw at hg
 have hgc0:¬g=c0:=by omega
 simp
 obtain ⟨Post,hPost⟩:∃ Post:Slots→St→Prop,Post=fun sl' s'=>∃ gx,sl' 10=.ptr gx 0 0∧c0+1≤gx∧gx<s'.c∧s'.h gx=some (.row 2 [[.str a.key,row (aj a.sizes)]] .live none)∧s'.h c0=some (.row 2 [[.str ⟨#[]⟩,.int 0]] .live none)∧∀ k,k<c0→s'.h k=h0 k:=⟨_,rfl⟩
 have hgc1:¬g=c0+1:=by omega
 refine roamW_cut [10,16,17,18,19,20,21,22,23,24,25,26,27,28] (by rfl) Post ?_ ?_
 ·simp [roamW_t,roamW_f,roamW_n,hg,hgc0,hgc1]
  refine ⟨?_,?_⟩
  ·refine ACalls.pure (iD ⟨A,S⟩ key) fun c1 hc1=>?_
   simp [hk,hAg,hgc1,hgc0,hg]
   rw [hPost]
   refine ⟨c0+1,by simp,by omega,by show c0+1<c1; omega,af,?_,fun k hk=>?_⟩
   ·show upd (upd h0 c0 _) (c0+1) _ c0=_
    rw [ad (by omega),af]
   ·show upd (upd h0 c0 _) (c0+1) _ k=_
    rw [ad (by omega),ad (by omega)]
  ·refine ACalls.pure (iD ⟨A,S⟩ key) fun c1 hc1=>?_
   have hgc2:¬g=c1:=by omega
   simp [roamW_t,roamW_f,roamW_n,hk,hAg,hgc2,hg,hgc0]
   rw [hPost]
   refine ⟨c1,by simp,by omega,by show c1<c1+1; omega,af,?_,fun k hk=>?_⟩
   ·show upd (upd h0 c0 _) c1 _ c0=_
    rw [ad (by omega),af]
   ·show upd (upd h0 c0 _) c1 _ k=_
    rw [ad (by omega),ad (by omega)]
 ·intro v5 s5 hP
  rw [hPost] at hP
  obtain ⟨gx,hs10,hx1,hx2,hx3,hx4,hx5⟩:=hP
  obtain ⟨h5,c5⟩:=s5
  simp at hs10
  simp only at hx2 hx3 hx4 hx5
  have hlz:a.sizes.length≤4:=hlen4
  simp [hs10]
  obtain ⟨Inv,hInv⟩:∃ Inv:Nat→List Wb.Form→Slots→St→Prop,Inv=fun i r sl s'=>∃ (n:Int) (ok:Bool),sl 11=.int n∧sl 12=.bool ok∧cG (aw e) (a.sizes.drop i) r n ok=cG (aw e) a.sizes subs 0 true:=⟨_,rfl⟩
  refine bh 31 Fn113.W0 subs Inv (by rfl) (by rfl) ?_ ?_ ?_
  ·rw [hInv]; exact ⟨by simp,0,true,by simp,by simp,rfl⟩
  ·intro v h c hv hF hI
   rw [hInv] at hI
   obtain ⟨n,ok,h11,h12,hI⟩:=hI
   simp at h11 h12
   have hz:a.sizes.drop subs.length=[]:=by rw [←hlen,List.drop_length]
   rw [hz] at hI
   simp only [cG] at hI
   have hb:h c0=some (.row 2 [[.str ⟨#[]⟩,.int 0]] .live none):=(hF.h c0 (by omega)).trans hx4
   simp [hv,h11,h12,hb,aK,Spot.cells,bT,hsz,←hI]
   exact aE fun k hk=>by rw [hF.h k (by omega)]; exact hx5 k hk
  ·intro j f fs v h c hj hx hl hv hF hI
   rw [hInv] at hI
   obtain ⟨n,ok,h11,h12,hI⟩:=hI
   simp at h11 h12
   have hw:=ae (x:=(j:Int)+1) (by omega) (by omega)
   have hcc:=hF.c
   have hjz:j<a.sizes.length:=by omega
   have hzj:=ha.sizes a.sizes[j] (List.getElem_mem hjz)
   have hw1:=ae (x:=a.sizes[j]-1) (by omega) (by omega)
   have hof:=hsub f (aM hl)
   have hbx:∀ B,upd h c B gx=some (.row 2 [[.str a.key,row (aj a.sizes)]] .live none):=fun B=>by rw [ad (by omega),hF.h gx (by omega)]; exact hx3
   have hgh:∀ B,cO (upd h c B) ge e:=fun B=>by
    obtain ⟨ver,hge⟩:=hge
    exact ⟨ver,by rw [ad (by omega),hF.h ge (by omega),hx5 ge (by omega)]; exact hge⟩
   rw [List.drop_eq_getElem_cons hjz] at hI
   simp only [cG] at hI
   have hjf:(subs.map Form.cells)[j]?=some [.int f.const,row (f.terms.map Term.cells)]:=by simp [hj,hx,Form.cells]
   simp [hv,hj,hx,Form.cells]
   refine ACalls.at (jn f hof e he ge _ _ (hgh _) (by omega)) fun c2 hc2=>?_
   cases ok
   ·simp [h12,h11,hs10,hbx,dd hjz,hw,hv]
    refine ⟨hF.upd hcc (by omega),?_⟩
    rw [hInv]
    exact ⟨_,_,by simp,by simp [h12],hI⟩
   ·simp [h12,h11,hs10,hbx,dd hjz,hw1]
    refine ACalls.pure (ca _ _ _) fun c3 hc3=>?_
    simp [h12,h11,hs10,hbx,dd hjz,hw,hv]
    refine ⟨hF.upd hcc (by omega),?_⟩
    rw [hInv]
    rw [Bool.true_and] at hI
    exact ⟨IntKind.i64.wrap (IntKind.i64.wrap (n*a.sizes[j])+aG (aw e) f),decide (0≤aG (aw e) f∧aG (aw e) f≤a.sizes[j]-1),by simp,by simp,hI⟩
theorem _root_.Go.AM.retH_at {c0 g:Nat} {h0 h:Heap} (hg:g<c0):retH c0 h0 h g=h g:=if_pos hg
theorem _root_.Go.AM.retH_out {c0 g:Nat} {h0 h:Heap} (hk:∀ k,k<c0→k≠g→h k=h0 k):∀ k,k≠g→retH c0 h0 h k=h0 k:=fun k hkg=>by
 unfold retH; split
 ·exact hk k ‹_› hkg
 ·rfl
theorem jY (A:List Wb.Array) (φ:ByteArray→Int):∀ (a b:List Wb.Expr),(cC A φ (a++b)).1=(cC A φ a).1++(cC A φ b).1∧(cC A φ (a++b)).2=((cC A φ a).2&&(cC A φ b).2)
 | [],b=>by simp [cC]
 | x::a,b=>by
  obtain ⟨h1,h2⟩:=jY A φ a b
  simp [cC,h1,h2,Bool.and_assoc]
theorem uf (A:List Wb.Array) (hA:∀ a∈A,OkArray a) (S:List Wb.Step) (rounds:Int) (l:AV) (hl:l.cell=true) (fault:Int) (g:Nat) (e:Env) (he:ed e) (ge:Nat):∀ (N:Nat) (x:Wb.Expr),SizeOf.sizeOf x≤N→cr A x→aR x≤4096→∀ (out:Bool) (h0:Heap) (c0:Nat),dw h0 g A S rounds l out fault→g<c0→cO h0 ge e→ge<c0→ge≠g →
  ACalls Pg Fn112.n [.ptr g 0 0,x.av,.map ge] ⟨h0,c0⟩ fun av s'=>av=row ((cE A (aw e) x).1.map Spot.cells)∧dw s'.h g A S rounds l (out||!(cE A (aw e) x).2) fault∧∀ k,k≠g→s'.h k=h0 k:=by
 intro N
 induction N with
 | zero=>intro x hx; obtain ⟨_,_,_,_,_,_⟩:=x; simp at hx
 | succ N ih=>
  intro x hx hok hnr out h0 c0 hg hgc hge hgec hgg
  obtain ⟨op,n,form,array,subs,args⟩:=x
  refine ACalls.small fun hsm=>?_
  rw [Expr.av_mk] at hsm ⊢
  have hlen:args.length≤68719476736:=by simp at hsm; omega
  refine Fn112.calls .frz ?_
  unfold Fn112.ac
  have hgc0:¬g=c0:=by omega
  have hcg0:¬c0=g:=by omega
  unfold dw at hg
  by_cases h3:op=3
  ·subst h3
   have hs:eH A array subs:=by
    simp only [cr] at hok
    rcases hok with hok | hok | hok | hok
    ·omega
    ·omega
    ·exact hok.2.2
    ·omega
   simp
   have hgx:dw (upd h0 c0 (some (.row 7 [[.int 3,.int n,.int form.const,row (form.terms.map Term.cells),.str array,row (subs.map Form.cells),row (args.map Expr.cells)]] .live none))) g A S rounds l out fault:=by unfold dw; rw [ad hgc0]; exact hg
   have hgy:cO (upd h0 c0 (some (.row 7 [[.int 3,.int n,.int form.const,row (form.terms.map Term.cells),.str array,row (subs.map Form.cells),row (args.map Expr.cells)]] .live none))) ge e:=by
    obtain ⟨ver,hge⟩:=hge
    exact ⟨ver,by rw [ad (by omega)]; exact hge⟩
   refine ACalls.at (pX A hA S rounds l out fault g array subs hs e he ge _ _ hgx (by omega) hgy (by omega)) fun c1 hc1=>?_
   have hgc1:¬g=c1:=by omega
   have hc1g:¬c1=g:=by omega
   simp [Spot.cells,hgc0,hgc1,hg]
   have hfin:∀ h1:Heap,h1 g=some (.row 6 [[row (A.map Array.cells),row (S.map Step.cells),.int rounds,l,.bool (out||!(bT A (aw e) array subs).2),.int fault]] .live none)→(∀ k,k<c0→k≠g→h1 k=h0 k)→[[AV.str (bT A (aw e) array subs).1.array,.int (bT A (aw e) array subs).1.cell]]=List.map Spot.cells (cE A (aw e) (.mk 3 n form array subs args)).1∧dw (retH c0 h0 h1) g A S rounds l (out||!(cE A (aw e) (.mk 3 n form array subs args)).2) fault∧∀ k,k≠g→retH c0 h0 h1 k=h0 k:=by
    intro h1 e1 e2
    refine ⟨by simp [cE,Spot.cells],?_,retH_out e2⟩
    unfold dw
    rw [retH_at hgc,e1]; simp [cE]
   cases out
   ·simp [hg,hgc0,hgc1,hc1g,bsI,au]
    exact hfin _ (by simp) fun k hk hkg=>by rw [ad hkg,ad (by omega),ad (by omega)]
   ·simp [hg,hgc0,hgc1,hc1g,bsI,au]
    exact hfin _ (by simp) fun k hk hkg=>by rw [ad hkg,ad (by omega),ad (by omega)]
  ·have hoks:cL A args:=by
    simp only [cr] at hok
    rcases hok with hok | hok | hok | hok
    ·rw [hok.2.1]; trivial
    ·rw [hok.2.1]; trivial
    ·exact absurd hok.1 h3
    ·exact hok.2.2.2
   have hmem:∀ {l:List Wb.Expr},cL A l→∀ y∈l,cr A y:=by
    intro l
    induction l with
    | nil=>simp
    | cons y ys ih2=>
     intro h z hz
     simp only [cL] at h
     rcases List.mem_cons.1 hz with rfl | hz
     ·exact h.1
     ·exact ih2 h.2 z hz
   have hspec:cE A (aw e) (.mk op n form array subs args)=cC A (aw e) args:=by simp [cE,h3]
   rw [hspec]
   simp [h3]
   obtain ⟨Inv,hInv⟩:∃ Inv:Nat→List Wb.Expr→Slots→St→Prop,Inv=fun i r sl s'=>∃ (go:Nat) (sp:List Wb.Spot) (o:Bool),sl 9=.row go 2 0 sp.length∧c0<go∧go<s'.c∧s'.h go=some (.row 2 (sp.map Spot.cells) .live none)∧dw s'.h g A S rounds l o fault∧(∀ k,k<c0→k≠g→s'.h k=h0 k)∧sp=(cC A (aw e) (args.take i)).1∧o=(out||!(cC A (aw e) (args.take i)).2):=⟨_,rfl⟩
   refine aY 41 Fn112.W0 args Inv (by rfl) (by rfl) ?_ ?_ ?_
   ·rw [hInv]
    refine ⟨by simp,c0+1,[],out,by simp,by omega,by show c0+1<c0+1+1; omega,af,?_,fun k hk hkg=>?_,by simp [cC],by simp [cC]⟩
    ·show upd (upd h0 c0 _) (c0+1) _ g=_
     rw [ad (by omega),ad (by omega)]; exact hg
    ·show upd (upd h0 c0 _) (c0+1) _ k=_
     rw [ad (by omega),ad (by omega)]
   ·intro v s' hv hI
    rw [hInv] at hI
    obtain ⟨go,sp,o,h9,i1,i2,i3,i4,i5,i6,i7⟩:=hI
    obtain ⟨h,c⟩:=s'
    simp at h9 i3 i6 i7
    simp only at i2 i4 i5
    have hgo:¬go=g:=by omega
    have htk:List.take sp.length (sp.map Spot.cells)=sp.map Spot.cells:=by rw [←List.length_map (f:=Spot.cells),List.take_length]
    simp [hv,h9,i3,htk]
    rw [←i6]
    refine ⟨?_,?_,?_⟩
    ·exact cN si sp
    ·rw [i7] at i4
     unfold dw; rw [retH_at hgc,ad (Ne.symm hgo)]
     exact i4
    ·exact retH_out fun k hk hkg=>by rw [ad (by omega)]; exact i5 k hk hkg
   ·intro i x xs v s' hi hx2 hl2 hv hI
    rw [hInv] at hI
    obtain ⟨go,sp,o,h9,i1,i2,i3,i4,i5,i6,i7⟩:=hI
    obtain ⟨h,c⟩:=s'
    simp at h9
    simp only at i2 i3 i4 i5
    have hw:=ae (x:=(i:Int)+1) (by omega) (by omega)
    have hmx:x∈args:=aM hl2
    have hxok:=hmem hoks x hmx
    have hsz:SizeOf.sizeOf x≤N:=by
     have:=List.sizeOf_lt_of_mem hmx
     simp at hx; omega
    have hnr2:bg args=bg (args.take i)+(aR x+bg xs):=by
     conv=>lhs; rw [hl2]
     rw [jj]; rfl
    have hnr3:bg args≤4096:=by simpa [aR,h3] using hnr
    have hsl:sp.length=bg (args.take i):=by rw [i6,ky]
    have htake:args.take (i+1)=args.take i++[x]:=by rw [List.take_add_one,List.getElem?_eq_getElem hi,hx2]; rfl
    have hc1:c0<c:=by omega
    have hwk:∀ B,dw (upd h c B) g A S rounds l o fault:=fun B=>by unfold dw; rw [ad (by omega)]; exact i4
    have hen:∀ B,cO (upd h c B) ge e:=fun B=>by
     obtain ⟨ver,hge⟩:=hge
     exact ⟨ver,by rw [ad (by omega),i5 ge hgec hgg]; exact hge⟩
    have hce:=fun B=>ih x hsz hxok (by omega) o (upd h c B) (c+1) (hwk B) (by omega) (hen B) (by omega) hgg
    obtain ⟨op2,n2,form2,array2,subs2,args2⟩:=x
    rw [Expr.av_mk] at hce
    simp [hv,hi,hx2,Expr.cells_mk]
    refine (hce _).mono ?_
    rintro av ⟨h2,c2⟩ hc2 ⟨rfl,j1,j2⟩
    simp only at hc2 j1 j2
    have hgo2:h2 go=some (.row 2 (sp.map Spot.cells) .live none):=by rw [j2 go (by omega),ad (by omega)]; exact i3
    have hap:=jD (sz:=2) (bytes:=24) (md:=.plain) (es:=sp.map Spot.cells) (xs:=(cE A (aw e) (.mk op2 n2 form2 array2 subs2 args2)).1.map Spot.cells) (b:=false) (len:=sp.length) (s:=⟨h2,c2⟩) (by simp) hgo2 (by simp) (by decide) (by decide) (by decide) (fun y hy=>by obtain ⟨t,_,rfl⟩:=List.mem_map.1 hy; rfl) (by simp [dS]; omega)
    simp only [row] at hap ⊢
    simp [h9,hap,hw,hv]
    rw [hInv]
    refine ⟨c2,sp++(cE A (aw e) (.mk op2 n2 form2 array2 subs2 args2)).1,o||!(cE A (aw e) (.mk op2 n2 form2 array2 subs2 args2)).2,by simp,by omega,by show c2<c2+1; omega,?_,?_,fun k hk hkg=>?_,?_,?_⟩
    ·show upd (upd h2 go _) c2 _ c2=_
     rw [af,List.map_append]
    ·show upd (upd h2 go _) c2 _ g=_
     rw [ad (by omega),ad (by omega)]; exact j1
    ·show upd (upd h2 go _) c2 _ k=_
     rw [ad (by omega),ad (by omega),j2 k hkg,ad (by omega)]; exact i5 k hk hkg
    ·rw [htake,(jY A (aw e) _ _).1,←i6]; simp [cC]
    ·rw [htake,(jY A (aw e) _ _).2,i7]
     simp [cC,Bool.or_assoc]
end Go.Proofs.YtocppbmmfklbmaaGreat
