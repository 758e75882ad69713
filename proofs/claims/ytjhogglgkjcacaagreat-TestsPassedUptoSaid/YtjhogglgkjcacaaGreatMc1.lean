/- Part of the claim: see its last text. -/
import Derived.Test.YtjhogglgkjcacaaGreatMc0
import Derived.Test.YtjhogglgkjcacaaGreatMa19
import Derived.Shelf.SlMaps.Clone
import Derived.Test.YtjhogglgkjcacaaGreatMa20
import Derived.Below
set_option linter.all false
set_option maxRecDepth 20000
set_option maxHeartbeats 4000000
namespace Go.Proofs.YtjhogglgkjcacaaGreat
open Go.AM Go.Wb
theorem tO (x:ByteArray) (k:Int) (hk:k=0∨k=1):aG Pg Fn142.n [.str x,.int k] (.str (if k=0 then ⟨#[]⟩ else x)):=by
 intro s
 refine Fn142.calls .frz ?_
 unfold Fn142.ac
 rcases hk with rfl | rfl <;> simp
@[simp] theorem _root_.Go.AM.reOk_cv {t:Nat} {k:CK} {x:X} {sl:Slots} {s:St}:ed (t,none,.cv k x) sl s↔cvI k (x.ev sl) s=some (sl t):=by
 simp only [ed,gdI,aH]
 constructor
 ·rintro (h | ⟨_,h⟩)
  ·cases h
  ·cases hl:cvI k (x.ev sl) s with
   | none=>rw [hl] at h; cases h
   | some v=>rw [hl] at h; simp at h; rw [h]
 ·intro h
  exact .inr ⟨trivial,by rw [h]; rfl⟩
section
variable {P:Program} {a:AO} {post:List AO} {K:Slots→St→Prop} {e:AO} {r:List (Bool×AO)} {sl:Slots} {s:St}
theorem _root_.Go.AM.roamW_t:ce P a post K ((true,e)::r) sl s=(aM P (a.cut (e::r.map (·.2))::e::(r.map (·.2)++post)) K sl s∧aM P [e] (ce P a post K r) sl s):=by
 simp only [ce,true_imp_iff]
@[simp] theorem _root_.Go.AM.cut_mk {d:Option Nat} {g:Option (Nat×Bool)} {m:Md} {i:I} {re:List (Nat×Option (Nat×Bool)×I)} {l:List AO}:AO.cut ⟨d,g,m,i,re⟩ l=⟨d,g,m,i,re.filter fun q=>l.all fun o=>o.dst != some q.1⟩:=Eq.trans rfl rfl
theorem _root_.Go.AM.roamW_f:ce P a post K ((false,e)::r) sl s=aM P [e] (ce P a post K r) sl s:=by
 simp only [ce,Bool.false_eq_true,false_imp_iff,true_and]
theorem _root_.Go.AM.roamW_n:ce P a post K [] sl s=aM P (a::post) K sl s:=Eq.trans rfl rfl
theorem _root_.Go.AM.roamW_cut {pre:List (Bool×AO)} (W:List Nat) (hW:gN (fA (a::(pre.map (·.2)++post))) W=true) (Post:Slots→St→Prop) (h:ce P a post Post pre sl s) (hk:∀ v s',Post (ov W sl v) s'→K (ov W sl v) s'):ce P a post K pre sl s:=by
 refine hO pre (mI pre h) fun sl' s' hp=>?_
 have e:ov W sl sl'=sl':=sp fun t ht=>hp.2 t (lc hW ht)
 have:=hk sl' s' (by rw [e]; exact hp.1)
 rwa [e] at this
end
theorem d8 {sz:Nat} {zs el:List AV} (hz:aA sz zs=true) (h0:0<sz) (hok:aA sz el=true) (s:St):bsI sz zs 1 [(0,.agg el)] .plain s=some (.sl [el] true,s):=by
 unfold bsI
 rw [if_pos ⟨h0,hz,by decide⟩]
 have hf:an sz (List.replicate 1 zs) [(0,.agg el)]=some [el]:=by
  show (if aA sz el=true∧0<(List.replicate 1 zs).length then _ else _)=_
  rw [if_pos ⟨hok,by simp⟩]; rfl
 rw [hf]; rfl
theorem qV {g k:Nat} (hne:g≠k) {h:Heap} {a b:Option Body}:upd (upd h g a) k b=upd (upd h k b) g a:=by
 funext j
 show (if j=k then b else if j=g then a else h j)=if j=g then a else if j=k then b else h j
 by_cases h1:j=k
 ·rw [if_pos h1,if_pos h1,if_neg (by omega)]
 ·rw [if_neg h1,if_neg h1]
theorem ly (z:Int) (b:Bool) (s:St):cvI .b2s (.sl [[.sc (.int .u8 z)]] b) s=some (.str ⟨#[UInt8.ofNat z.toNat]⟩):=by
 rfl
theorem rY {x y:ByteArray} (h:x.size+y.size≤1000000):dA .add x y=some (.string (x++y)):=by
 have hm:IntKind.i64.max=9223372036854775807:=by decide
 unfold dA
 rw [if_neg (by rw [hm]; omega)]
def wE (L:List Int) (g gn:Nat) (h0:Heap) (c0:Nat) (n a:Int) (A C:Nat) (K:Int) (es:List (List AV)) (gr:Nat) (h:Heap) (c:Nat):Prop:=
 ∃ (m:Nat) (n' a':Int) (S:Nat→Prop),c0≤gr∧gr<c∧h gr=some (.row 15 es .live none)∧Tr 2 h S es m∧(∀ k,S k→c0≤k∧k<c∧k≠gr)∧m≤C∧h gn=some (.row 1 [[.int n']] .live none)∧n≤n'∧n'≤n+A∧SM h g L a'∧a≤a'∧a'≤a+K∧∀ k,k<c0→k≠g→k≠gn→h k=h0 k
def StI (L:List Int) (g gn:Nat) (h0:Heap) (c0:Nat) (around:List ByteArray) (n a:Int) (A C:Nat) (K:Int) (i:Nat) (es:List (List AV)) (gr:Nat) (h:Heap) (c:Nat):Prop:=
 ∃ (m:Nat) (n' a':Int) (S:Nat→Prop),es.length=i∧c0<gr∧gr<c∧h gr=some (.row 15 es .live none)∧Tr 2 h S es m∧(∀ k,S k→c0<k∧k<c∧k≠gr)∧m≤i*(1+C)∧h gn=some (.row 1 [[.int n']] .live none)∧n≤n'∧n'≤n+i*A∧SM h g L a'∧a≤a'∧a'≤a+i*(120+K) ∧
  h c0=some (.row 1 [[row (am around)]] .live none)∧∀ k,k<c0→k≠g→k≠gn→h k=h0 k
theorem StI.next {L:List Int} {g gn:Nat} {h0:Heap} {c0:Nat} {around:List ByteArray} {n a:Int} {A C:Nat} {K:Int} {i:Nat} {es:List (List AV)} {gr:Nat} {h h2:Heap} {c c2:Nat} {e:List AV} {Se:Nat→Prop} {m1:Nat} {n1 n2 a1 a2:Int}
  {S:Nat→Prop} {m:Nat} (hg:g<c0) (hgn:gn<c0) (hi:es.length=i) (q1:c0<gr) (q2:gr<c) (hgr:h gr=some (.row 15 es .live none)) (ht:Tr 2 h S es m) (hS:∀ k,S k→c0<k∧k<c∧k≠gr) (hm:m≤i*(1+C)) (hn1:n1≤n+i*A) (hn0:n≤n1) (ha1:a1≤a+i*(120+K)) (ha0:a≤a1)
  (hb:h c0=some (.row 1 [[row (am around)]] .live none)) (hfr:∀ k,k<c0→k≠g→k≠gn→h k=h0 k)
  (hc2:c≤c2) (hsame:∀ k,k<c→k≠g→k≠gn→h2 k=h k) (hte:Tr 2 h2 Se [e] m1) (hSe:∀ k,Se k→c≤k∧k<c2) (hm1:m1≤1+C) (hn2:n2≤n1+A) (hn3:n1≤n2) (hgn2:h2 gn=some (.row 1 [[.int n2]] .live none)) (hsm:SM h2 g L a2) (ha2:a2≤a1+(120+K)) (ha3:a1≤a2) :
  StI L g gn h0 c0 around n a A C K (i+1) (es++[e]) c2 (upd (upd h2 gr none) c2 (some (.row 15 (es++[e]) .live none))) (c2+1):=by
 have e1:∀ k,k≠gr→k≠c2→upd (upd h2 gr none) c2 (some (.row 15 (es++[e]) .live none)) k=h2 k:=fun k hk hk2=>by rw [ad hk2,ad hk]
 have hmm:(i+1)*(1+C)=i*(1+C)+(1+C):=Nat.succ_mul _ _
 have hnn:((i+1:Nat):Int)*A=i*A+A:=by rw [Int.natCast_add,Int.add_mul]; simp
 have haa:((i+1:Nat):Int)*(120+K)=i*(120+K)+(120+K):=by rw [Int.natCast_add,Int.add_mul]; simp
 refine ⟨m+m1,n2,a2,fun k=>S k∨Se k,by simp [hi],by omega,by omega,af,?_,?_,by rw [hmm]; omega,?_,by omega,by rw [hnn]; omega,?_,by omega,by rw [haa]; omega,?_,?_⟩
 ·refine Tr.app (Tr.frame (Tr.frame ht (h':=h2) fun k hk=>?_) fun k hk=>?_) (Tr.frame hte fun k hk=>?_) fun k h1 h2=>?_
  ·have:=hS k hk; exact hsame k this.2.1 (by omega) (by omega)
  ·have:=hS k hk; exact e1 k this.2.2 (by omega)
  ·have:=hSe k hk; exact e1 k (by omega) (by omega)
  ·have:=hS k h1; have:=hSe k h2; omega
 ·intro k hk
  rcases hk with hk | hk
  ·have:=hS k hk; omega
  ·have:=hSe k hk; omega
 ·rw [e1 _ (by omega) (by omega)]; exact hgn2
 ·unfold SM; rw [e1 _ (by omega) (by omega)]; exact hsm
 ·rw [e1 _ (by omega) (by omega),hsame _ (by omega) (by omega) (by omega)]; exact hb
 ·intro k hk hk1 hk2
  rw [e1 _ (by omega) (by omega),hsame _ (by omega) hk1 hk2]; exact hfr k hk hk1 hk2
def StC (L:List Int) (g gn:Nat) (deep:Int) (A C:Nat) (K:Int):Prop:=∀ (around:List ByteArray) (most n a:Int) (h0:Heap) (c0:Nat),around.length≤90-deep→1≤most→most≤2→SM h0 g L a→0≤a→a+K<700000000→h0 gn=some (.row 1 [[.int n]] .live none)→0≤n→n+A≤16→g<c0→gn<c0 →
 ACalls Pg Fn54.n [.ptr g 0 0,row (am around),.int deep,.int most,.ptr gn 0 0] ⟨h0,c0⟩ fun av s'=>∃ (es:List (List AV)) (gr:Nat),es.length≤2∧av=.row gr 15 0 es.length∧wE L g gn h0 c0 n a A C K es gr s'.h s'.c
theorem cJ (L:List Int) (hL:L.length≤1048576) (g gn:Nat) (hgn:g≠gn) (deep:Int) (hd1:1≤deep) (hd2:deep≤20) (A C:Nat) (K:Int) (hA:1≤A) (hA2:A≤1000) (hK:0≤K) (hsub:1<deep→StC L g gn (deep-1) A C K) :
  StC L g gn deep (2*A) (2*(1+C)) (1+2*(120+K)):=by
 intro around most n a h0 c0 har hm1 hm2 hs ha ha' hn hn0 hnA hg hgnc
 refine Fn54.calls .keep ?_
 unfold Fn54.ac
 have hgc:¬g=c0:=by omega
 have hcg:¬c0=g:=by omega
 have hnc:¬gn=c0:=by omega
 have hcn:¬c0=gn:=by omega
 simp
 refine ACalls.draw (R:=fun v=>∃ k,v=.int k∧1≤k∧(1≤most→k≤most)∧(most<1→k=1)) (jq L a 1 most g _ _ (by omega) (by omega) (by omega) (by unfold SM; rw [ad (by omega),ad hgc]; exact hs) ha (by omega) hL (by omega)) fun v h1 c1 a1 hv hc1 q1 q2 q3 q4=>?_
 obtain ⟨k,rfl,hk1,hk2,_⟩:=hv
 have hk2':=hk2 hm1
 obtain ⟨kn,hkn⟩:∃ kn:Nat,k=kn:=⟨k.toNat,by omega⟩
 subst hkn
 simp
 obtain ⟨Inv,hInv⟩:∃ Inv:Nat→List Unit→Slots→St→Prop,Inv=fun i r sl s'=>∃ (es:List (List AV)) (gr:Nat),sl 11=.row gr 15 0 es.length∧StI L g gn h0 c0 around n a1 A C K i es gr s'.h s'.c:=⟨_,rfl⟩
 refine bz 22 Fn54.W0 (List.replicate kn ()) Inv (by rfl) (by rfl) ?_ ?_ ?_
 ·rw [hInv]
  refine ⟨by simp,[],c0+1,by simp,0,n,a1,fun _=>False,rfl,by omega,by show c0+1<c1; omega,?_,.nil _,fun _ h=>h.elim,by omega,?_,by omega,by omega,q3,by omega,by omega,?_,?_⟩
  ·show h1 (c0+1)=_
   rw [q4 _ (by omega),af]
  ·show h1 gn=_
   rw [q4 _ (by omega),ad (by omega),ad hnc]; exact hn
  ·show h1 c0=_
   rw [q4 _ hcg,ad (by omega),af]
  ·intro k hk hk1 hk2
   show h1 k=_
   rw [q4 _ hk1,ad (by omega),ad (by omega)]
 ·intro v s' hv hI
  rw [hInv] at hI
  obtain ⟨es,gr,h11,m,n',a',S,hlen,p1,p2,p3,p4,p5,p6,p7,p8,p9,p10,p11,p12,p13,p14⟩:=hI
  obtain ⟨h,c⟩:=s'
  simp at h11 hv hlen p6 p9 p12
  simp only at p1 p2 p3 p4 p5 p7 p10 p13 p14
  simp [hv,h11,hInv]
  have hk12:kn=1∨kn=2:=by omega
  refine ⟨es,by omega,gr,⟨rfl,rfl⟩,m,n',a',S,by omega,p2,p3,p4,fun k hk=>⟨by have:=p5 k hk; omega,(p5 k hk).2⟩,?_,p7,p8,?_,p10,by omega,?_,p14⟩
  ·rcases hk12 with e | e <;> rw [e] at p6 <;> omega
  ·rcases hk12 with e | e <;> rw [e] at p9 <;> omega
  ·rcases hk12 with e | e <;> rw [e] at p12 <;> omega
 ·intro i x xs v s' hi hx hl2 hv hI
  rw [hInv] at hI
  obtain ⟨es,gr,h11,m,n',a',S,hlen,p1,p2,p3,p4,p5,p6,p7,p8,p9,p10,p11,p12,p13,p14⟩:=hI
  obtain ⟨h,c⟩:=s'
  simp at h11 hi
  simp only at p1 p2 p3 p4 p5 p7 p10 p13 p14
  have hbs:bsI 1 [.str ⟨#[]⟩] 3 [(0,.str ⟨#[105]⟩),(1,.str ⟨#[106]⟩),(2,.str ⟨#[107]⟩)] .mut ⟨h,c⟩=some (.row c 1 0 3,⟨upd h c (some (.row 1 (am [⟨#[105]⟩,⟨#[106]⟩,⟨#[107]⟩]) .live none)),c+1⟩):=by
   simp [bsI,an,am]
  have hcc0:¬c0=c:=by omega
  have hdel:=tM [⟨#[105]⟩,⟨#[106]⟩,⟨#[107]⟩] Fn138.n [] [.ptr c0 0 0] (fun x=>inL x around) (upd h c (some (.row 1 (am [⟨#[105]⟩,⟨#[106]⟩,⟨#[107]⟩]) .live none))) c (c+1) (by simp) (by simp) (fun x h' c' hh hc'=>by
   refine (tN around x c0 h' c' ?_)
   rw [hh _ hcc0,ad hcc0]; exact p13)
  simp only [List.length_cons,List.length_nil] at hdel
  simp [hv,hi,hbs]
  refine hdel.mono ?_
  rintro av ⟨h2,c2⟩ hc2 ⟨nl,nk,rfl,hnk,hnl,hn2,hfr2⟩
  simp only at hc2 hn2 hfr2
  have hfr2':∀ k,k≠c→h2 k=h k:=fun k hk=>by rw [hfr2 k hk,ad hk]
  simp
  have hiA:(i:Int)≤1:=by omega
  have hi01:(i:Int)=0∨(i:Int)=1:=by omega
  have hiK:(i:Int)*(120+K)≤120+K:=by rcases hi01 with e | e <;> rw [e] <;> omega
  have hiA2:(i:Int)*A≤A:=by rcases hi01 with e | e <;> rw [e] <;> omega
  refine ACalls.draw (cm L a' 6 g h2 c2 (by omega) (by unfold SM; rw [hfr2' _ (by omega)]; exact p10) (by omega) (by omega) hL (by omega)) fun w h3 c3 a3 hw hc3 r1 r2 r3 r4=>?_
  obtain ⟨k1,rfl,hk3,hk4,_⟩:=hw
  simp [h11]
  have hb3:h3 c0=some (.row 1 [[row (am around)]] .live none):=by rw [r4 _ hcg,hfr2' _ hcc0]; exact p13
  have hgn3:h3 gn=some (.row 1 [[.int n']] .live none):=by rw [r4 _ (Ne.symm hgn),hfr2' _ (by omega)]; exact p7
  by_cases hF:1<deep∧k1<3∧0<nk
  ·obtain ⟨hd,hk13,hnk0⟩:=hF
   simp [hd,hk13,hnk0]
   obtain ⟨mk,hmk⟩:∃ mk:Int,mk=(if (nk:Int)<2 then (nk:Int) else 2):=⟨_,rfl⟩
   have hmk2:1≤mk∧mk≤nk∧mk≤2:=by rw [hmk]; split <;> omega
   rw [←hmk]
   refine ACalls.draw (cm L a3 mk g h3 c3 (by omega) r3 (by omega) (by omega) hL (by omega)) fun w h4 c4 a4 hw hc4 s1 s2 s3 s4=>?_
   obtain ⟨k2,rfl,hk5,hk6,_⟩:=hw
   have hk6':=hk6 hmk2.1
   obtain ⟨k2n,hk2n⟩:∃ k2n:Nat,k2=k2n:=⟨k2.toNat,by omega⟩
   subst hk2n
   have hk2l:k2n<nl.length:=by omega
   have hk2nk:k2n<nk:=by omega
   have hnl4:h4 c=some (.row 1 (am nl) .live none):=by rw [s4 _ (by omega),r4 _ (by omega)]; exact hn2
   obtain ⟨vn,hvn⟩:∃ vn,(am nl)[k2n]?=some [.str vn]:=⟨nl[k2n],by simp [am,hk2l]⟩
   simp [hk2nk,hnl4,hvn,aI,bsI,an]
   have hg4:¬g=c4:=by omega
   have h4g:¬c4=g:=by omega
   refine ACalls.draw (R:=fun v=>∃ k,v=.int k∧k∈[0,0,1]) (bS [0,0,1] L a4 g _ _ (by simp) (by simp) (by unfold SM; rw [ad hg4]; exact s3) (by omega) (by omega) hL (by omega)) fun w h5 c5 a5 hw hc5 t1 t2 t3 t4=>?_
   obtain ⟨pk1,rfl,_⟩:=hw
   simp
   refine ACalls.quiet (R:=fun av=>∃ f:Wb.Form,av=f.av) (bw pk1 [] (by simp) (by simp) ⟨h5,c5⟩) fun w c6 hw hc6=>?_
   obtain ⟨f1,rfl⟩:=hw
   simp
   refine ACalls.pure (dC f1 1) fun c7 hc7=>?_
   simp [bsI,an,Bound.av,Bound.cells]
   refine ACalls.draw (R:=fun v=>∃ k,v=.int k∧k∈[2,3,4]) (bS [2,3,4] L a5 g _ _ (by simp) (by simp) t3 (by omega) (by omega) hL (by omega)) fun w h8 c8 a8 hw hc8 u1 u2 u3 u4=>?_
   obtain ⟨pk2,rfl,_⟩:=hw
   simp
   refine ACalls.quiet (R:=fun av=>∃ f:Wb.Form,av=f.av) (bw pk2 [] (by simp) (by simp) ⟨h8,c8⟩) fun w c9 hw hc9=>?_
   obtain ⟨f2,rfl⟩:=hw
   simp
   refine ACalls.pure (dC f2 1) fun c10 hc10=>?_
   have hx8:h8 c4=some (.row 15 [[.int 1,.str vn,.nil,.nil,.nil,.nil,.str ⟨#[]⟩,.nil,.int 0,.int 0,.int 0,.nil,.str ⟨#[]⟩,.nil,.nil]] .live none):=by rw [u4 _ h4g,t4 _ h4g,af]
   have hb8:h8 c0=some (.row 1 [[row (am around)]] .live none):=by rw [u4 _ hcg,t4 _ hcg,ad (by omega),s4 _ hcg]; exact hb3
   have hc04:¬c0=c4:=by omega
   by_cases har0:around=[]
   ·have hsl0:(am around).length=0:=by rw [har0]; rfl
    simp [bsI,an,Bound.av,Bound.cells,hx8,hb8,hc04,hsl0]
    obtain ⟨hh,hhe⟩:∃ hh,hh=upd h8 c4 (some (.row 15 [[.int 1,.str vn,.sl [[.int f1.const,row (f1.terms.map Term.cells),.int 1]] true,.sl [[.int f2.const,row (f2.terms.map Term.cells),.int 1]] true,.nil,.nil,.str ⟨#[]⟩,.nil,.int 0,.int 0,.int 0,.nil,.str ⟨#[]⟩,.nil,.nil]] .live none)):=⟨_,rfl⟩
    have hX:=(congrFun hhe c4).trans af
    have hB:hh c0=some (.row 1 [[row (am around)]] .live none):=by rw [hhe,ad (by omega)]; exact hb8
    have hN:hh gn=some (.row 1 [[.int n']] .live none):=by rw [hhe,ad (by omega),u4 _ (by omega),t4 _ (by omega),ad (by omega),s4 _ (by omega)]; exact hgn3
    have hM:SM hh g L a8:=by unfold SM; rw [hhe,ad (by omega)]; exact u3
    have hF:∀ k,k<c→k≠g→hh k=h k:=fun k hk hkg=>by rw [hhe,ad (by omega),u4 _ hkg,t4 _ hkg,ad (by omega),s4 _ hkg,r4 _ hkg,hfr2' _ (by omega)]
    rw [←hhe]
    obtain ⟨cc,hcc⟩:∃ cc,cc=c10:=⟨_,rfl⟩
    obtain ⟨aa,haa⟩:∃ aa,aa=a8:=⟨_,rfl⟩
    rw [←hcc]
    rw [←haa] at hM
    have hnlo:norm (.sl [[.int f1.const,row (f1.terms.map Term.cells),.int 1]] true)=row (([⟨f1,1⟩]:List Wb.Bound).map Bound.cells):=by simp [Bound.cells]
    have hnhi:norm (.sl [[.int f2.const,row (f2.terms.map Term.cells),.int 1]] true)=row (([⟨f2,1⟩]:List Wb.Bound).map Bound.cells):=by simp [Bound.cells]
    obtain ⟨lo,hloe⟩:∃ lo:AV,lo=.sl [[.int f1.const,row (f1.terms.map Term.cells),.int 1]] true:=⟨_,rfl⟩
    obtain ⟨hi',hhie⟩:∃ hi':AV,hi'=.sl [[.int f2.const,row (f2.terms.map Term.cells),.int 1]] true:=⟨_,rfl⟩
    have hloc:lo.cell=true:=by rw [hloe]; rfl
    have hhic:hi'.cell=true:=by rw [hhie]; rfl
    rw [←hloe] at hnlo hX
    rw [←hhie] at hnhi hX
    refine (eh around hh cc).mono ?_
    rintro av ⟨h20,c20⟩ hc20 ⟨hF20,hav20⟩
    simp only at hc20 hF20 hav20
    obtain ⟨g20,c21,h21,hap20,hg20,hF21,hg20c⟩:=dO hF20 hav20 vn (by omega)
    have hslv:(am (around++[vn])).length=around.length+1:=by simp [am]
    have hfz20:=dx (s:=⟨h21,c21⟩) (z:=1) hg20 hslv
    obtain ⟨h22,hh22⟩:∃ h22,h22=upd h21 g20 (some (.row 1 (am (around++[vn])) .frz none)):=⟨_,rfl⟩
    have hF22:Fr cc hh h22 c21:=by rw [hh22]; exact hF21.upd hg20c (Nat.le_refl _)
    have hX20:=(hF20.h c4 (by omega)).trans hX
    have hB20:=(hF20.h c0 (by omega)).trans hB
    have hwd:=ah (x:=deep-1) (by omega) (by omega)
    have hcc21:=hF22.c
    simp [hX20,hB20,bsI,an,hap20,hfz20,-dK,hwd,←hh22]
    refine ((hsub hd) (around++[vn]) 2 n' aa h22 c21 (by simp; omega) (by omega) (by omega) (by unfold SM; rw [hF22.h g (by omega)]; exact hM) (by omega) (by omega) ((hF22.h gn (by omega)).trans hN) (by omega) (by omega) (by omega) (by omega)).mono ?_
    rintro av ⟨h23,c23⟩ hc23 ⟨es2,gr2,hes2,rfl,m2,n2,a2,S2,o1,o2,o3,o4,o5,o6,o7,o8,o9,o10,o11,o12,o13⟩
    simp only at hc23 o2 o3 o4 o5 o7 o10 o13
    have hX23:=(o13 c4 (by omega) (by omega) (by omega)).trans ((hF22.h c4 (by omega)).trans hX)
    have hgr23:h23 gr=some (.row 15 es .live none):=(o13 gr (by omega) (by omega) (by omega)).trans ((hF22.h gr (by omega)).trans ((hF gr (by omega) (by omega)).trans p3))
    obtain ⟨el,hel⟩:∃ el:List AV,el=[.int 1,.str vn,lo,hi',.nil,.row gr2 15 0 es2.length,.str ⟨#[]⟩,.nil,.int 0,.int 0,.int 0,.nil,.str ⟨#[]⟩,.nil,.nil]:=⟨_,rfl⟩
    obtain ⟨h24,hh24⟩:∃ h24,h24=upd h23 c4 (some (.row 15 [el] .live none)):=⟨_,rfl⟩
    have hX24:h24 c4=some (.row 15 [el] .live none):=by rw [hh24,af]
    have hte:Tr 2 h24 (fun k=>S2 k∨k=gr2) [el] (1+m2+0):=by
     rw [hel]
     exact Tr.cons (fun k=>S2 k∨k=gr2) (fun k=>k=gr2) S2 (fun _=>False) 1 vn lo hi' .nil (.row gr2 15 0 es2.length) ⟨#[]⟩ .nil _ ([⟨f1,1⟩]) ([⟨f2,1⟩]) [] [] (.mk 0 0 ⟨0,[]⟩ ⟨#[]⟩ [] []) es2 [] m2 0 hnlo hnhi (by rfl) (by simp [Expr.cells_mk,aQ]) ⟨hloc,hhic,rfl,rfl,by simp⟩ (.inl rfl) (.inr ⟨gr2,rfl,rfl,by rw [hh24,ad (by omega)]; exact o3⟩)
      (o4.frame fun k hk=>by have:=o5 k hk; rw [hh24,ad (by omega)]) (.nil _) (fun _ h=>.inr h) (fun _ h=>.inl h) (fun _ h=>h.elim) (fun k h1 h2=>(o5 k h2).2.2 h1) (fun _ _ h=>h) (fun _ _ h=>h)
    have hok1:aA 15 el=true:=hte.len el (by simp)
    have hgr24:h24 gr=some (.row 15 es .live none):=by rw [hh24,ad (by omega)]; exact hgr23
    have hap24:apI 15 272 .plain (.row gr 15 0 es.length) (.sl [el] true) ⟨h24,c23⟩=_:=cC (by decide) hgr24 rfl (by decide) (by decide) (by decide) hok1 (by omega)
    have hel15:el.length=15:=by rw [hel]; rfl
    have heltk:el.take 15=el:=List.take_of_length_le (by omega)
    have hbs24:=d8 (sz:=15) (zs:=[.int 0,.str ⟨#[]⟩,.nil,.nil,.nil,.nil,.str ⟨#[]⟩,.nil,.int 0,.int 0,.int 0,.nil,.str ⟨#[]⟩,.nil,.nil]) (by rfl) (by decide) hok1 ⟨h24,c23⟩
    have hwi:=ah (x:=(i:Int)+1) (by omega) (by omega)
    simp [hX23,hloc,hhic,←hel,←hh24,hX24,h11,hbs24,hap24,hel15,heltk,hv,hwi,hInv]
    refine ⟨es++[el],c23,⟨rfl,by simp⟩,?_⟩
    refine StI.next (n1:=n') (n2:=n2) (a1:=a') (a2:=a2) (Se:=fun k=>S2 k∨k=gr2) (m1:=1+m2+0) (h:=h) (c:=c) hg hgnc hlen p1 p2 p3 p4 p5 p6 p9 p8 p12 p11 p13 p14 (by omega) ?_ hte ?_ (by omega) (by omega) (by omega) ?_ ?_ (by omega) (by omega)
    ·intro k hk hk1 hk2
     rw [hh24,ad (by omega),o13 _ (by omega) hk1 hk2,hF22.h _ (by omega)]; exact hF k hk hk1
    ·intro k hk
     rcases hk with hk | rfl
     ·have:=o5 k hk; omega
     ·omega
    ·rw [hh24,ad (by omega)]; exact o7
    ·unfold SM; rw [hh24,ad (by omega)]; exact o10
   have hal:0<around.length:=List.length_pos_iff.2 har0
   have hsl:(am around).length=around.length:=by simp [am]
   simp [bsI,an,Bound.av,Bound.cells,hx8,hb8,hc04,hsl,hal]
   refine ACalls.draw (eu L a8 4 g _ _ (by omega) (by unfold SM; rw [ad hg4]; exact u3) (by omega) (by omega) hL (by omega)) fun w h12 c12 a12 hw hc12 w1 w2 w3 w4=>?_
   obtain ⟨b12,rfl⟩:=hw
   have hX12:=(w4 c4 h4g).trans af
   have hB12:h12 c0=some (.row 1 [[row (am around)]] .live none):=by rw [w4 _ hcg,ad (by omega)]; exact hb8
   have hN12:h12 gn=some (.row 1 [[.int n']] .live none):=by rw [w4 _ (by omega),ad (by omega),u4 _ (by omega),t4 _ (by omega),ad (by omega),s4 _ (by omega)]; exact hgn3
   have hF12:∀ k,k<c→k≠g→h12 k=h k:=fun k hk hkg=>by rw [w4 _ hkg,ad (by omega),u4 _ hkg,t4 _ hkg,ad (by omega),s4 _ hkg,r4 _ hkg,hfr2' _ (by omega)]
   cases b12
   case false=>
    simp
    obtain ⟨hh,hhe⟩:∃ hh,hh=h12:=⟨_,rfl⟩
    obtain ⟨cc,hcc⟩:∃ cc,cc=c12:=⟨_,rfl⟩
    obtain ⟨aa,haa⟩:∃ aa,aa=a12:=⟨_,rfl⟩
    have hX:=hX12
    have hB:=hB12
    have hN:=hN12
    have hM:=w3
    have hF:=hF12
    rw [←hhe] at hX hB hN hM hF
    rw [←haa] at hM
    simp only [←hhe,←hcc]
    simp [hX,hB,bsI,an]
    have hnlo:norm (.sl [[.int f1.const,row (f1.terms.map Term.cells),.int 1]] true)=row (([⟨f1,1⟩]:List Wb.Bound).map Bound.cells):=by simp [Bound.cells]
    have hnhi:norm (.sl [[.int f2.const,row (f2.terms.map Term.cells),.int 1]] true)=row (([⟨f2,1⟩]:List Wb.Bound).map Bound.cells):=by simp [Bound.cells]
    obtain ⟨lo,hloe⟩:∃ lo:AV,lo=.sl [[.int f1.const,row (f1.terms.map Term.cells),.int 1]] true:=⟨_,rfl⟩
    obtain ⟨hi',hhie⟩:∃ hi':AV,hi'=.sl [[.int f2.const,row (f2.terms.map Term.cells),.int 1]] true:=⟨_,rfl⟩
    have hloc:lo.cell=true:=by rw [hloe]; rfl
    have hhic:hi'.cell=true:=by rw [hhie]; rfl
    rw [←hloe] at hnlo hX
    rw [←hhie] at hnhi hX
    refine (eh around hh cc).mono ?_
    rintro av ⟨h20,c20⟩ hc20 ⟨hF20,hav20⟩
    simp only at hc20 hF20 hav20
    obtain ⟨g20,c21,h21,hap20,hg20,hF21,hg20c⟩:=dO hF20 hav20 vn (by omega)
    have hslv:(am (around++[vn])).length=around.length+1:=by simp [am]
    have hfz20:=dx (s:=⟨h21,c21⟩) (z:=1) hg20 hslv
    obtain ⟨h22,hh22⟩:∃ h22,h22=upd h21 g20 (some (.row 1 (am (around++[vn])) .frz none)):=⟨_,rfl⟩
    have hF22:Fr cc hh h22 c21:=by rw [hh22]; exact hF21.upd hg20c (Nat.le_refl _)
    have hX20:=(hF20.h c4 (by omega)).trans hX
    have hB20:=(hF20.h c0 (by omega)).trans hB
    have hwd:=ah (x:=deep-1) (by omega) (by omega)
    have hcc21:=hF22.c
    simp [hX20,hB20,bsI,an,hap20,hfz20,-dK,hwd,←hh22]
    refine ((hsub hd) (around++[vn]) 2 n' aa h22 c21 (by simp; omega) (by omega) (by omega) (by unfold SM; rw [hF22.h g (by omega)]; exact hM) (by omega) (by omega) ((hF22.h gn (by omega)).trans hN) (by omega) (by omega) (by omega) (by omega)).mono ?_
    rintro av ⟨h23,c23⟩ hc23 ⟨es2,gr2,hes2,rfl,m2,n2,a2,S2,o1,o2,o3,o4,o5,o6,o7,o8,o9,o10,o11,o12,o13⟩
    simp only at hc23 o2 o3 o4 o5 o7 o10 o13
    have hX23:=(o13 c4 (by omega) (by omega) (by omega)).trans ((hF22.h c4 (by omega)).trans hX)
    have hgr23:h23 gr=some (.row 15 es .live none):=(o13 gr (by omega) (by omega) (by omega)).trans ((hF22.h gr (by omega)).trans ((hF gr (by omega) (by omega)).trans p3))
    obtain ⟨el,hel⟩:∃ el:List AV,el=[.int 1,.str vn,lo,hi',.nil,.row gr2 15 0 es2.length,.str ⟨#[]⟩,.nil,.int 0,.int 0,.int 0,.nil,.str ⟨#[]⟩,.nil,.nil]:=⟨_,rfl⟩
    obtain ⟨h24,hh24⟩:∃ h24,h24=upd h23 c4 (some (.row 15 [el] .live none)):=⟨_,rfl⟩
    have hX24:h24 c4=some (.row 15 [el] .live none):=by rw [hh24,af]
    have hte:Tr 2 h24 (fun k=>S2 k∨k=gr2) [el] (1+m2+0):=by
     rw [hel]
     exact Tr.cons (fun k=>S2 k∨k=gr2) (fun k=>k=gr2) S2 (fun _=>False) 1 vn lo hi' .nil (.row gr2 15 0 es2.length) ⟨#[]⟩ .nil _ ([⟨f1,1⟩]) ([⟨f2,1⟩]) [] [] (.mk 0 0 ⟨0,[]⟩ ⟨#[]⟩ [] []) es2 [] m2 0 hnlo hnhi (by rfl) (by simp [Expr.cells_mk,aQ]) ⟨hloc,hhic,rfl,rfl,by simp⟩ (.inl rfl) (.inr ⟨gr2,rfl,rfl,by rw [hh24,ad (by omega)]; exact o3⟩)
      (o4.frame fun k hk=>by have:=o5 k hk; rw [hh24,ad (by omega)]) (.nil _) (fun _ h=>.inr h) (fun _ h=>.inl h) (fun _ h=>h.elim) (fun k h1 h2=>(o5 k h2).2.2 h1) (fun _ _ h=>h) (fun _ _ h=>h)
    have hok1:aA 15 el=true:=hte.len el (by simp)
    have hgr24:h24 gr=some (.row 15 es .live none):=by rw [hh24,ad (by omega)]; exact hgr23
    have hap24:apI 15 272 .plain (.row gr 15 0 es.length) (.sl [el] true) ⟨h24,c23⟩=_:=cC (by decide) hgr24 rfl (by decide) (by decide) (by decide) hok1 (by omega)
    have hel15:el.length=15:=by rw [hel]; rfl
    have heltk:el.take 15=el:=List.take_of_length_le (by omega)
    have hbs24:=d8 (sz:=15) (zs:=[.int 0,.str ⟨#[]⟩,.nil,.nil,.nil,.nil,.str ⟨#[]⟩,.nil,.int 0,.int 0,.int 0,.nil,.str ⟨#[]⟩,.nil,.nil]) (by rfl) (by decide) hok1 ⟨h24,c23⟩
    have hwi:=ah (x:=(i:Int)+1) (by omega) (by omega)
    simp [hX23,hloc,hhic,←hel,←hh24,hX24,h11,hbs24,hap24,hel15,heltk,hv,hwi,hInv]
    refine ⟨es++[el],c23,⟨rfl,by simp⟩,?_⟩
    refine StI.next (n1:=n') (n2:=n2) (a1:=a') (a2:=a2) (Se:=fun k=>S2 k∨k=gr2) (m1:=1+m2+0) (h:=h) (c:=c) hg hgnc hlen p1 p2 p3 p4 p5 p6 p9 p8 p12 p11 p13 p14 (by omega) ?_ hte ?_ (by omega) (by omega) (by omega) ?_ ?_ (by omega) (by omega)
    ·intro k hk hk1 hk2
     rw [hh24,ad (by omega),o13 _ (by omega) hk1 hk2,hF22.h _ (by omega)]; exact hF k hk hk1
    ·intro k hk
     rcases hk with hk | rfl
     ·have:=o5 k hk; omega
     ·omega
    ·rw [hh24,ad (by omega)]; exact o7
    ·unfold SM; rw [hh24,ad (by omega)]; exact o10
   obtain ⟨q,hqa⟩:∃ q,around.length=q+1:=⟨around.length-1,by omega⟩
   obtain ⟨lv,hlv⟩:∃ lv,(am around)[q]?=some [.str lv]:=⟨around[q],by simp [am,hqa]⟩
   have hslq:(am around).length=q+1:=by rw [hsl,hqa]
   have hwq:=ah (x:=(q:Int)) (by omega) (by omega)
   have hlv2:∀ hq:q<(am around).length,(am around)[q]'hq=[.str lv]:=fun hq=>(List.getElem?_eq_some_iff.1 hlv).2
   simp [hX12,hB12,hslq,hwq,hlv,hlv2]
   refine ACalls.draw (cm L a12 4 g h12 c12 (by omega) w3 (by omega) (by omega) hL (by omega)) fun w h13 c13 a13 hw hc13 x1 x2 x3 x4=>?_
   obtain ⟨k7,rfl,hk7,hk8,_⟩:=hw
   have hX13:=(x4 c4 h4g).trans hX12
   have hB13:=(x4 c0 hcg).trans hB12
   have hN13:=(x4 gn (by omega)).trans hN12
   have hF13:∀ k,k<c→k≠g→h13 k=h k:=fun k hk hkg=>(x4 k hkg).trans (hF12 k hk hkg)
   by_cases e0:k7=0
   ·simp [e0,bsI,an,aI]
    refine ACalls.quiet (R:=fun av=>∃ f:Wb.Form,av=f.av) (bw 0 [⟨lv,1⟩] (by simp) (by simp) ⟨h13,c13⟩) fun w c14 hw hc14=>?_
    obtain ⟨f3,rfl⟩:=hw
    simp
    refine ACalls.pure (dC f3 1) fun c15 hc15=>?_
    simp [bsI,an,Bound.av,Bound.cells,hX13,hB13,hc04]
    obtain ⟨hh,hhe⟩:∃ hh,hh=upd h13 c4 (some (.row 15 [[.int 1,.str vn,.sl [[.int f3.const,row (f3.terms.map Term.cells),.int 1]] true,.sl [[.int f2.const,row (f2.terms.map Term.cells),.int 1]] true,.nil,.nil,.str ⟨#[]⟩,.nil,.int 0,.int 0,.int 0,.nil,.str ⟨#[]⟩,.nil,.nil]] .live none)):=⟨_,rfl⟩
    have hX:=(congrFun hhe c4).trans af
    have hB:hh c0=some (.row 1 [[row (am around)]] .live none):=by rw [hhe,ad (by omega)]; exact hB13
    have hN:hh gn=some (.row 1 [[.int n']] .live none):=by rw [hhe,ad (by omega)]; exact hN13
    have hM:SM hh g L a13:=by unfold SM; rw [hhe,ad (by omega)]; exact x3
    have hF:∀ k,k<c→k≠g→hh k=h k:=fun k hk hkg=>by rw [hhe,ad (by omega)]; exact hF13 k hk hkg
    rw [←hhe]
    obtain ⟨cc,hcc⟩:∃ cc,cc=c15:=⟨_,rfl⟩
    obtain ⟨aa,haa⟩:∃ aa,aa=a13:=⟨_,rfl⟩
    rw [←hcc]
    rw [←haa] at hM
    have hnlo:norm (.sl [[.int f3.const,row (f3.terms.map Term.cells),.int 1]] true)=row (([⟨f3,1⟩]:List Wb.Bound).map Bound.cells):=by simp [Bound.cells]
    have hnhi:norm (.sl [[.int f2.const,row (f2.terms.map Term.cells),.int 1]] true)=row (([⟨f2,1⟩]:List Wb.Bound).map Bound.cells):=by simp [Bound.cells]
    obtain ⟨lo,hloe⟩:∃ lo:AV,lo=.sl [[.int f3.const,row (f3.terms.map Term.cells),.int 1]] true:=⟨_,rfl⟩
    obtain ⟨hi',hhie⟩:∃ hi':AV,hi'=.sl [[.int f2.const,row (f2.terms.map Term.cells),.int 1]] true:=⟨_,rfl⟩
    have hloc:lo.cell=true:=by rw [hloe]; rfl
    have hhic:hi'.cell=true:=by rw [hhie]; rfl
    rw [←hloe] at hnlo hX
    rw [←hhie] at hnhi hX
    refine (eh around hh cc).mono ?_
    rintro av ⟨h20,c20⟩ hc20 ⟨hF20,hav20⟩
    simp only at hc20 hF20 hav20
    obtain ⟨g20,c21,h21,hap20,hg20,hF21,hg20c⟩:=dO hF20 hav20 vn (by omega)
    have hslv:(am (around++[vn])).length=around.length+1:=by simp [am]
    have hfz20:=dx (s:=⟨h21,c21⟩) (z:=1) hg20 hslv
    obtain ⟨h22,hh22⟩:∃ h22,h22=upd h21 g20 (some (.row 1 (am (around++[vn])) .frz none)):=⟨_,rfl⟩
    have hF22:Fr cc hh h22 c21:=by rw [hh22]; exact hF21.upd hg20c (Nat.le_refl _)
    have hX20:=(hF20.h c4 (by omega)).trans hX
    have hB20:=(hF20.h c0 (by omega)).trans hB
    have hwd:=ah (x:=deep-1) (by omega) (by omega)
    have hcc21:=hF22.c
    simp [hX20,hB20,bsI,an,hap20,hfz20,-dK,hwd,←hh22]
    refine ((hsub hd) (around++[vn]) 2 n' aa h22 c21 (by simp; omega) (by omega) (by omega) (by unfold SM; rw [hF22.h g (by omega)]; exact hM) (by omega) (by omega) ((hF22.h gn (by omega)).trans hN) (by omega) (by omega) (by omega) (by omega)).mono ?_
    rintro av ⟨h23,c23⟩ hc23 ⟨es2,gr2,hes2,rfl,m2,n2,a2,S2,o1,o2,o3,o4,o5,o6,o7,o8,o9,o10,o11,o12,o13⟩
    simp only at hc23 o2 o3 o4 o5 o7 o10 o13
    have hX23:=(o13 c4 (by omega) (by omega) (by omega)).trans ((hF22.h c4 (by omega)).trans hX)
    have hgr23:h23 gr=some (.row 15 es .live none):=(o13 gr (by omega) (by omega) (by omega)).trans ((hF22.h gr (by omega)).trans ((hF gr (by omega) (by omega)).trans p3))
    obtain ⟨el,hel⟩:∃ el:List AV,el=[.int 1,.str vn,lo,hi',.nil,.row gr2 15 0 es2.length,.str ⟨#[]⟩,.nil,.int 0,.int 0,.int 0,.nil,.str ⟨#[]⟩,.nil,.nil]:=⟨_,rfl⟩
    obtain ⟨h24,hh24⟩:∃ h24,h24=upd h23 c4 (some (.row 15 [el] .live none)):=⟨_,rfl⟩
    have hX24:h24 c4=some (.row 15 [el] .live none):=by rw [hh24,af]
    have hte:Tr 2 h24 (fun k=>S2 k∨k=gr2) [el] (1+m2+0):=by
     rw [hel]
     exact Tr.cons (fun k=>S2 k∨k=gr2) (fun k=>k=gr2) S2 (fun _=>False) 1 vn lo hi' .nil (.row gr2 15 0 es2.length) ⟨#[]⟩ .nil _ ([⟨f3,1⟩]) ([⟨f2,1⟩]) [] [] (.mk 0 0 ⟨0,[]⟩ ⟨#[]⟩ [] []) es2 [] m2 0 hnlo hnhi (by rfl) (by simp [Expr.cells_mk,aQ]) ⟨hloc,hhic,rfl,rfl,by simp⟩ (.inl rfl) (.inr ⟨gr2,rfl,rfl,by rw [hh24,ad (by omega)]; exact o3⟩)
      (o4.frame fun k hk=>by have:=o5 k hk; rw [hh24,ad (by omega)]) (.nil _) (fun _ h=>.inr h) (fun _ h=>.inl h) (fun _ h=>h.elim) (fun k h1 h2=>(o5 k h2).2.2 h1) (fun _ _ h=>h) (fun _ _ h=>h)
    have hok1:aA 15 el=true:=hte.len el (by simp)
    have hgr24:h24 gr=some (.row 15 es .live none):=by rw [hh24,ad (by omega)]; exact hgr23
    have hap24:apI 15 272 .plain (.row gr 15 0 es.length) (.sl [el] true) ⟨h24,c23⟩=_:=cC (by decide) hgr24 rfl (by decide) (by decide) (by decide) hok1 (by omega)
    have hel15:el.length=15:=by rw [hel]; rfl
    have heltk:el.take 15=el:=List.take_of_length_le (by omega)
    have hbs24:=d8 (sz:=15) (zs:=[.int 0,.str ⟨#[]⟩,.nil,.nil,.nil,.nil,.str ⟨#[]⟩,.nil,.int 0,.int 0,.int 0,.nil,.str ⟨#[]⟩,.nil,.nil]) (by rfl) (by decide) hok1 ⟨h24,c23⟩
    have hwi:=ah (x:=(i:Int)+1) (by omega) (by omega)
    simp [hX23,hloc,hhic,←hel,←hh24,hX24,h11,hbs24,hap24,hel15,heltk,hv,hwi,hInv]
    refine ⟨es++[el],c23,⟨rfl,by simp⟩,?_⟩
    refine StI.next (n1:=n') (n2:=n2) (a1:=a') (a2:=a2) (Se:=fun k=>S2 k∨k=gr2) (m1:=1+m2+0) (h:=h) (c:=c) hg hgnc hlen p1 p2 p3 p4 p5 p6 p9 p8 p12 p11 p13 p14 (by omega) ?_ hte ?_ (by omega) (by omega) (by omega) ?_ ?_ (by omega) (by omega)
    ·intro k hk hk1 hk2
     rw [hh24,ad (by omega),o13 _ (by omega) hk1 hk2,hF22.h _ (by omega)]; exact hF k hk hk1
    ·intro k hk
     rcases hk with hk | rfl
     ·have:=o5 k hk; omega
     ·omega
    ·rw [hh24,ad (by omega)]; exact o7
    ·unfold SM; rw [hh24,ad (by omega)]; exact o10
   by_cases e1:k7=1
   ·simp [e0,e1,bsI,an,aI]
    refine ACalls.quiet (R:=fun av=>∃ f:Wb.Form,av=f.av) (bw 0 [⟨lv,1⟩] (by simp) (by simp) ⟨h13,c13⟩) fun w c14 hw hc14=>?_
    obtain ⟨f3,rfl⟩:=hw
    simp
    refine ACalls.pure (dC f3 1) fun c15 hc15=>?_
    simp [bsI,an,Bound.av,Bound.cells,hX13,hB13,hc04]
    obtain ⟨hh,hhe⟩:∃ hh,hh=upd h13 c4 (some (.row 15 [[.int 1,.str vn,.sl [[.int f1.const,row (f1.terms.map Term.cells),.int 1]] true,.sl [[.int f3.const,row (f3.terms.map Term.cells),.int 1]] true,.nil,.nil,.str ⟨#[]⟩,.nil,.int 0,.int 0,.int 0,.nil,.str ⟨#[]⟩,.nil,.nil]] .live none)):=⟨_,rfl⟩
    have hX:=(congrFun hhe c4).trans af
    have hB:hh c0=some (.row 1 [[row (am around)]] .live none):=by rw [hhe,ad (by omega)]; exact hB13
    have hN:hh gn=some (.row 1 [[.int n']] .live none):=by rw [hhe,ad (by omega)]; exact hN13
    have hM:SM hh g L a13:=by unfold SM; rw [hhe,ad (by omega)]; exact x3
    have hF:∀ k,k<c→k≠g→hh k=h k:=fun k hk hkg=>by rw [hhe,ad (by omega)]; exact hF13 k hk hkg
    rw [←hhe]
    obtain ⟨cc,hcc⟩:∃ cc,cc=c15:=⟨_,rfl⟩
    obtain ⟨aa,haa⟩:∃ aa,aa=a13:=⟨_,rfl⟩
    rw [←hcc]
    rw [←haa] at hM
    have hnlo:norm (.sl [[.int f1.const,row (f1.terms.map Term.cells),.int 1]] true)=row (([⟨f1,1⟩]:List Wb.Bound).map Bound.cells):=by simp [Bound.cells]
    have hnhi:norm (.sl [[.int f3.const,row (f3.terms.map Term.cells),.int 1]] true)=row (([⟨f3,1⟩]:List Wb.Bound).map Bound.cells):=by simp [Bound.cells]
    obtain ⟨lo,hloe⟩:∃ lo:AV,lo=.sl [[.int f1.const,row (f1.terms.map Term.cells),.int 1]] true:=⟨_,rfl⟩
    obtain ⟨hi',hhie⟩:∃ hi':AV,hi'=.sl [[.int f3.const,row (f3.terms.map Term.cells),.int 1]] true:=⟨_,rfl⟩
    have hloc:lo.cell=true:=by rw [hloe]; rfl
    have hhic:hi'.cell=true:=by rw [hhie]; rfl
    rw [←hloe] at hnlo hX
    rw [←hhie] at hnhi hX
    refine (eh around hh cc).mono ?_
    rintro av ⟨h20,c20⟩ hc20 ⟨hF20,hav20⟩
    simp only at hc20 hF20 hav20
    obtain ⟨g20,c21,h21,hap20,hg20,hF21,hg20c⟩:=dO hF20 hav20 vn (by omega)
    have hslv:(am (around++[vn])).length=around.length+1:=by simp [am]
    have hfz20:=dx (s:=⟨h21,c21⟩) (z:=1) hg20 hslv
    obtain ⟨h22,hh22⟩:∃ h22,h22=upd h21 g20 (some (.row 1 (am (around++[vn])) .frz none)):=⟨_,rfl⟩
    have hF22:Fr cc hh h22 c21:=by rw [hh22]; exact hF21.upd hg20c (Nat.le_refl _)
    have hX20:=(hF20.h c4 (by omega)).trans hX
    have hB20:=(hF20.h c0 (by omega)).trans hB
    have hwd:=ah (x:=deep-1) (by omega) (by omega)
    have hcc21:=hF22.c
    simp [hX20,hB20,bsI,an,hap20,hfz20,-dK,hwd,←hh22]
    refine ((hsub hd) (around++[vn]) 2 n' aa h22 c21 (by simp; omega) (by omega) (by omega) (by unfold SM; rw [hF22.h g (by omega)]; exact hM) (by omega) (by omega) ((hF22.h gn (by omega)).trans hN) (by omega) (by omega) (by omega) (by omega)).mono ?_
    rintro av ⟨h23,c23⟩ hc23 ⟨es2,gr2,hes2,rfl,m2,n2,a2,S2,o1,o2,o3,o4,o5,o6,o7,o8,o9,o10,o11,o12,o13⟩
    simp only at hc23 o2 o3 o4 o5 o7 o10 o13
    have hX23:=(o13 c4 (by omega) (by omega) (by omega)).trans ((hF22.h c4 (by omega)).trans hX)
    have hgr23:h23 gr=some (.row 15 es .live none):=(o13 gr (by omega) (by omega) (by omega)).trans ((hF22.h gr (by omega)).trans ((hF gr (by omega) (by omega)).trans p3))
    obtain ⟨el,hel⟩:∃ el:List AV,el=[.int 1,.str vn,lo,hi',.nil,.row gr2 15 0 es2.length,.str ⟨#[]⟩,.nil,.int 0,.int 0,.int 0,.nil,.str ⟨#[]⟩,.nil,.nil]:=⟨_,rfl⟩
    obtain ⟨h24,hh24⟩:∃ h24,h24=upd h23 c4 (some (.row 15 [el] .live none)):=⟨_,rfl⟩
    have hX24:h24 c4=some (.row 15 [el] .live none):=by rw [hh24,af]
    have hte:Tr 2 h24 (fun k=>S2 k∨k=gr2) [el] (1+m2+0):=by
     rw [hel]
     exact Tr.cons (fun k=>S2 k∨k=gr2) (fun k=>k=gr2) S2 (fun _=>False) 1 vn lo hi' .nil (.row gr2 15 0 es2.length) ⟨#[]⟩ .nil _ ([⟨f1,1⟩]) ([⟨f3,1⟩]) [] [] (.mk 0 0 ⟨0,[]⟩ ⟨#[]⟩ [] []) es2 [] m2 0 hnlo hnhi (by rfl) (by simp [Expr.cells_mk,aQ]) ⟨hloc,hhic,rfl,rfl,by simp⟩ (.inl rfl) (.inr ⟨gr2,rfl,rfl,by rw [hh24,ad (by omega)]; exact o3⟩)
      (o4.frame fun k hk=>by have:=o5 k hk; rw [hh24,ad (by omega)]) (.nil _) (fun _ h=>.inr h) (fun _ h=>.inl h) (fun _ h=>h.elim) (fun k h1 h2=>(o5 k h2).2.2 h1) (fun _ _ h=>h) (fun _ _ h=>h)
    have hok1:aA 15 el=true:=hte.len el (by simp)
    have hgr24:h24 gr=some (.row 15 es .live none):=by rw [hh24,ad (by omega)]; exact hgr23
    have hap24:apI 15 272 .plain (.row gr 15 0 es.length) (.sl [el] true) ⟨h24,c23⟩=_:=cC (by decide) hgr24 rfl (by decide) (by decide) (by decide) hok1 (by omega)
    have hel15:el.length=15:=by rw [hel]; rfl
    have heltk:el.take 15=el:=List.take_of_length_le (by omega)
    have hbs24:=d8 (sz:=15) (zs:=[.int 0,.str ⟨#[]⟩,.nil,.nil,.nil,.nil,.str ⟨#[]⟩,.nil,.int 0,.int 0,.int 0,.nil,.str ⟨#[]⟩,.nil,.nil]) (by rfl) (by decide) hok1 ⟨h24,c23⟩
    have hwi:=ah (x:=(i:Int)+1) (by omega) (by omega)
    simp [hX23,hloc,hhic,←hel,←hh24,hX24,h11,hbs24,hap24,hel15,heltk,hv,hwi,hInv]
    refine ⟨es++[el],c23,⟨rfl,by simp⟩,?_⟩
    refine StI.next (n1:=n') (n2:=n2) (a1:=a') (a2:=a2) (Se:=fun k=>S2 k∨k=gr2) (m1:=1+m2+0) (h:=h) (c:=c) hg hgnc hlen p1 p2 p3 p4 p5 p6 p9 p8 p12 p11 p13 p14 (by omega) ?_ hte ?_ (by omega) (by omega) (by omega) ?_ ?_ (by omega) (by omega)
    ·intro k hk hk1 hk2
     rw [hh24,ad (by omega),o13 _ (by omega) hk1 hk2,hF22.h _ (by omega)]; exact hF k hk hk1
    ·intro k hk
     rcases hk with hk | rfl
     ·have:=o5 k hk; omega
     ·omega
    ·rw [hh24,ad (by omega)]; exact o7
    ·unfold SM; rw [hh24,ad (by omega)]; exact o10
   by_cases e2:k7=2
   ·simp [e0,e1,e2,bsI,an,aI,hX13]
    refine ACalls.quiet (R:=fun av=>∃ f:Wb.Form,av=f.av) (bw 3 [⟨lv,1⟩] (by simp) (by simp) ⟨h13,c13⟩) fun w c14 hw hc14=>?_
    obtain ⟨f3,rfl⟩:=hw
    simp [hX13]
    refine ACalls.pure (dC f3 2) fun c15 hc15=>?_
    have hapq:=db (sz:=3) (bytes:=40) (md:=.fz) (es:=[[.int f2.const,row (f2.terms.map Term.cells),.int 1]]) (xs:=[[.int f3.const,row (f3.terms.map Term.cells),.int 2]]) (b:=true) (s:=⟨h13,c15⟩) (by decide) (by decide) (by decide) (fun e he=>by simp at he; subst he; rfl) (fun e he=>by simp at he; subst he; rfl) (by simp) (.inl (by simp))
    have h4c:¬c4=c15:=by omega
    have h0c:¬c0=c15:=by omega
    simp [bsI,an,Bound.av,Bound.cells,hX13,hB13,hc04,hapq,h4c,h0c]
    obtain ⟨hh,hhe⟩:∃ hh,hh=upd (upd h13 c15 (some (.row 3 [[.int f2.const,row (f2.terms.map Term.cells),.int 1],[.int f3.const,row (f3.terms.map Term.cells),.int 2]] .frz none))) c4 (some (.row 15 [[.int 1,.str vn,.sl [[.int f1.const,row (f1.terms.map Term.cells),.int 1]] true,.sl [[.int f2.const,row (f2.terms.map Term.cells),.int 1],[.int f3.const,row (f3.terms.map Term.cells),.int 2]] false,.nil,.nil,.str ⟨#[]⟩,.nil,.int 0,.int 0,.int 0,.nil,.str ⟨#[]⟩,.nil,.nil]] .live none)):=⟨_,rfl⟩
    have hX:=(congrFun hhe c4).trans af
    have hB:hh c0=some (.row 1 [[row (am around)]] .live none):=by rw [hhe,ad (by omega),ad (by omega)]; exact hB13
    have hN:hh gn=some (.row 1 [[.int n']] .live none):=by rw [hhe,ad (by omega),ad (by omega)]; exact hN13
    have hM:SM hh g L a13:=by unfold SM; rw [hhe,ad (by omega),ad (by omega)]; exact x3
    have hF:∀ k,k<c→k≠g→hh k=h k:=fun k hk hkg=>by rw [hhe,ad (by omega),ad (by omega)]; exact hF13 k hk hkg
    rw [←hhe]
    obtain ⟨cc,hcc⟩:∃ cc,cc=(c15+1):=⟨_,rfl⟩
    obtain ⟨aa,haa⟩:∃ aa,aa=a13:=⟨_,rfl⟩
    rw [←hcc]
    rw [←haa] at hM
    have hnlo:norm (.sl [[.int f1.const,row (f1.terms.map Term.cells),.int 1]] true)=row (([⟨f1,1⟩]:List Wb.Bound).map Bound.cells):=by simp [Bound.cells]
    have hnhi:norm (.sl [[.int f2.const,row (f2.terms.map Term.cells),.int 1],[.int f3.const,row (f3.terms.map Term.cells),.int 2]] false)=row (([⟨f2,1⟩,⟨f3,2⟩]:List Wb.Bound).map Bound.cells):=by simp [Bound.cells]
    obtain ⟨lo,hloe⟩:∃ lo:AV,lo=.sl [[.int f1.const,row (f1.terms.map Term.cells),.int 1]] true:=⟨_,rfl⟩
    obtain ⟨hi',hhie⟩:∃ hi':AV,hi'=.sl [[.int f2.const,row (f2.terms.map Term.cells),.int 1],[.int f3.const,row (f3.terms.map Term.cells),.int 2]] false:=⟨_,rfl⟩
    have hloc:lo.cell=true:=by rw [hloe]; rfl
    have hhic:hi'.cell=true:=by rw [hhie]; rfl
    rw [←hloe] at hnlo hX
    rw [←hhie] at hnhi hX
    refine (eh around hh cc).mono ?_
    rintro av ⟨h20,c20⟩ hc20 ⟨hF20,hav20⟩
    simp only at hc20 hF20 hav20
    obtain ⟨g20,c21,h21,hap20,hg20,hF21,hg20c⟩:=dO hF20 hav20 vn (by omega)
    have hslv:(am (around++[vn])).length=around.length+1:=by simp [am]
    have hfz20:=dx (s:=⟨h21,c21⟩) (z:=1) hg20 hslv
    obtain ⟨h22,hh22⟩:∃ h22,h22=upd h21 g20 (some (.row 1 (am (around++[vn])) .frz none)):=⟨_,rfl⟩
    have hF22:Fr cc hh h22 c21:=by rw [hh22]; exact hF21.upd hg20c (Nat.le_refl _)
    have hX20:=(hF20.h c4 (by omega)).trans hX
    have hB20:=(hF20.h c0 (by omega)).trans hB
    have hwd:=ah (x:=deep-1) (by omega) (by omega)
    have hcc21:=hF22.c
    simp [hX20,hB20,bsI,an,hap20,hfz20,-dK,hwd,←hh22]
    refine ((hsub hd) (around++[vn]) 2 n' aa h22 c21 (by simp; omega) (by omega) (by omega) (by unfold SM; rw [hF22.h g (by omega)]; exact hM) (by omega) (by omega) ((hF22.h gn (by omega)).trans hN) (by omega) (by omega) (by omega) (by omega)).mono ?_
    rintro av ⟨h23,c23⟩ hc23 ⟨es2,gr2,hes2,rfl,m2,n2,a2,S2,o1,o2,o3,o4,o5,o6,o7,o8,o9,o10,o11,o12,o13⟩
    simp only at hc23 o2 o3 o4 o5 o7 o10 o13
    have hX23:=(o13 c4 (by omega) (by omega) (by omega)).trans ((hF22.h c4 (by omega)).trans hX)
    have hgr23:h23 gr=some (.row 15 es .live none):=(o13 gr (by omega) (by omega) (by omega)).trans ((hF22.h gr (by omega)).trans ((hF gr (by omega) (by omega)).trans p3))
    obtain ⟨el,hel⟩:∃ el:List AV,el=[.int 1,.str vn,lo,hi',.nil,.row gr2 15 0 es2.length,.str ⟨#[]⟩,.nil,.int 0,.int 0,.int 0,.nil,.str ⟨#[]⟩,.nil,.nil]:=⟨_,rfl⟩
    obtain ⟨h24,hh24⟩:∃ h24,h24=upd h23 c4 (some (.row 15 [el] .live none)):=⟨_,rfl⟩
    have hX24:h24 c4=some (.row 15 [el] .live none):=by rw [hh24,af]
    have hte:Tr 2 h24 (fun k=>S2 k∨k=gr2) [el] (1+m2+0):=by
     rw [hel]
     exact Tr.cons (fun k=>S2 k∨k=gr2) (fun k=>k=gr2) S2 (fun _=>False) 1 vn lo hi' .nil (.row gr2 15 0 es2.length) ⟨#[]⟩ .nil _ ([⟨f1,1⟩]) ([⟨f2,1⟩,⟨f3,2⟩]) [] [] (.mk 0 0 ⟨0,[]⟩ ⟨#[]⟩ [] []) es2 [] m2 0 hnlo hnhi (by rfl) (by simp [Expr.cells_mk,aQ]) ⟨hloc,hhic,rfl,rfl,by simp⟩ (.inl rfl) (.inr ⟨gr2,rfl,rfl,by rw [hh24,ad (by omega)]; exact o3⟩)
      (o4.frame fun k hk=>by have:=o5 k hk; rw [hh24,ad (by omega)]) (.nil _) (fun _ h=>.inr h) (fun _ h=>.inl h) (fun _ h=>h.elim) (fun k h1 h2=>(o5 k h2).2.2 h1) (fun _ _ h=>h) (fun _ _ h=>h)
    have hok1:aA 15 el=true:=hte.len el (by simp)
    have hgr24:h24 gr=some (.row 15 es .live none):=by rw [hh24,ad (by omega)]; exact hgr23
    have hap24:apI 15 272 .plain (.row gr 15 0 es.length) (.sl [el] true) ⟨h24,c23⟩=_:=cC (by decide) hgr24 rfl (by decide) (by decide) (by decide) hok1 (by omega)
    have hel15:el.length=15:=by rw [hel]; rfl
    have heltk:el.take 15=el:=List.take_of_length_le (by omega)
    have hbs24:=d8 (sz:=15) (zs:=[.int 0,.str ⟨#[]⟩,.nil,.nil,.nil,.nil,.str ⟨#[]⟩,.nil,.int 0,.int 0,.int 0,.nil,.str ⟨#[]⟩,.nil,.nil]) (by rfl) (by decide) hok1 ⟨h24,c23⟩
    have hwi:=ah (x:=(i:Int)+1) (by omega) (by omega)
    simp [hX23,hloc,hhic,←hel,←hh24,hX24,h11,hbs24,hap24,hel15,heltk,hv,hwi,hInv]
    refine ⟨es++[el],c23,⟨rfl,by simp⟩,?_⟩
    refine StI.next (n1:=n') (n2:=n2) (a1:=a') (a2:=a2) (Se:=fun k=>S2 k∨k=gr2) (m1:=1+m2+0) (h:=h) (c:=c) hg hgnc hlen p1 p2 p3 p4 p5 p6 p9 p8 p12 p11 p13 p14 (by omega) ?_ hte ?_ (by omega) (by omega) (by omega) ?_ ?_ (by omega) (by omega)
    ·intro k hk hk1 hk2
     rw [hh24,ad (by omega),o13 _ (by omega) hk1 hk2,hF22.h _ (by omega)]; exact hF k hk hk1
    ·intro k hk
     rcases hk with hk | rfl
     ·have:=o5 k hk; omega
     ·omega
    ·rw [hh24,ad (by omega)]; exact o7
    ·unfold SM; rw [hh24,ad (by omega)]; exact o10
   simp [e0,e1,e2,bsI,an,aI,hX13]
   refine ACalls.quiet (R:=fun av=>∃ f:Wb.Form,av=f.av) (bw (-1) [⟨lv,1⟩] (by simp) (by simp) ⟨h13,c13⟩) fun w c14 hw hc14=>?_
   obtain ⟨f3,rfl⟩:=hw
   simp [hX13]
   refine ACalls.pure (dC f3 1) fun c15 hc15=>?_
   have hapq:=db (sz:=3) (bytes:=40) (md:=.fz) (es:=[[.int f1.const,row (f1.terms.map Term.cells),.int 1]]) (xs:=[[.int f3.const,row (f3.terms.map Term.cells),.int 1]]) (b:=true) (s:=⟨h13,c15⟩) (by decide) (by decide) (by decide) (fun e he=>by simp at he; subst he; rfl) (fun e he=>by simp at he; subst he; rfl) (by simp) (.inl (by simp))
   have h4c:¬c4=c15:=by omega
   have h0c:¬c0=c15:=by omega
   simp [bsI,an,Bound.av,Bound.cells,hX13,hB13,hc04,hapq,h4c,h0c]
   obtain ⟨hh,hhe⟩:∃ hh,hh=upd (upd h13 c15 (some (.row 3 [[.int f1.const,row (f1.terms.map Term.cells),.int 1],[.int f3.const,row (f3.terms.map Term.cells),.int 1]] .frz none))) c4 (some (.row 15 [[.int 1,.str vn,.sl [[.int f1.const,row (f1.terms.map Term.cells),.int 1],[.int f3.const,row (f3.terms.map Term.cells),.int 1]] false,.sl [[.int f2.const,row (f2.terms.map Term.cells),.int 1]] true,.nil,.nil,.str ⟨#[]⟩,.nil,.int 0,.int 0,.int 0,.nil,.str ⟨#[]⟩,.nil,.nil]] .live none)):=⟨_,rfl⟩
   have hX:=(congrFun hhe c4).trans af
   have hB:hh c0=some (.row 1 [[row (am around)]] .live none):=by rw [hhe,ad (by omega),ad (by omega)]; exact hB13
   have hN:hh gn=some (.row 1 [[.int n']] .live none):=by rw [hhe,ad (by omega),ad (by omega)]; exact hN13
   have hM:SM hh g L a13:=by unfold SM; rw [hhe,ad (by omega),ad (by omega)]; exact x3
   have hF:∀ k,k<c→k≠g→hh k=h k:=fun k hk hkg=>by rw [hhe,ad (by omega),ad (by omega)]; exact hF13 k hk hkg
   rw [←hhe]
   obtain ⟨cc,hcc⟩:∃ cc,cc=(c15+1):=⟨_,rfl⟩
   obtain ⟨aa,haa⟩:∃ aa,aa=a13:=⟨_,rfl⟩
   rw [←hcc]
   rw [←haa] at hM
   have hnlo:norm (.sl [[.int f1.const,row (f1.terms.map Term.cells),.int 1],[.int f3.const,row (f3.terms.map Term.cells),.int 1]] false)=row (([⟨f1,1⟩,⟨f3,1⟩]:List Wb.Bound).map Bound.cells):=by simp [Bound.cells]
   have hnhi:norm (.sl [[.int f2.const,row (f2.terms.map Term.cells),.int 1]] true)=row (([⟨f2,1⟩]:List Wb.Bound).map Bound.cells):=by simp [Bound.cells]
   obtain ⟨lo,hloe⟩:∃ lo:AV,lo=.sl [[.int f1.const,row (f1.terms.map Term.cells),.int 1],[.int f3.const,row (f3.terms.map Term.cells),.int 1]] false:=⟨_,rfl⟩
   obtain ⟨hi',hhie⟩:∃ hi':AV,hi'=.sl [[.int f2.const,row (f2.terms.map Term.cells),.int 1]] true:=⟨_,rfl⟩
   have hloc:lo.cell=true:=by rw [hloe]; rfl
   have hhic:hi'.cell=true:=by rw [hhie]; rfl
   rw [←hloe] at hnlo hX
   rw [←hhie] at hnhi hX
   refine (eh around hh cc).mono ?_
   rintro av ⟨h20,c20⟩ hc20 ⟨hF20,hav20⟩
   simp only at hc20 hF20 hav20
   obtain ⟨g20,c21,h21,hap20,hg20,hF21,hg20c⟩:=dO hF20 hav20 vn (by omega)
   have hslv:(am (around++[vn])).length=around.length+1:=by simp [am]
   have hfz20:=dx (s:=⟨h21,c21⟩) (z:=1) hg20 hslv
   obtain ⟨h22,hh22⟩:∃ h22,h22=upd h21 g20 (some (.row 1 (am (around++[vn])) .frz none)):=⟨_,rfl⟩
   have hF22:Fr cc hh h22 c21:=by rw [hh22]; exact hF21.upd hg20c (Nat.le_refl _)
   have hX20:=(hF20.h c4 (by omega)).trans hX
   have hB20:=(hF20.h c0 (by omega)).trans hB
   have hwd:=ah (x:=deep-1) (by omega) (by omega)
   have hcc21:=hF22.c
   simp [hX20,hB20,bsI,an,hap20,hfz20,-dK,hwd,←hh22]
   refine ((hsub hd) (around++[vn]) 2 n' aa h22 c21 (by simp; omega) (by omega) (by omega) (by unfold SM; rw [hF22.h g (by omega)]; exact hM) (by omega) (by omega) ((hF22.h gn (by omega)).trans hN) (by omega) (by omega) (by omega) (by omega)).mono ?_
   rintro av ⟨h23,c23⟩ hc23 ⟨es2,gr2,hes2,rfl,m2,n2,a2,S2,o1,o2,o3,o4,o5,o6,o7,o8,o9,o10,o11,o12,o13⟩
   simp only at hc23 o2 o3 o4 o5 o7 o10 o13
   have hX23:=(o13 c4 (by omega) (by omega) (by omega)).trans ((hF22.h c4 (by omega)).trans hX)
   have hgr23:h23 gr=some (.row 15 es .live none):=(o13 gr (by omega) (by omega) (by omega)).trans ((hF22.h gr (by omega)).trans ((hF gr (by omega) (by omega)).trans p3))
   obtain ⟨el,hel⟩:∃ el:List AV,el=[.int 1,.str vn,lo,hi',.nil,.row gr2 15 0 es2.length,.str ⟨#[]⟩,.nil,.int 0,.int 0,.int 0,.nil,.str ⟨#[]⟩,.nil,.nil]:=⟨_,rfl⟩
   obtain ⟨h24,hh24⟩:∃ h24,h24=upd h23 c4 (some (.row 15 [el] .live none)):=⟨_,rfl⟩
   have hX24:h24 c4=some (.row 15 [el] .live none):=by rw [hh24,af]
   have hte:Tr 2 h24 (fun k=>S2 k∨k=gr2) [el] (1+m2+0):=by
    rw [hel]
    exact Tr.cons (fun k=>S2 k∨k=gr2) (fun k=>k=gr2) S2 (fun _=>False) 1 vn lo hi' .nil (.row gr2 15 0 es2.length) ⟨#[]⟩ .nil _ ([⟨f1,1⟩,⟨f3,1⟩]) ([⟨f2,1⟩]) [] [] (.mk 0 0 ⟨0,[]⟩ ⟨#[]⟩ [] []) es2 [] m2 0 hnlo hnhi (by rfl) (by simp [Expr.cells_mk,aQ]) ⟨hloc,hhic,rfl,rfl,by simp⟩ (.inl rfl) (.inr ⟨gr2,rfl,rfl,by rw [hh24,ad (by omega)]; exact o3⟩)
     (o4.frame fun k hk=>by have:=o5 k hk; rw [hh24,ad (by omega)]) (.nil _) (fun _ h=>.inr h) (fun _ h=>.inl h) (fun _ h=>h.elim) (fun k h1 h2=>(o5 k h2).2.2 h1) (fun _ _ h=>h) (fun _ _ h=>h)
   have hok1:aA 15 el=true:=hte.len el (by simp)
   have hgr24:h24 gr=some (.row 15 es .live none):=by rw [hh24,ad (by omega)]; exact hgr23
   have hap24:apI 15 272 .plain (.row gr 15 0 es.length) (.sl [el] true) ⟨h24,c23⟩=_:=cC (by decide) hgr24 rfl (by decide) (by decide) (by decide) hok1 (by omega)
   have hel15:el.length=15:=by rw [hel]; rfl
   have heltk:el.take 15=el:=List.take_of_length_le (by omega)
   have hbs24:=d8 (sz:=15) (zs:=[.int 0,.str ⟨#[]⟩,.nil,.nil,.nil,.nil,.str ⟨#[]⟩,.nil,.int 0,.int 0,.int 0,.nil,.str ⟨#[]⟩,.nil,.nil]) (by rfl) (by decide) hok1 ⟨h24,c23⟩
   have hwi:=ah (x:=(i:Int)+1) (by omega) (by omega)
   simp [hX23,hloc,hhic,←hel,←hh24,hX24,h11,hbs24,hap24,hel15,heltk,hv,hwi,hInv]
   refine ⟨es++[el],c23,⟨rfl,by simp⟩,?_⟩
   refine StI.next (n1:=n') (n2:=n2) (a1:=a') (a2:=a2) (Se:=fun k=>S2 k∨k=gr2) (m1:=1+m2+0) (h:=h) (c:=c) hg hgnc hlen p1 p2 p3 p4 p5 p6 p9 p8 p12 p11 p13 p14 (by omega) ?_ hte ?_ (by omega) (by omega) (by omega) ?_ ?_ (by omega) (by omega)
   ·intro k hk hk1 hk2
    rw [hh24,ad (by omega),o13 _ (by omega) hk1 hk2,hF22.h _ (by omega)]; exact hF k hk hk1
   ·intro k hk
    rcases hk with hk | rfl
    ·have:=o5 k hk; omega
    ·omega
   ·rw [hh24,ad (by omega)]; exact o7
   ·unfold SM; rw [hh24,ad (by omega)]; exact o10
  by_cases hI:1<deep∧k1=3∧around≠[]
  ·obtain ⟨hd,hk13,har0⟩:=hI
   have hal:0<around.length:=List.length_pos_iff.2 har0
   have hsl:(am around).length=around.length:=by simp [am]
   simp [hd,hk13,hb3,hsl,hal]
   obtain ⟨Post,hPost⟩:∃ Post:Slots→St→Prop,Post=fun sl' s'=>∃ (cx:Nat) (f:Wb.Form) (a5:Int),sl' 16=.ptr cx 0 0∧s'.h cx=some (.row 15 [[.int 2,.str ⟨#[]⟩,.nil,.nil,.sl [f.cells] true,.nil,.str ⟨#[]⟩,.nil,.int 0,.int 0,.int 0,.nil,.str ⟨#[]⟩,.nil,.nil]] .live none)∧c3≤cx∧cx<s'.c∧SM s'.h g L a5∧a3≤a5∧a5≤a3+2∧∀ k,k<c3→k≠g→s'.h k=h3 k:=⟨_,rfl⟩
   obtain ⟨lv,hlv⟩:∃ lv,(am around)[0]?=some [.str lv]:=⟨around[0],by simp [am,hal]⟩
   have h03:¬c0=c3:=by omega
   have hg3:¬g=c3:=by omega
   have h3g:¬c3=g:=by omega
   refine roamW_cut [16,185,186,188,189,190,191,192,187,193,194,195,196,197,198] (by rfl) Post ?_ ?_
   ·simp [roamW_t,roamW_f,roamW_n,hb3,bsI,an,hlv,h03]
    refine ⟨?_,?_⟩
    ·refine ACalls.draw (R:=fun v=>∃ k,v=.int k∧k∈[-1,2,-2]) (bS [-1,2,-2] L a3 g _ _ (by simp) (by simp) (by unfold SM; rw [ad hg3]; exact r3) (by omega) (by omega) hL (by omega)) fun w h4 c4 a4 hw hc4 s1 s2 s3 s4=>?_
     obtain ⟨pk1,rfl,hpk1⟩:=hw
     have hb4:h4 c0=some (.row 1 [[row (am around)]] .live none):=by rw [s4 _ hcg,ad h03]; exact hb3
     simp [hb4,bsI,an,hlv]
     refine ACalls.draw (R:=fun v=>∃ k,v=.int k∧k∈[1,-1]) (bS [1,-1] L a4 g _ _ (by simp) (by simp) s3 (by omega) (by omega) hL (by omega)) fun w h5 c5 a5 hw hc5 t1 t2 t3 t4=>?_
     obtain ⟨pk2,rfl,hpk2⟩:=hw
     have hpk20:pk2≠0:=by simp at hpk2; omega
     have hb5:h5 c0=some (.row 1 [[row (am around)]] .live none):=by rw [t4 _ hcg]; exact hb4
     simp [hb5,bsI,an,aI,hlv]
     refine ACalls.quiet (R:=fun av=>∃ f:Wb.Form,av=f.av) (bw pk1 [⟨lv,pk2⟩] (by simp) (by simp [hpk20]) ⟨h5,c5⟩) fun w c6 hw hc6=>?_
     obtain ⟨f,rfl⟩:=hw
     have hx5:=(t4 c3 h3g).trans ((s4 c3 h3g).trans af)
     simp [Form.av,Form.cells,bsI,an,aI,hx5]
     rw [hPost]
     refine ⟨c3,f,a5,by simp,af,by omega,by show c3<c6; omega,?_,by omega,by omega,?_⟩
     ·show SM (upd h5 c3 _) g L a5; unfold SM; rw [ad (by omega)]; first | assumption | (rw [ad (by omega)]; assumption)
     ·intro k hk hkg
      show upd h5 c3 _ k=_
      grind [upd]
    ·refine ACalls.draw (R:=fun v=>∃ k,v=.int k∧k∈[-1,2,-2]) (bS [-1,2,-2] L a3 g _ _ (by simp) (by simp) r3 (by omega) (by omega) hL (by omega)) fun w h4 c4 a4 hw hc4 s1 s2 s3 s4=>?_
     obtain ⟨pk1,rfl,hpk1⟩:=hw
     have hb4:h4 c0=some (.row 1 [[row (am around)]] .live none):=by rw [s4 _ hcg]; exact hb3
     have h04:¬c0=c4:=by omega
     have hg4:¬g=c4:=by omega
     have h4g:¬c4=g:=by omega
     simp [roamW_t,roamW_f,roamW_n,hb4,bsI,an,hlv,h04]
     refine ⟨?_,?_⟩
     ·refine ACalls.draw (R:=fun v=>∃ k,v=.int k∧k∈[1,-1]) (bS [1,-1] L a4 g _ _ (by simp) (by simp) (by unfold SM; rw [ad hg4]; exact s3) (by omega) (by omega) hL (by omega)) fun w h5 c5 a5 hw hc5 t1 t2 t3 t4=>?_
      obtain ⟨pk2,rfl,hpk2⟩:=hw
      have hpk20:pk2≠0:=by simp at hpk2; omega
      have hb5:h5 c0=some (.row 1 [[row (am around)]] .live none):=by rw [t4 _ hcg,ad h04]; exact hb4
      simp [hb5,bsI,an,aI,hlv]
      refine ACalls.quiet (R:=fun av=>∃ f:Wb.Form,av=f.av) (bw pk1 [⟨lv,pk2⟩] (by simp) (by simp [hpk20]) ⟨h5,c5⟩) fun w c6 hw hc6=>?_
      obtain ⟨f,rfl⟩:=hw
      have hx5:=(t4 c4 h4g).trans af
      simp [Form.av,Form.cells,bsI,an,aI,hx5]
      rw [hPost]
      refine ⟨c4,f,a5,by simp,af,by omega,by show c4<c6; omega,?_,by omega,by omega,?_⟩
      ·show SM (upd h5 c4 _) g L a5; unfold SM; rw [ad (by omega)]; first | assumption | (rw [ad (by omega)]; assumption)
      ·intro k hk hkg
       show upd h5 c4 _ k=_
       grind [upd]
     ·refine ACalls.draw (R:=fun v=>∃ k,v=.int k∧k∈[1,-1]) (bS [1,-1] L a4 g _ _ (by simp) (by simp) s3 (by omega) (by omega) hL (by omega)) fun w h5 c5 a5 hw hc5 t1 t2 t3 t4=>?_
      obtain ⟨pk2,rfl,hpk2⟩:=hw
      have hpk20:pk2≠0:=by simp at hpk2; omega
      have hb5:h5 c0=some (.row 1 [[row (am around)]] .live none):=by rw [t4 _ hcg]; exact hb4
      have h05:¬c0=c5:=by omega
      simp [roamW_t,roamW_f,roamW_n,hb5,bsI,an,aI,hlv,h05]
      refine ⟨?_,?_⟩
      ·refine ACalls.quiet (R:=fun av=>∃ f:Wb.Form,av=f.av) (bw pk1 [⟨lv,pk2⟩] (by simp) (by simp [hpk20]) ⟨_,_⟩) fun w c6 hw hc6=>?_
       obtain ⟨f,rfl⟩:=hw
       simp [roamW_t,roamW_f,roamW_n,Form.av,Form.cells,bsI,an,aI]
       rw [hPost]
       refine ⟨c5,f,a5,by simp,af,by omega,by show c5<c6; omega,?_,by omega,by omega,?_⟩
       ·show SM (upd _ c5 _) g L a5; unfold SM; rw [ad (by omega)]; first | assumption | (rw [ad (by omega)]; assumption)
       ·intro k hk hkg
        show upd _ c5 _ k=_
        grind [upd]
      ·refine ACalls.quiet (R:=fun av=>∃ f:Wb.Form,av=f.av) (bw pk1 [⟨lv,pk2⟩] (by simp) (by simp [hpk20]) ⟨_,_⟩) fun w c6 hw hc6=>?_
       obtain ⟨f,rfl⟩:=hw
       have h06:¬c0=c6:=by omega
       simp [roamW_t,roamW_f,roamW_n,Form.av,Form.cells,bsI,an,aI,h06,hb5]
       rw [hPost]
       refine ⟨c6,f,a5,by simp,af,by omega,by show c6<c6+1; omega,?_,by omega,by omega,?_⟩
       ·show SM (upd _ c6 _) g L a5; unfold SM; rw [ad (by omega)]; first | assumption | (rw [ad (by omega)]; assumption)
       ·intro k hk hkg
        show upd _ c6 _ k=_
        grind [upd]
   ·intro v5 s5 hP
    rw [hPost] at hP
    obtain ⟨cx,f5,a5,hs16,hX5,hcx1,hcx2,hM5,ha5,ha5',hF5⟩:=hP
    obtain ⟨h5,c5⟩:=s5
    simp at hs16
    simp only at hX5 hcx2 hM5 hF5
    simp [hs16,hX5]
    have hb5:h5 c0=some (.row 1 [[row (am around)]] .live none):=(hF5 c0 (by omega) hcg).trans hb3
    have hn5:h5 gn=some (.row 1 [[.int n']] .live none):=(hF5 gn (by omega) (Ne.symm hgn)).trans hgn3
    have hFh5:∀ k,k<c→k≠g→h5 k=h k:=fun k hk hkg=>by rw [hF5 k (by omega) hkg,r4 _ hkg,hfr2' _ (by omega)]
    refine ACalls.draw (eu L a5 6 g _ _ (by omega) hM5 (by omega) (by omega) hL (by omega)) fun w h6 c6 a6 hw hc6 w1 w2 w3 w4=>?_
    obtain ⟨b6,rfl⟩:=hw
    have hX6:=(w4 cx (by omega)).trans hX5
    have hb6:h6 c0=some (.row 1 [[row (am around)]] .live none):=(w4 c0 hcg).trans hb5
    have hn6:h6 gn=some (.row 1 [[.int n']] .live none):=(w4 gn (Ne.symm hgn)).trans hn5
    have hF6:∀ k,k<c→k≠g→h6 k=h k:=fun k hk hkg=>(w4 k hkg).trans (hFh5 k hk hkg)
    cases b6
    case false=>
     simp [hs16]
     have hX:=hX6
     have hB:=hb6
     have hN:=hn6
     have hM:=w3
     have hF:=hF6
     have hC:CondAt h6 (fun k=>False) (.sl [f5.cells] true) [f5]:=.inl rfl
     have hwd:=ah (x:=deep-1) (by omega) (by omega)
     simp [hX,hB,hwd]
     refine ((hsub hd) around 1 n' a6 h6 c6 (by omega) (by omega) (by omega) hM (by omega) (by omega) hN (by omega) (by omega) (by omega) (by omega)).mono ?_
     rintro av ⟨h23,c23⟩ hc23 ⟨es2,gr2,hes2,rfl,m2,n2,a2,S2,o1,o2,o3,o4,o5,o6,o7,o8,o9,o10,o11,o12,o13⟩
     simp only at hc23 o2 o3 o4 o5 o7 o10 o13
     have hX23:=(o13 cx (by omega) (by omega) (by omega)).trans hX
     have hgr23:h23 gr=some (.row 15 es .live none):=(o13 gr (by omega) (by omega) (by omega)).trans ((hF gr (by omega) (by omega)).trans p3)
     obtain ⟨cv,hcv⟩:∃ cv:AV,cv=.sl [f5.cells] true:=⟨_,rfl⟩
     have hcvc:cv.cell=true:=by rw [hcv]; rfl
     rw [←hcv] at hX23 hC
     obtain ⟨el,hel⟩:∃ el:List AV,el=[.int 2,.str ⟨#[]⟩,.nil,.nil,cv,.row gr2 15 0 es2.length,.str ⟨#[]⟩,.nil,.int 0,.int 0,.int 0,.nil,.str ⟨#[]⟩,.nil,.nil]:=⟨_,rfl⟩
     obtain ⟨h24,hh24⟩:∃ h24,h24=upd h23 cx (some (.row 15 [el] .live none)):=⟨_,rfl⟩
     have hX24:h24 cx=some (.row 15 [el] .live none):=by rw [hh24,af]
     have hC24:CondAt h24 (fun k=>k=gr2∨False) cv [f5]:=hC.frame (fun k hk=>.inr hk) fun k hk=>by
      exact hk.elim
     have hte:Tr 2 h24 (fun k=>S2 k∨(k=gr2∨False)) [el] (1+m2+0):=by
      rw [hel]
      exact Tr.cons (fun k=>S2 k∨(k=gr2∨False)) (fun k=>k=gr2∨False) S2 (fun _=>False) 2 ⟨#[]⟩ .nil .nil cv (.row gr2 15 0 es2.length) ⟨#[]⟩ .nil _ [] [] [f5] [] (.mk 0 0 ⟨0,[]⟩ ⟨#[]⟩ [] []) es2 [] m2 0 (by rfl) (by rfl) (by rfl) (by simp [Expr.cells_mk,aQ]) ⟨rfl,rfl,rfl,rfl,by simp⟩ hC24 (.inr ⟨gr2,.inl rfl,rfl,by rw [hh24,ad (by omega)]; exact o3⟩)
       (o4.frame fun k hk=>by have:=o5 k hk; rw [hh24,ad (by omega)]) (.nil _) (fun _ h=>.inr h) (fun _ h=>.inl h) (fun _ h=>h.elim) (fun k h1 h2=>by have:=o5 k h2; rcases h1 with h1 | h1 <;> omega) (fun _ _ h=>h) (fun _ _ h=>h)
     have hok1:aA 15 el=true:=hte.len el (by simp)
     have hgr24:h24 gr=some (.row 15 es .live none):=by rw [hh24,ad (by omega)]; exact hgr23
     have hap24:apI 15 272 .plain (.row gr 15 0 es.length) (.sl [el] true) ⟨h24,c23⟩=_:=cC (by decide) hgr24 rfl (by decide) (by decide) (by decide) hok1 (by omega)
     have hel15:el.length=15:=by rw [hel]; rfl
     have heltk:el.take 15=el:=List.take_of_length_le (by omega)
     have hbs24:=d8 (sz:=15) (zs:=[.int 0,.str ⟨#[]⟩,.nil,.nil,.nil,.nil,.str ⟨#[]⟩,.nil,.int 0,.int 0,.int 0,.nil,.str ⟨#[]⟩,.nil,.nil]) (by rfl) (by decide) hok1 ⟨h24,c23⟩
     have hwi:=ah (x:=(i:Int)+1) (by omega) (by omega)
     simp [hs16,hX23,hcvc,←hel,←hh24,hX24,h11,hbs24,hap24,hel15,heltk,hv,hwi,hInv]
     refine ⟨es++[el],c23,⟨rfl,by simp⟩,?_⟩
     refine StI.next (n1:=n') (n2:=n2) (a1:=a') (a2:=a2) (Se:=fun k=>S2 k∨(k=gr2∨False)) (m1:=1+m2+0) (h:=h) (c:=c) hg hgnc hlen p1 p2 p3 p4 p5 p6 p9 p8 p12 p11 p13 p14 (by omega) ?_ hte ?_ (by omega) (by omega) (by omega) ?_ ?_ (by omega) (by omega)
     ·intro k hk hk1 hk2
      rw [hh24,ad (by omega),o13 _ (by omega) hk1 hk2]; exact hF k hk hk1
     ·intro k hk
      rcases hk with hk | rfl | hk
      ·have:=o5 k hk; omega
      ·omega
      ·exact hk.elim
     ·rw [hh24,ad (by omega)]; exact o7
     ·unfold SM; rw [hh24,ad (by omega)]; exact o10
    simp [hs16,hX6,bsI,an]
    refine ACalls.draw (R:=fun v=>∃ k,v=.int k∧k∈[0,-1,3]) (bS [0,-1,3] L a6 g _ _ (by simp) (by simp) w3 (by omega) (by omega) hL (by omega)) fun w h7 c7 a7 hw hc7 u1 u2 u3 u4=>?_
    obtain ⟨pk7,rfl,_⟩:=hw
    have hX7:=(u4 cx (by omega)).trans hX6
    have hb7:h7 c0=some (.row 1 [[row (am around)]] .live none):=(u4 c0 hcg).trans hb6
    have hn7:h7 gn=some (.row 1 [[.int n']] .live none):=(u4 gn (Ne.symm hgn)).trans hn6
    have hF7:∀ k,k<c→k≠g→h7 k=h k:=fun k hk hkg=>(u4 k hkg).trans (hF6 k hk hkg)
    simp [hs16,hX7,bsI,an]
    refine ACalls.quiet (R:=fun av=>∃ f:Wb.Form,av=f.av) (bw pk7 [] (by simp) (by simp) ⟨h7,c7⟩) fun w c8 hw hc8=>?_
    obtain ⟨f8,rfl⟩:=hw
    have hap8:=db (sz:=2) (bytes:=32) (md:=.plain) (es:=[[.int f5.const,row (f5.terms.map Term.cells)]]) (xs:=[[.int f8.const,row (f8.terms.map Term.cells)]]) (b:=true) (s:=⟨h7,c8⟩) (by decide) (by decide) (by decide) (fun e he=>by simp at he; subst he; rfl) (fun e he=>by simp at he; subst he; rfl) (by simp) (.inl (by simp))
    have hxc8:¬cx=c8:=by omega
    simp [hs16,hX7,bsI,an,Form.av,Form.cells,hap8,hxc8]
    obtain ⟨hh,hhe⟩:∃ hh,hh=upd (upd h7 c8 (some (.row 2 [[.int f5.const,row (f5.terms.map Term.cells)],[.int f8.const,row (f8.terms.map Term.cells)]] .live none))) cx (some (.row 15 [[.int 2,.str ⟨#[]⟩,.nil,.nil,.row c8 2 0 2,.nil,.str ⟨#[]⟩,.nil,.int 0,.int 0,.int 0,.nil,.str ⟨#[]⟩,.nil,.nil]] .live none)):=⟨_,rfl⟩
    obtain ⟨cc,hcc⟩:∃ cc,cc=c8+1:=⟨_,rfl⟩
    obtain ⟨aa,haa⟩:∃ aa,aa=a7:=⟨_,rfl⟩
    have hX:=(congrFun hhe cx).trans af
    have hB:hh c0=some (.row 1 [[row (am around)]] .live none):=by rw [hhe,ad (by omega),ad (by omega)]; exact hb7
    have hN:hh gn=some (.row 1 [[.int n']] .live none):=by rw [hhe,ad (by omega),ad (by omega)]; exact hn7
    have hM:SM hh g L aa:=by rw [haa]; unfold SM; rw [hhe,ad (by omega),ad (by omega)]; exact u3
    have hF:∀ k,k<c→k≠g→hh k=h k:=fun k hk hkg=>by rw [hhe,ad (by omega),ad (by omega)]; exact hF7 k hk hkg
    have hC:CondAt hh (fun k=>k=c8) (.row c8 2 0 2) [f5,f8]:=.inr ⟨c8,rfl,rfl,by rw [hhe,ad (by omega),af]; rfl⟩
    rw [←hhe,←hcc]
    have hwd:=ah (x:=deep-1) (by omega) (by omega)
    simp [hX,hB,hwd]
    refine ((hsub hd) around 1 n' aa hh cc (by omega) (by omega) (by omega) hM (by omega) (by omega) hN (by omega) (by omega) (by omega) (by omega)).mono ?_
    rintro av ⟨h23,c23⟩ hc23 ⟨es2,gr2,hes2,rfl,m2,n2,a2,S2,o1,o2,o3,o4,o5,o6,o7,o8,o9,o10,o11,o12,o13⟩
    simp only at hc23 o2 o3 o4 o5 o7 o10 o13
    have hX23:=(o13 cx (by omega) (by omega) (by omega)).trans hX
    have hgr23:h23 gr=some (.row 15 es .live none):=(o13 gr (by omega) (by omega) (by omega)).trans ((hF gr (by omega) (by omega)).trans p3)
    obtain ⟨cv,hcv⟩:∃ cv:AV,cv=.row c8 2 0 2:=⟨_,rfl⟩
    have hcvc:cv.cell=true:=by rw [hcv]; rfl
    rw [←hcv] at hX23 hC
    obtain ⟨el,hel⟩:∃ el:List AV,el=[.int 2,.str ⟨#[]⟩,.nil,.nil,cv,.row gr2 15 0 es2.length,.str ⟨#[]⟩,.nil,.int 0,.int 0,.int 0,.nil,.str ⟨#[]⟩,.nil,.nil]:=⟨_,rfl⟩
    obtain ⟨h24,hh24⟩:∃ h24,h24=upd h23 cx (some (.row 15 [el] .live none)):=⟨_,rfl⟩
    have hX24:h24 cx=some (.row 15 [el] .live none):=by rw [hh24,af]
    have hC24:CondAt h24 (fun k=>k=gr2∨k=c8) cv [f5,f8]:=hC.frame (fun k hk=>.inr hk) fun k hk=>by
     have hk':k=c8:=hk
     rw [hh24,ad (by omega),o13 k (by omega) (by omega) (by omega)]
    have hte:Tr 2 h24 (fun k=>S2 k∨(k=gr2∨k=c8)) [el] (1+m2+0):=by
     rw [hel]
     exact Tr.cons (fun k=>S2 k∨(k=gr2∨k=c8)) (fun k=>k=gr2∨k=c8) S2 (fun _=>False) 2 ⟨#[]⟩ .nil .nil cv (.row gr2 15 0 es2.length) ⟨#[]⟩ .nil _ [] [] [f5,f8] [] (.mk 0 0 ⟨0,[]⟩ ⟨#[]⟩ [] []) es2 [] m2 0 (by rfl) (by rfl) (by rfl) (by simp [Expr.cells_mk,aQ]) ⟨rfl,rfl,rfl,rfl,by simp⟩ hC24 (.inr ⟨gr2,.inl rfl,rfl,by rw [hh24,ad (by omega)]; exact o3⟩)
      (o4.frame fun k hk=>by have:=o5 k hk; rw [hh24,ad (by omega)]) (.nil _) (fun _ h=>.inr h) (fun _ h=>.inl h) (fun _ h=>h.elim) (fun k h1 h2=>by have:=o5 k h2; rcases h1 with h1 | h1 <;> omega) (fun _ _ h=>h) (fun _ _ h=>h)
    have hok1:aA 15 el=true:=hte.len el (by simp)
    have hgr24:h24 gr=some (.row 15 es .live none):=by rw [hh24,ad (by omega)]; exact hgr23
    have hap24:apI 15 272 .plain (.row gr 15 0 es.length) (.sl [el] true) ⟨h24,c23⟩=_:=cC (by decide) hgr24 rfl (by decide) (by decide) (by decide) hok1 (by omega)
    have hel15:el.length=15:=by rw [hel]; rfl
    have heltk:el.take 15=el:=List.take_of_length_le (by omega)
    have hbs24:=d8 (sz:=15) (zs:=[.int 0,.str ⟨#[]⟩,.nil,.nil,.nil,.nil,.str ⟨#[]⟩,.nil,.int 0,.int 0,.int 0,.nil,.str ⟨#[]⟩,.nil,.nil]) (by rfl) (by decide) hok1 ⟨h24,c23⟩
    have hwi:=ah (x:=(i:Int)+1) (by omega) (by omega)
    simp [hs16,hX23,hcvc,←hel,←hh24,hX24,h11,hbs24,hap24,hel15,heltk,hv,hwi,hInv]
    refine ⟨es++[el],c23,⟨rfl,by simp⟩,?_⟩
    refine StI.next (n1:=n') (n2:=n2) (a1:=a') (a2:=a2) (Se:=fun k=>S2 k∨(k=gr2∨k=c8)) (m1:=1+m2+0) (h:=h) (c:=c) hg hgnc hlen p1 p2 p3 p4 p5 p6 p9 p8 p12 p11 p13 p14 (by omega) ?_ hte ?_ (by omega) (by omega) (by omega) ?_ ?_ (by omega) (by omega)
    ·intro k hk hk1 hk2
     rw [hh24,ad (by omega),o13 _ (by omega) hk1 hk2]; exact hF k hk hk1
    ·intro k hk
     rcases hk with hk | rfl | hk
     ·have:=o5 k hk; omega
     ·omega
     ·have hk':k=c8:=hk
      omega
    ·rw [hh24,ad (by omega)]; exact o7
    ·unfold SM; rw [hh24,ad (by omega)]; exact o10
  have hcase:¬1<deep∨(1<deep∧k1<3∧nk=0)∨(1<deep∧¬k1<3∧k1≠3)∨(1<deep∧k1=3∧around=[]):=by
   by_cases hd:1<deep
   ·by_cases h1:k1<3
    ·exact .inr (.inl ⟨hd,h1,by have:¬0<nk:=fun h=>hF ⟨hd,h1,h⟩; omega⟩)
    ·by_cases h2:k1=3
     ·by_cases h3:around=[]
      ·exact .inr (.inr (.inr ⟨hd,h2,h3⟩))
      ·exact absurd ⟨hd,h2,h3⟩ hI
     ·exact .inr (.inr (.inl ⟨hd,h1,h2⟩))
   ·exact .inl hd
  rcases hcase with hd | ⟨hd,h1,h2⟩ | ⟨hd,h1,h2⟩ | ⟨hd,h1,h2⟩
  case' inl=>simp [hd,hb3]
  case' inr.inl=>
   have h13:¬k1=3:=by omega
   subst h2
   simp [hd,h1,h13,hb3]
  case' inr.inr.inl=>simp [hd,h1,h2,hb3]
  case' inr.inr.inr=>
   have hse:(am around).length=0:=by rw [h2]; rfl
   simp [hd,h1,hb3,hse]
  all_goals
   refine ACalls.draw (jD around (by omega) L a3 g h3 c3 r3 (by omega) (by omega) hL (by omega)) fun w h4 c4 a4 hw hc4 s1 s2 s3 s4=>?_
   obtain ⟨key,fs,rfl⟩:=hw
   have hb4:h4 c0=some (.row 1 [[row (am around)]] .live none):=by rw [s4 _ hcg]; exact hb3
   have hgn4:h4 gn=some (.row 1 [[.int n']] .live none):=by rw [s4 _ (Ne.symm hgn)]; exact hgn3
   have hq:n'.tdiv 10=0∨n'.tdiv 10=1:=by
    rw [Int.tdiv_eq_ediv_of_nonneg (by omega)]; omega
   have hwq:=ah (x:=n'.tdiv 10) (by omega) (by omega)
   simp [hb4,hgn4,h11,bsI,an,hwq]
   obtain ⟨z,hz⟩:∃ z,z=IntKind.u8.wrap (IntKind.i64.wrap (48+n'.tmod 10)):=⟨_,rfl⟩
   rw [←hz]
   obtain ⟨zb,hzb⟩:∃ zb:UInt8,zb=UInt8.ofNat z.toNat:=⟨_,rfl⟩
   have hss:(⟨#[115]⟩:ByteArray).size=1:=rfl
   have hss2:(⟨#[zb]⟩:ByteArray).size=1:=rfl
   have hadd:=rY (x:=⟨#[115]⟩) (y:=⟨#[zb]⟩) (by omega)
   simp [ly,←hzb,hadd,hb4,hgn4,hwq,h11,bsI,an]
   refine ACalls.pure (tO _ _ hq) fun c5 hc5=>?_
   obtain ⟨y,hy⟩:∃ y:ByteArray,y=(if n'.tdiv 10=0 then ⟨#[]⟩ else ⟨#[120]⟩):=⟨_,rfl⟩
   have hys:y.size≤1:=by rw [hy]; split <;> decide
   rw [←hy]
   have hadd2:=rY (x:=⟨#[115]⟩++⟨#[zb]⟩) (y:=y) (by rw [ByteArray.size_append]; omega)
   simp [hadd2,hb4,hgn4,hwq,h11,bsI,an,←hz,←hzb,ly]
   refine ACalls.draw (R:=fun v=>∃ k,v=.int k∧k∈[1,2,3]) (bS [1,2,3] L a4 g h4 c5 (by simp) (by simp) s3 (by omega) (by omega) hL (by omega)) fun w h6 c6 a6 hw hc6 t1 t2 t3 t4=>?_
   obtain ⟨dp,rfl,hdp⟩:=hw
   have hdp2:1≤dp∧dp≤3:=by simp at hdp; omega
   have hb6:h6 c0=some (.row 1 [[row (am around)]] .live none):=by rw [t4 _ hcg]; exact hb4
   have hgn6:h6 gn=some (.row 1 [[.int n']] .live none):=by rw [t4 _ (Ne.symm hgn)]; exact hgn4
   simp [hadd2,hb6,hgn6,hwq,h11,bsI,an,←hz,←hzb,ly]
   have hx2:eW 2=83:=by decide
   refine ACalls.draw (tP around (by omega) L hL g 2 dp a6 h6 c6 (by omega) (by omega) (by omega) t3 (by omega) (by omega) (by omega)) fun w h7 c7 a7 hw hc7 u1 u2 u3 u4=>?_
   obtain ⟨e,rfl⟩:=hw
   have hb7:h7 c0=some (.row 1 [[row (am around)]] .live none):=by rw [u4 _ hcg]; exact hb6
   have hgn7:h7 gn=some (.row 1 [[.int n']] .live none):=by rw [u4 _ (Ne.symm hgn)]; exact hgn6
   have hgr7:h7 gr=some (.row 15 es .live none):=by rw [u4 _ (by omega),t4 _ (by omega),s4 _ (by omega),r4 _ (by omega),hfr2' _ (by omega)]; exact p3
   obtain ⟨nm,hnm⟩:∃ nm:ByteArray,nm=⟨#[115]⟩++⟨#[zb]⟩++y:=⟨_,rfl⟩
   have hok:∀ x∈es,aA 15 x=true:=p4.len
   have hap:∀ x,aA 15 x=true→apI 15 272 .plain (.row gr 15 0 es.length) (.sl [x] true) ⟨h7,c7⟩=_:=fun x hx=>cC (by decide) hgr7 rfl (by decide) (by decide) (by decide) hx (by omega)
   obtain ⟨o,en,ef,exx,ey,ez⟩:=e
   have hg1:¬gn=c7:=by omega
   have hg2:¬gn=gr:=by omega
   have hw8:=ah (x:=n'+1) (by omega) (by omega)
   have hwi:=ah (x:=(i:Int)+1) (by omega) (by omega)
   simp [hadd2,hb7,hgn7,hwq,h11,bsI,an,aI,←hz,←hzb,ly,Expr.av_mk,←hnm,hap,hg1,hg2,hw8,hv,hwi,hInv]
   refine ⟨es++[[.int 3,.str nm,.nil,.nil,.nil,.nil,.str key,row (fs.map Form.cells),.int o,.int en,.int ef.const,row (ef.terms.map Term.cells),.str exx,row (ey.map Form.cells),row (ez.map Expr.cells)]],c7,⟨rfl,by simp⟩,?_⟩
   rw [qV (by omega:c7≠gn),qV (by omega:gr≠gn)]
   refine StI.next (n1:=n') (n2:=n'+1) (a1:=a') (a2:=a7) (Se:=fun _=>False) (m1:=1) (h:=h) (c:=c) hg hgnc hlen p1 p2 p3 p4 p5 p6 p9 p8 p12 p11 p13 p14 (by omega) ?_ ?_ (fun k hk=>hk.elim) (by omega) (by omega) (by omega) af ?_ (by omega) (by omega)
   ·intro k hk hk1 hk2
    rw [ad hk2,u4 _ hk1,t4 _ hk1,s4 _ hk1,r4 _ hk1,hfr2' _ (by omega)]
   ·exact Tr.cons (fun _=>False) (fun _=>False) (fun _=>False) (fun _=>False) 3 nm .nil .nil .nil .nil key (row (fs.map Form.cells)) _ [] [] [] fs (.mk o en ef exx ey ez) [] [] 0 0 rfl rfl (by simp) (by simp [Expr.cells_mk,aQ]) (by simp [AV.cell]) (.inl rfl) (.inl ⟨true,rfl,rfl⟩) (.nil _) (.nil _) (fun _ h=>h) (fun _ h=>h) (fun _ h=>h) (fun _ h _=>h) (fun _ h _=>h) (fun _ h _=>h)
   ·unfold SM; rw [ad hgn]; exact u3
end Go.Proofs.YtjhogglgkjcacaaGreat
set_option maxRecDepth 20000
set_option maxHeartbeats 4000000
namespace Go.Proofs.YtjhogglgkjcacaaGreat
open Go.AM Go.Wb
def BT (B:Nat) (h:Heap) (F:Nat→Prop) (x:AV) (n:Nat):Prop:=∃ (es:List (List AV)) (So St:Nat→Prop),BodyAt h So x es∧Tr B h St es n∧(∀ k,So k→F k)∧(∀ k,St k→F k)∧(∀ k,So k→St k→False)
theorem BT.frame {B:Nat} {h h':Heap} {F:Nat→Prop} {x:AV} {n:Nat} (b:BT B h F x n) (hh:∀ k,F k→h' k=h k):BT B h' F x n:=by
 obtain ⟨es,So,St,h1,h2,h3,h4,h5⟩:=b
 exact ⟨es,So,St,h1.frame (fun _ h=>h) fun k hk=>hh k (h3 k hk),h2.frame fun k hk=>hh k (h4 k hk),h3,h4,h5⟩
theorem BT.mono {B:Nat} {h:Heap} {F F':Nat→Prop} {x:AV} {n:Nat} (b:BT B h F x n) (hF:∀ k,F k→F' k):BT B h F' x n:=by
 obtain ⟨es,So,St,h1,h2,h3,h4,h5⟩:=b
 exact ⟨es,So,St,h1,h2,fun k hk=>hF k (h3 k hk),fun k hk=>hF k (h4 k hk),h5⟩
theorem BT.more {B B':Nat} (hB:B≤B') {h:Heap} {F:Nat→Prop} {x:AV} {n:Nat} (b:BT B h F x n):BT B' h F x n:=by
 obtain ⟨es,So,St,h1,h2,h3,h4,h5⟩:=b
 exact ⟨es,So,St,h1,h2.more hB,h3,h4,h5⟩
structure Head (B:Nat) (h:Heap) (F:Nat→Prop) (gl len n:Nat) (kind:Int) (name:ByteArray) (lo hi cv body:AV) (array:ByteArray) (subs:AV) (ex:List AV) (es:List (List AV)) (nb:Nat) (fs:List Wb.Form):Prop where
 hlen:len=es.length+1
 at_:h gl=some (.row 15 ((.int kind::.str name::lo::hi::cv::body::.str array::subs::ex)::es) .live none)
 mem:F gl
 lt:nb<n
 exl:ex.length=7
 cells:lo.cell=true∧hi.cell=true∧subs.cell=true∧ex.all AV.cell=true∧cv.cell=true∧body.cell=true
 conds:fs.length≤B
 cond:cv=.sl (fs.map Form.cells) true∨∃ g,F g∧g≠gl∧cv=.row g 2 0 fs.length∧h g=some (.row 2 (fs.map Form.cells) .live none)
 down:∃ F2:Nat→Prop,(∀ k,F2 k→F k∧k≠gl)∧BT B h F2 body nb∧∀ (h':Heap) (E:Nat→Prop),(∀ k,E k→¬F k)→(∀ k,F k→¬F2 k→h' k=h k)→BT (B+1) h' (fun k=>F2 k∨E k) body nb→BT (B+1) h' (fun k=>F k∨E k) (.row gl 15 0 len) n
 updA:∀ (h':Heap) (kind':Int) (name':ByteArray) (lo':AV) (array':ByteArray) (ex':List AV) (los':List Wb.Bound) (e':Wb.Expr),(lo'=lo∨(norm lo'=row (los'.map Bound.cells)∧lo'.cell=true))→(ex'=ex∨(aQ ex'=e'.cells∧ex'.all AV.cell=true)) →
  h' gl=some (.row 15 ((.int kind'::.str name'::lo'::hi::cv::body::.str array'::subs::ex')::es) .live none)→(∀ k,F k→k≠gl→h' k=h k)→BT (B+1) h' F (.row gl 15 0 len) n
 updB:∀ (h':Heap) (E:Nat→Prop) (gn:Nat) (fs':List Wb.Form),fs'.length≤B+1→E gn→(∀ k,E k→¬F k)→h' gn=some (.row 2 (fs'.map Form.cells) .live none) →
  h' gl=some (.row 15 ((.int kind::.str name::lo::hi::.row gn 2 0 fs'.length::body::.str array::subs::ex)::es) .live none)→(∀ k,F k→k≠gl→(∀ m,cv≠.row k 2 0 m)→h' k=h k)→BT (B+1) h' (fun k=>F k∨E k) (.row gl 15 0 len) n
theorem BT.focus {B:Nat} {h:Heap} {F:Nat→Prop} {gl len n:Nat} (b:BT B h F (.row gl 15 0 len) n) (hl:0<len):∃ kind name lo hi cv body array subs ex es nb fs,Head B h F gl len n kind name lo hi cv body array subs ex es nb fs:=by
 obtain ⟨es,So,St,h1,h2,h3,h4,h5⟩:=b
 rcases h1 with ⟨_,h1,_⟩ | ⟨g,hg,h1,h6⟩
 ·cases h1
 injection h1 with e1 e2 e3 e4
 subst e1
 have hok:=h2.len
 cases h2 with
 | nil S=>simp at e4; omega
 | cons S So' Sb Sr kind name lo hi cv body array subs ex los his fs ss e bes es n m hlo hhi hsub hex hlc hc hb ht hr k1 k2 k3 d1 d2 d3=>
  have hok1:=hok _ (List.mem_cons_self)
  simp only [aA,List.length_cons,Bool.and_eq_true,beq_iff_eq,List.all_cons] at hok1
  refine ⟨kind,name,lo,hi,cv,body,array,subs,ex,es,n,fs,⟨by simpa using e4,h6,h3 _ hg,by omega,by omega,⟨hlc.1,hlc.2.1,hlc.2.2.1,hlc.2.2.2.1,hok1.2.2.2.2.2.1,hok1.2.2.2.2.2.2.1⟩,hlc.2.2.2.2,?_,?_,?_,?_⟩⟩
  ·rcases hc with hc | ⟨g2,q1,q2,q3⟩
   ·exact .inl hc
   ·exact .inr ⟨g2,h4 _ (k1 _ q1),fun e=>h5 gl hg (e▸k1 _ q1),q2,q3⟩
  ·
   refine ⟨fun k=>(So' k∧∃ m,body=.row k 15 0 m)∨Sb k,?_,⟨bes,fun k=>So' k∧∃ m,body=.row k 15 0 m,Sb,?_,ht,fun k hk=>.inl hk,fun k hk=>.inr hk,fun k hk hk2=>d1 k hk.1 hk2⟩,?_⟩
   ·intro k hk
    have hk':St k:=hk.elim (fun q=>k1 k q.1) (k2 k)
    exact ⟨h4 k hk',fun e=>h5 k (e▸hg) hk'⟩
   ·rcases hb with hb | ⟨g2,q1,q2,q3⟩
    ·exact .inl hb
    ·exact .inr ⟨g2,⟨q1,_,q2⟩,q2,q3⟩
   ·intro h' E hE hh hb'
    obtain ⟨bes',So2,St2,b1,b2,b3,b4,b5⟩:=hb'
    have hgl:h' gl=h gl:=hh gl (h3 _ hg) fun hk=>by
     rcases hk with hk | hk
     ·exact h5 gl hg (k1 _ hk.1)
     ·exact h5 gl hg (k2 _ hk)
    have hnF2:∀ k,So' k→(∀ m,body≠.row k 15 0 m)→h' k=h k:=fun k hk hne=>hh k (h4 _ (k1 _ hk)) fun hk2=>by
     rcases hk2 with ⟨_,m,hm⟩ | hk2
     ·exact hne m hm
     ·exact d1 k hk hk2
    have hcv':CondAt h' (fun k=>So' k∧∀ m,body≠.row k 15 0 m) cv fs:=by
     rcases hc with hc | ⟨g2,q1,q2,q3⟩
     ·exact .inl hc
     ·have hnb:∀ m,body≠.row g2 15 0 m:=fun m hm=>by
       rcases hb with ⟨b,hb,_⟩ | ⟨g3,r1,r2,r3⟩
       ·rw [hb] at hm; cases hm
       ·rw [r2] at hm; injection hm with hm; subst hm; rw [q3] at r3; cases r3
      exact .inr ⟨g2,⟨q1,hnb⟩,q2,(hnF2 g2 q1 hnb).trans q3⟩
    refine ⟨(.int kind::.str name::lo::hi::cv::body::.str array::subs::ex)::es,fun k=>k=gl,fun k=>(St k∧k≠gl)∨E k,.inr ⟨gl,rfl,by rw [e4],hgl.trans h6⟩,?_,fun k hk=>.inl (hk▸h3 _ hg),fun k hk=>hk.imp (fun q=>h4 _ q.1) id,fun k hk hk2=>?_⟩
    ·have hSo2:∀ k,So2 k→((So' k∧∃ m,body=.row k 15 0 m)∨Sb k)∨E k:=b3
     refine Tr.cons _ (fun k=>(So' k∧∀ m,body≠.row k 15 0 m)∨So2 k) St2 Sr kind name lo hi cv body array subs ex los his fs ss e bes' es n m hlo hhi hsub hex ⟨hlc.1,hlc.2.1,hlc.2.2.1,hlc.2.2.2.1,Nat.le_succ_of_le hlc.2.2.2.2⟩ (hcv'.frame (fun _ h=>.inl h) fun _ _=>rfl) (b1.frame (fun _ h=>.inr h) fun _ _=>rfl) b2 ((hr.more (Nat.le_succ B)).frame fun k hk=>hh k (h4 _ (k3 _ hk)) fun hk2=>?_) ?_ ?_ ?_ ?_ ?_ ?_
     ·rcases hk2 with hk2 | hk2
      ·exact d2 k hk2.1 hk
      ·exact d3 k hk2 hk
     ·intro k hk
      rcases hk with hk | hk
      ·exact .inl ⟨k1 _ hk.1,fun e=>h5 gl hg (e▸k1 _ hk.1)⟩
      ·rcases b3 k hk with (hk | hk) | hk
       ·exact .inl ⟨k1 _ hk.1,fun e=>h5 gl hg (e▸k1 _ hk.1)⟩
       ·exact .inl ⟨k2 _ hk,fun e=>h5 gl hg (e▸k2 _ hk)⟩
       ·exact .inr hk
     ·intro k hk
      rcases b4 k hk with (hk | hk) | hk
      ·exact .inl ⟨k1 _ hk.1,fun e=>h5 gl hg (e▸k1 _ hk.1)⟩
      ·exact .inl ⟨k2 _ hk,fun e=>h5 gl hg (e▸k2 _ hk)⟩
      ·exact .inr hk
     ·intro k hk
      exact .inl ⟨k3 _ hk,fun e=>h5 gl hg (e▸k3 _ hk)⟩
     ·intro k hk hk2
      rcases hk with hk | hk
      ·rcases b4 k hk2 with (hk3 | hk3) | hk3
       ·obtain ⟨_,m',hm'⟩:=hk3; exact hk.2 m' hm'
       ·exact d1 k hk.1 hk3
       ·exact hE k hk3 (h4 _ (k1 _ hk.1))
      ·exact b5 k hk hk2
     ·intro k hk hk2
      rcases hk with hk | hk
      ·exact d2 k hk.1 hk2
      ·rcases b3 k hk with (hk | hk) | hk
       ·exact d2 k hk.1 hk2
       ·exact d3 k hk hk2
       ·exact hE k hk (h4 _ (k3 _ hk2))
     ·intro k hk hk2
      rcases b4 k hk with (hk | hk) | hk
      ·exact d2 k hk.1 hk2
      ·exact d3 k hk hk2
      ·exact hE k hk (h4 _ (k3 _ hk2))
    ·subst hk
     rcases hk2 with hk2 | hk2
     ·exact hk2.2 rfl
     ·exact hE _ hk2 (h3 _ hg)
  ·
   intro h' kind' name' lo' array' ex' los' e' hlo' hex' hgl hh
   have hne:∀ k,St k→k≠gl:=fun k hk e=>h5 gl hg (e▸hk)
   have hfr:∀ k,St k→h' k=h k:=fun k hk=>hh k (h4 _ hk) (hne k hk)
   refine ⟨(.int kind'::.str name'::lo'::hi::cv::body::.str array'::subs::ex')::es,fun k=>k=gl,St,.inr ⟨gl,rfl,by rw [e4]; rfl,hgl⟩,?_,fun k hk=>hk▸h3 _ hg,h4,fun k hk hk2=>hne k hk2 hk⟩
   have hlo2:∃ los2:List Wb.Bound,norm lo'=row (los2.map Bound.cells)∧lo'.cell=true:=by
    rcases hlo' with rfl | hq
    ·exact ⟨los,hlo,hlc.1⟩
    ·exact ⟨los',hq⟩
   obtain ⟨los2,hlo2⟩:=hlo2
   have hex2:∃ e2:Wb.Expr,aQ ex'=e2.cells∧ex'.all AV.cell=true:=by
    rcases hex' with rfl | hq
    ·exact ⟨e,hex,hlc.2.2.2.1⟩
    ·exact ⟨e',hq⟩
   obtain ⟨e2,he2,he3⟩:=hex2
   exact Tr.cons St So' Sb Sr kind' name' lo' hi cv body array' subs ex' _ his fs ss e2 bes es n m hlo2.1 hhi hsub he2 ⟨hlo2.2,hlc.2.1,hlc.2.2.1,he3,Nat.le_succ_of_le hlc.2.2.2.2⟩ (hc.frame (fun _ h=>h) fun k hk=>hfr k (k1 k hk)) (hb.frame (fun _ h=>h) fun k hk=>hfr k (k1 k hk)) ((ht.more (Nat.le_succ B)).frame fun k hk=>hfr k (k2 k hk)) ((hr.more (Nat.le_succ B)).frame fun k hk=>hfr k (k3 k hk)) k1 k2 k3 d1 d2 d3
  ·
   intro h' E gn fs' hfs' hgn hE hgn2 hgl hh
   have hne:∀ k,St k→k≠gl:=fun k hk e=>h5 gl hg (e▸hk)
   have hncv:∀ k,St k→(∀ m,cv≠.row k 2 0 m)→h' k=h k:=fun k hk hc=>hh k (h4 _ hk) (hne k hk) hc
   have hcS:∀ k m',cv=.row k 2 0 m'→So' k∧∃ es',h k=some (.row 2 es' .live none):=fun k m' hm=>by
    rcases hc with hc | ⟨g2,q1,q2,q3⟩
    ·rw [hc] at hm; cases hm
    ·rw [q2] at hm; injection hm with hm; subst hm; exact ⟨q1,_,q3⟩
   have hSb:∀ k,Sb k→h' k=h k:=fun k hk=>hncv k (k2 k hk) fun m' hm=>d1 k (hcS k m' hm).1 hk
   have hSr:∀ k,Sr k→h' k=h k:=fun k hk=>hncv k (k3 k hk) fun m' hm=>d2 k (hcS k m' hm).1 hk
   refine ⟨(.int kind::.str name::lo::hi::.row gn 2 0 fs'.length::body::.str array::subs::ex)::es,fun k=>k=gl,fun k=>(St k∧k≠gl)∨E k,.inr ⟨gl,rfl,by rw [e4]; rfl,hgl⟩,?_,fun k hk=>.inl (hk▸h3 _ hg),fun k hk=>hk.imp (fun q=>h4 _ q.1) id,fun k hk hk2=>?_⟩
   ·refine Tr.cons _ (fun k=>(So' k∧∃ m,body=.row k 15 0 m)∨k=gn) Sb Sr kind name lo hi (.row gn 2 0 fs'.length) body array subs ex los his fs' ss e bes es n m hlo hhi hsub hex ⟨hlc.1,hlc.2.1,hlc.2.2.1,hlc.2.2.2.1,hfs'⟩ (.inr ⟨gn,.inr rfl,rfl,hgn2⟩) ?_ ((ht.more (Nat.le_succ B)).frame hSb) ((hr.more (Nat.le_succ B)).frame hSr) ?_ ?_ ?_ ?_ ?_ d3
    ·rcases hb with hb | ⟨g3,r1,r2,r3⟩
     ·exact .inl hb
     ·refine .inr ⟨g3,.inl ⟨r1,_,r2⟩,r2,(hncv g3 (k1 _ r1) fun m' hm=>?_).trans r3⟩
      obtain ⟨_,es',hes'⟩:=hcS g3 m' hm
      rw [r3] at hes'; cases hes'
    ·intro k hk
     rcases hk with hk | rfl
     ·exact .inl ⟨k1 _ hk.1,hne k (k1 _ hk.1)⟩
     ·exact .inr hgn
    ·exact fun k hk=>.inl ⟨k2 _ hk,hne k (k2 _ hk)⟩
    ·exact fun k hk=>.inl ⟨k3 _ hk,hne k (k3 _ hk)⟩
    ·intro k hk hk2
     rcases hk with hk | rfl
     ·exact d1 k hk.1 hk2
     ·exact hE _ hgn (h4 _ (k2 _ hk2))
    ·intro k hk hk2
     rcases hk with hk | rfl
     ·exact d2 k hk.1 hk2
     ·exact hE _ hgn (h4 _ (k3 _ hk2))
   ·subst hk
    rcases hk2 with hk2 | hk2
    ·exact hk2.2 rfl
    ·exact hE _ hk2 (h3 _ hg)
def pv (h:Heap) (ga:Nat) (A:List Wb.Array):Prop:=∃ (k0 k1 k2:ByteArray) (s0 s1 s2:AV) (z0 z1 z2:List Int),A=[⟨k0,z0⟩,⟨k1,z1⟩,⟨k2,z2⟩]∧h ga=some (.row 2 [[.str k0,s0],[.str k1,s1],[.str k2,s2]] .live none)∧norm s0=row (be z0)∧norm s1=row (be z1)∧norm s2=row (be z2)∧s0.cell=true∧s1.cell=true∧s2.cell=true
def SmallA (A:List Wb.Array):Prop:=∀ a∈A,a.sizes.length≤5∧∀ k∈a.sizes,0≤k∧k≤20000
end Go.Proofs.YtjhogglgkjcacaaGreat
set_option maxRecDepth 20000
set_option maxHeartbeats 4000000
namespace Go.Proofs.YtjhogglgkjcacaaGreat
open Go.AM Go.Wb
theorem _root_.Go.AM.stI_c {g e o sz:Nat} {v:AV} {es:List (List AV)} {cs:List AV} {s:St} (hv:v.cell=true) (hg:s.h g=some (.row sz es .live none)) (he:es[e]?=some cs) (ho:o+1≤cs.length) :
  stI 1 (.ptr g e o) v s=some { s with h:=upd s.h g (some (.row sz (es.set e (cs.take o++[v]++cs.drop (o+1))) .live none)) }:=by
 have hc:v.cells=[v]:=by cases v <;> first | rfl | cases hv
 simp only [stI,hg,he,hc,List.length_cons,List.length_nil,List.all_cons,List.all_nil,hv,ho,Bool.and_true,and_self,if_true,cZ,Nat.zero_add]
theorem _root_.Go.AM.lp_cut {P:Program} {a:AC} {Q:Ex→Slots→St→Prop} {sl:Slots} {s:St} (id:Nat) (W:List Nat) (hW:gN a.wr W=true) (Post:Slots→St→Prop) (h:acW P (.loop a) (fun e sl' s'=>e=.exit id∧Post sl' s') sl s)
  (hk:∀ v s',Post (ov W sl v) s'→Q (.exit id) (ov W sl v) s'):acW P (.loop a) Q sl s:=by
 refine bL _ (gD _ h) fun e sl' s' hp=>?_
 obtain ⟨⟨rfl,hp⟩,hf⟩:=hp
 have e:ov W sl sl'=sl':=sp fun t ht=>hf t (lc hW ht)
 have:=hk sl' s' (by rw [e]; exact hp)
 rwa [e] at this
theorem BT.len {B:Nat} {h:Heap} {F:Nat→Prop} {x:AV} {n:Nat} (b:BT B h F x n) (s:St):∃ (len:Int),dT 1 x s=some (.int len)∧(0<len→∃ gl l,x=.row gl 15 0 l∧0<l∧len=l)∧(¬0<len→len=0):=by
 obtain ⟨es,So,St,hb,_⟩:=b
 rcases hb with ⟨b,rfl,_⟩ | ⟨g,_,rfl,_⟩
 ·exact ⟨0,rfl,fun h=>by omega,fun _=>rfl⟩
 ·exact ⟨es.length,rfl,fun h=>⟨_,_,rfl,by omega,rfl⟩,fun h=>by omega⟩
structure PgAt (B:Nat) (h:Heap) (cp ga:Nat) (A:List Wb.Array) (F:Nat→Prop) (x:AV) (n:Nat):Prop where
 at_:h cp=some (.row 2 [[.row ga 2 0 3,x]] .live none)
 arr:pv h ga A
 small:SmallA A
 bt:BT B h F x n
 ne:cp≠ga
 fcp:¬F cp
 fga:¬F ga
def mS (L:List Int) (g:Nat) (h0:Heap) (c0 cp ga:Nat) (F:Nat→Prop) (n:Nat) (a:Int) (h:Heap) (c:Nat):Prop:=
 ∃ (A:List Wb.Array) (F':Nat→Prop) (x':AV) (n':Nat) (a':Int),PgAt 3 h cp ga A F' x' n'∧n'≤n+2∧(∀ k,F' k→F k∨(c0≤k∧k<c))∧SM h g L a'∧a≤a'∧a'≤a+100∧∀ k,k<c0→k≠g→k≠cp→k≠ga→¬F k→h k=h0 k
theorem SmallA.one {k0 k1 k2:ByteArray} {z0 z1 z2:List Int} (h:SmallA [⟨k0,z0⟩,⟨k1,z1⟩,⟨k2,z2⟩]) (y:List Int) (hy:y.length≤5∧∀ k∈y,0≤k∧k≤20000) (k':ByteArray):SmallA [⟨k0,y⟩,⟨k1,z1⟩,⟨k2,z2⟩]∧SmallA [⟨k0,z0⟩,⟨k',z1⟩,⟨k2,z2⟩]:=by
 refine ⟨fun a ha=>?_,fun a ha=>?_⟩
 ·simp at ha
  rcases ha with rfl | rfl | rfl
  ·exact hy
  ·exact h _ (by simp)
  ·exact h _ (by simp)
 ·simp at ha
  rcases ha with rfl | rfl | rfl
  ·exact h ⟨k0,z0⟩ (by simp)
  ·exact h ⟨k1,z1⟩ (by simp)
  ·exact h ⟨k2,z2⟩ (by simp)
theorem vL (L:List Int) (hL:L.length≤1048576) (a:Int) (g cp ga:Nat) (A:List Wb.Array) (F:Nat→Prop) (x:AV) (n:Nat) (hn:n≤50) (h0:Heap) (c0:Nat) (hs:SM h0 g L a) (ha:0≤a) (ha':a<700000000) (hg:g<c0) (hcp:cp<c0) (hga:ga<c0) (hgcp:g≠cp) (hgga:g≠ga) (hF:∀ k,F k→k<c0∧k≠g) (hp:PgAt 2 h0 cp ga A F x n) :
  ACalls Pg Fn55.n [.ptr g 0 0,.ptr cp 0 0] ⟨h0,c0⟩ fun av s'=>mS L g h0 c0 cp ga F n a s'.h s'.c:=by
 obtain ⟨p1,p2,p3,p4,p5,p6,p7⟩:=hp
 refine Fn55.calls .keep ?_
 unfold Fn55.ac
 simp
 refine ACalls.draw (cm L a 4 g h0 c0 (by omega) hs ha (by omega) hL (by omega)) fun v h1 c1 a1 hv hc1 q1 q2 q3 q4=>?_
 obtain ⟨k1,rfl,hk1,hk2,_⟩:=hv
 obtain ⟨b0,b1,b2,s0,s1,s2,z0,z1,z2,rfl,r1,r2,r3,r4,r5,r6,r7⟩:=p2
 have hp1:h1 cp=some (.row 2 [[.row ga 2 0 3,x]] .live none):=(q4 cp (Ne.symm hgcp)).trans p1
 have ha1:h1 ga=some (.row 2 [[.str b0,s0],[.str b1,s1],[.str b2,s2]] .live none):=(q4 ga (Ne.symm hgga)).trans r1
 have hbt1:BT 2 h1 F x n:=p4.frame fun k hk=>q4 k (hF k hk).2
 have hxc:x.cell=true:=by
  obtain ⟨es,So,St,hb,_⟩:=p4
  rcases hb with ⟨b,rfl,_⟩ | ⟨g,_,rfl,_⟩ <;> rfl
 by_cases e0:k1=0
 ·subst e0
  simp [hp1,bsI,an]
  refine ACalls.draw (cm L a1 5 g h1 c1 (by omega) q3 (by omega) (by omega) hL (by omega)) fun v h2 c2 a2 hv hc2 t1 t2 t3 t4=>?_
  obtain ⟨k2,rfl,hk3,hk4,_⟩:=hv
  have hp2:=(t4 cp (Ne.symm hgcp)).trans hp1
  have ha2:=(t4 ga (Ne.symm hgga)).trans ha1
  have hk5:∃ (y:List Int) (sv:AV),(y.length≤5∧∀ k∈y,0≤k∧k≤20000)∧([[AV.nil],[.sl [[.int 0]] true],[.sl [[.int 3]] true],[.sl [[.int 20000]] true],[.sl [[.int 2],[.int 2],[.int 2],[.int 2],[.int 2]] true]]:List (List AV))[k2.toNat]?=some [sv]∧norm sv=row (be y)∧sv.cell=true:=by
   have:k2=0∨k2=1∨k2=2∨k2=3∨k2=4:=by omega
   rcases this with rfl | rfl | rfl | rfl | rfl
   ·exact ⟨[],_,by simp,rfl,rfl,rfl⟩
   ·exact ⟨[0],_,by simp,rfl,rfl,rfl⟩
   ·exact ⟨[3],_,by simp,rfl,rfl,rfl⟩
   ·exact ⟨[20000],_,by simp,rfl,rfl,rfl⟩
   ·exact ⟨[2,2,2,2,2],_,by simp,rfl,rfl,rfl⟩
  obtain ⟨y,sv,hy1,hy2,hy3,hy4⟩:=hk5
  have hst:=stI_c (o:=1) (s:=⟨h2,c2⟩) hy4 ha2 (e:=0) rfl (by simp)
  simp [hp2,hy2,hk3,hst,-wv]
  refine ⟨_,F,x,n,a2,⟨?_,⟨b0,b1,b2,sv,s1,s2,y,z1,z2,rfl,af,hy3,r3,r4,hy4,r6,r7⟩,(p3.one y hy1 b0).1,?_,p5,p6,p7⟩,by omega,fun k hk=>.inl hk,?_,by omega,by omega,?_⟩
  ·show upd h2 ga _ cp=_
   rw [ad p5]; exact hp2
  ·refine (hbt1.more (by omega)).frame fun k hk=>?_
   show upd h2 ga _ k=_
   rw [ad (show k≠ga from fun e=>p7 (e▸hk)),t4 k (hF k hk).2]
  ·show SM (upd h2 ga _) g L a2
   unfold SM; rw [ad hgga]; exact t3
  ·intro k hk hkg hkp hka hkF
   show upd h2 ga _ k=_
   rw [ad hka,t4 k hkg,q4 k hkg]
 by_cases e1:k1=1
 ·subst e1
  simp [hp1,bsI,an]
  refine ACalls.draw (R:=fun v=>∃ k,v=.str k∧k∈([⟨#[97]⟩,⟨#[]⟩,⟨#[105]⟩,⟨#[102,111,114]⟩]:List ByteArray)) (ep [⟨#[97]⟩,⟨#[]⟩,⟨#[105]⟩,⟨#[102,111,114]⟩] L a1 g h1 c1 (by simp) (by simp) q3 (by omega) (by omega) hL (by omega)) fun v h2 c2 a2 hv hc2 t1 t2 t3 t4=>?_
  obtain ⟨nm,rfl,_⟩:=hv
  have hp2:=(t4 cp (Ne.symm hgcp)).trans hp1
  have ha2:=(t4 ga (Ne.symm hgga)).trans ha1
  simp [hp2,ha2]
  refine ⟨_,F,x,n,a2,⟨?_,⟨b0,nm,b2,s0,s1,s2,z0,z1,z2,rfl,af,r2,r3,r4,r5,r6,r7⟩,(p3.one z0 (p3 ⟨b0,z0⟩ (by simp)) nm).2,?_,p5,p6,p7⟩,by omega,fun k hk=>.inl hk,?_,by omega,by omega,?_⟩
  ·show upd h2 ga _ cp=_
   rw [ad p5]; exact hp2
  ·refine (hbt1.more (by omega)).frame fun k hk=>?_
   show upd h2 ga _ k=_
   rw [ad (show k≠ga from fun e=>p7 (e▸hk)),t4 k (hF k hk).2]
  ·show SM (upd h2 ga _) g L a2
   unfold SM; rw [ad hgga]; exact t3
  ·intro k hk hkg hkp hka hkF
   show upd h2 ga _ k=_
   rw [ad hka,t4 k hkg,q4 k hkg]
 by_cases e2:k1=2
 ·subst e2
  simp [hp1]
  obtain ⟨Inv,hInv⟩:∃ Inv:Int→Nat→Slots→St→Prop,Inv=fun d m sl s'=>∃ (x':AV) (F2:Nat→Prop) (a':Int),sl 4=x'∧(∀ k,F2 k→F k)∧BT 2 s'.h F2 x' m∧m≤n∧SM s'.h g L a'∧a1≤a'∧a'+m≤a1+n+d∧c1≤s'.c∧(∀ k,k≠g→s'.h k=h1 k) ∧
    ∀ (h':Heap) (E:Nat→Prop),(∀ k,E k→¬F k)→(∀ k,F k→¬F2 k→h' k=h1 k)→BT 3 h' (fun k=>F2 k∨E k) x' m→BT 3 h' (fun k=>F k∨E k) x n:=⟨_,rfl⟩
  obtain ⟨Post,hPost⟩:∃ Post:Slots→St→Prop,Post=fun sl s'=>∃ m,Inv 1 m sl s':=⟨_,rfl⟩
  refine lp_cut 1 Fn55.W0 (by rfl) Post ?_ ?_
  ·refine di Fn55.W0 (by rfl) (Inv 0) n ?_ ?_
   ·rw [hInv]; exact ⟨x,F,a1,by simp,fun _ h=>h,hbt1,Nat.le_refl _,q3,Int.le_refl _,by omega,Nat.le_refl _,fun _ _=>rfl,fun _ _ _ _ h=>h⟩
   ·intro m v s' hI
    have hI':=hI
    rw [hInv] at hI
    obtain ⟨x',F2,a2,h4,i1,i2,i3,i4,i5,i6,i7,i8,i9⟩:=hI
    obtain ⟨h,c⟩:=s'
    simp at h4
    simp only at i2 i4 i7 i8
    obtain ⟨len,hlen,hpos,_⟩:=i2.len ⟨h,c⟩
    have hfin:∀ (h':Heap) (a':Int) (c':Nat),c≤c'→SM h' g L a'→a2≤a'→(∀ k,k≠g→h' k=h k)→∀ sl':Slots,sl' 4=x'→a'+m≤a1+n+1→Post sl' ⟨h',c'⟩:=by
     intro h' a' c' hc hsm hle hfr sl' hsl hle2
     rw [hPost,hInv]
     exact ⟨m,x',F2,a',hsl,i1,i2.frame fun k hk=>hfr k (hF k (i1 k hk)).2,i3,hsm,by omega,by omega,by show c1≤c'; omega,fun k hk=>(hfr k hk).trans (i8 k hk),i9⟩
    by_cases hl:0<len
    case neg=>
     simp [h4,hlen,hl]
     exact hfin h a2 c (by omega) i4 (by omega) (fun _ _=>rfl) _ (by simp [h4]) (by omega)
    obtain ⟨gl,l,rfl,hl1,hl2⟩:=hpos hl
    obtain ⟨kind,name,lo,hi,cv,body,array,subs,ex,es,nb,fs,H⟩:=i2.focus hl1
    have hHa:=H.at_
    obtain ⟨F3,j1,j2,j3⟩:=H.down
    obtain ⟨len2,hlen2,hpos2,_⟩:=j2.len ⟨h,c⟩
    have hl1':(0:Int)<l:=by omega
    simp [h4,hlen,hl,hHa,hl1,hlen2]
    by_cases hb:0<len2
    case neg=>
     simp [hb]
     exact hfin h a2 c (by omega) i4 (by omega) (fun _ _=>rfl) _ (by simp [h4]) (by omega)
    simp [hb]
    refine ACalls.draw (eu L a2 2 g h c (by omega) i4 (by omega) (by omega) hL (by omega)) fun v h2 c2 a3 hv hc2 t1 t2 t3 t4=>?_
    obtain ⟨b,rfl⟩:=hv
    have hH2:=(t4 gl (hF gl (i1 gl H.mem)).2).trans hHa
    have hlt:=H.lt
    cases b
    case false=>
     simp
     exact hfin h2 a3 c2 hc2 t3 t1 t4 _ (by simp [h4]) (by omega)
    simp [h4,hl1,hH2]
    refine ⟨nb,hlt,?_⟩
    rw [hInv]
    have hle:a3+nb≤a1+n+0:=by omega
    refine ⟨body,F3,a3,by simp,fun k hk=>i1 k (j1 k hk).1,j2.frame fun k hk=>t4 k (hF k (i1 k (j1 k hk).1)).2,by omega,t3,by omega,by omega,by show c1≤c2; omega,fun k hk=>(t4 k hk).trans (i8 k hk),?_⟩
    intro h' E hE hh hb'
    refine i9 h' E hE (fun k hk hk2=>hh k hk fun hk3=>hk2 (j1 k hk3).1) ?_
    refine j3 h' E (fun k hk hk2=>hE k hk (i1 k hk2)) (fun k hk hk2=>?_) hb'
    rw [hh k (i1 k hk) hk2,i8 k (hF k (i1 k hk)).2]
  ·intro v s' hP
   rw [hPost] at hP
   obtain ⟨m,hI⟩:=hP
   rw [hInv] at hI
   obtain ⟨x',F2,a2,h4,i1,i2,i3,i4,i5,i6,i7,i8,i9⟩:=hI
   obtain ⟨h,c⟩:=s'
   simp at h4
   simp only at i2 i4 i7 i8
   have hdone:∀ (h':Heap) (c':Nat) (a':Int) (E:Nat→Prop),(∀ k,E k→c0≤k∧k<c')→BT 3 h' (fun k=>F k∨E k) x n→SM h' g L a'→a1≤a'→a'≤a1+n+40→(∀ k,¬F k→k<c0→k≠g→h' k=h1 k)→mS L g h0 c0 cp ga F n a h' c':=by
    intro h' c' a' E hE hb hsm hle hle2 hfr
    refine ⟨_,fun k=>F k∨E k,x,n,a',⟨(hfr cp p6 hcp (Ne.symm hgcp)).trans hp1,⟨b0,b1,b2,s0,s1,s2,z0,z1,z2,rfl,(hfr ga p7 hga (Ne.symm hgga)).trans ha1,r2,r3,r4,r5,r6,r7⟩,p3,hb,p5,fun hk=>?_,fun hk=>?_⟩,by omega,fun k hk=>hk.imp id (hE k),hsm,by omega,by omega,fun k hk hkg hkp hka hkF=>(hfr k hkF hk hkg).trans (q4 k hkg)⟩
    ·rcases hk with hk | hk
     ·exact p6 hk
     ·have:=hE _ hk; omega
    ·rcases hk with hk | hk
     ·exact p7 hk
     ·have:=hE _ hk; omega
   obtain ⟨len,hlen,hpos,hzero⟩:=i2.len ⟨h,c⟩
   by_cases hl:0<len
   case neg=>
    have hz:=hzero hl
    subst hz
    simp [h4,hlen]
    exact hdone h c a2 (fun _=>False) (fun k hk=>hk.elim) ((hbt1.more (by omega)).frame (fun k hk=>i8 k (hF k hk).2) |>.mono fun k hk=>.inl hk) i4 (by omega) (by omega) (fun k _ _ hkg=>i8 k hkg)
   obtain ⟨gl,l,rfl,hl1,hl2⟩:=hpos hl
   obtain ⟨kind,name,lo,hi,cv,body,array,subs,ex,es,nb,fs,H⟩:=i2.focus hl1
   have hHa:=H.at_
   have hglF:=i1 gl H.mem
   have hglg:gl≠g:=(hF gl hglF).2
   have hglc:gl<c0:=(hF gl hglF).1
   have hl1':(0:Int)<l:=by omega
   have hl1'':¬(l:Int)=0:=by omega
   have hl0:l≠0:=by omega
   have hdoneA:∀ (h':Heap) (c':Nat) (a':Int),BT 3 h' F2 (.row gl 15 0 l) m→SM h' g L a'→a1≤a'→a'≤a1+n+40→(∀ k,k≠gl→k≠g→h' k=h1 k)→mS L g h0 c0 cp ga F n a h' c':=by
    intro h' c' a' hb hsm hle hle2 hfr
    refine hdone h' c' a' (fun _=>False) (fun k hk=>hk.elim) (i9 h' _ (fun k hk=>hk.elim) (fun k hk hk2=>hfr k (fun e=>hk2 (e▸H.mem)) (hF k hk).2) (hb.mono fun k hk=>.inl hk)) hsm hle hle2 fun k hk _ hkg=>hfr k (fun e=>hk (e▸hglF)) hkg
   obtain ⟨hcl,hch,hcs,hcx,hcc,hcb⟩:=H.cells
   have hlz:¬len=0:=by omega
   simp [h4,hlen,hl1,hl1',hl1'',hl0,hlz]
   refine ACalls.draw (cm L a2 5 g h c (by omega) i4 (by omega) (by omega) hL (by omega)) fun v h2 c2 a3 hv hc2 t1 t2 t3 t4=>?_
   obtain ⟨k5,rfl,hk5,hk6,_⟩:=hv
   have hH2:=(t4 gl hglg).trans hHa
   have hF2':∀ k,F2 k→k≠g:=fun k hk=>(hF k (i1 k hk)).2
   have hfr2:∀ k,k≠g→h2 k=h1 k:=fun k hk=>(t4 k hk).trans (i8 k hk)
   by_cases f0:k5=0
   ·subst f0
    simp [h4]
    refine ACalls.draw (mg L a3 1 3 g h2 c2 (by omega) (by omega) (by omega) (by omega) t3 (by omega) (by omega) hL (by omega)) fun v h3 c3 a4 hv hc3 u1 u2 u3 u4=>?_
    obtain ⟨kd,rfl⟩:=hv
    have hH3:=(u4 gl hglg).trans hH2
    simp [hH3]
    refine hdoneA _ _ a4 (H.updA _ kd name lo array ex [] (.mk 0 0 ⟨0,[]⟩ ⟨#[]⟩ [] []) (.inl rfl) (.inl rfl) af fun k hk hkl=>?_) ?_ (by omega) (by omega) fun k hk hkg=>?_
    ·show upd h3 gl _ k=_
     rw [ad hkl,u4 k (hF2' k hk),t4 k (hF2' k hk)]
    ·show SM (upd h3 gl _) g L a4
     unfold SM; rw [ad (Ne.symm hglg)]; exact u3
    ·show upd h3 gl _ k=_
     rw [ad hk,u4 k hkg,hfr2 k hkg]
   by_cases f1:k5=1
   ·subst f1
    simp [h4,bsI,an,hH2]
    refine ACalls.draw (R:=fun v=>∃ k,v=.str k∧k∈([⟨#[]⟩,⟨#[97]⟩,⟨#[105]⟩,⟨#[115,48]⟩]:List ByteArray)) (ep [⟨#[]⟩,⟨#[97]⟩,⟨#[105]⟩,⟨#[115,48]⟩] L a3 g h2 c2 (by simp) (by simp) t3 (by omega) (by omega) hL (by omega)) fun v h3 c3 a4 hv hc3 u1 u2 u3 u4=>?_
    obtain ⟨nm,rfl,_⟩:=hv
    have hH3:=(u4 gl hglg).trans hH2
    simp [hH3,bsI,an]
    refine ACalls.draw (R:=fun v=>∃ k,v=.str k∧k∈([array,⟨#[122,122]⟩,⟨#[]⟩]:List ByteArray)) (ep [array,⟨#[122,122]⟩,⟨#[]⟩] L a4 g h3 c3 (by simp) (by simp) u3 (by omega) (by omega) hL (by omega)) fun v h5 c5 a5 hv hc5 w1 w2 w3 w4=>?_
    obtain ⟨ar,rfl,_⟩:=hv
    have hH5:=(w4 gl hglg).trans hH3
    simp [hH5,bsI,an]
    refine hdoneA _ _ a5 (H.updA _ kind nm lo ar ex [] (.mk 0 0 ⟨0,[]⟩ ⟨#[]⟩ [] []) (.inl rfl) (.inl rfl) af fun k hk hkl=>?_) ?_ (by omega) (by omega) fun k hk hkg=>?_
    ·show upd h5 gl _ k=_
     rw [ad hkl,w4 k (hF2' k hk),u4 k (hF2' k hk),t4 k (hF2' k hk)]
    ·show SM (upd h5 gl _) g L a5
     unfold SM; rw [ad (Ne.symm hglg)]; exact w3
    ·show upd h5 gl _ k=_
     rw [ad hk,w4 k hkg,u4 k hkg,hfr2 k hkg]
   by_cases f2:k5=2
   ·subst f2
    simp [h4,bsI,an,hH2]
    refine ACalls.draw (R:=fun v=>∃ k,v=.str k∧k∈([⟨#[105]⟩,⟨#[106]⟩,⟨#[113]⟩]:List ByteArray)) (ep [⟨#[105]⟩,⟨#[106]⟩,⟨#[113]⟩] L a3 g h2 c2 (by simp) (by simp) t3 (by omega) (by omega) hL (by omega)) fun v h3 c3 a4 hv hc3 u1 u2 u3 u4=>?_
    obtain ⟨nm,rfl,_⟩:=hv
    have hH3:=(u4 gl hglg).trans hH2
    simp [hH3,bsI,an]
    refine ACalls.draw (R:=fun v=>∃ k,v=.int k∧k∈[1,1001]) (bS [1,1001] L a4 g h3 c3 (by simp) (by simp) u3 (by omega) (by omega) hL (by omega)) fun v h5 c5 a5 hv hc5 w1 w2 w3 w4=>?_
    obtain ⟨pk,rfl,hpk⟩:=hv
    have hpk0:pk≠0:=by simp at hpk; omega
    have hH5:=(w4 gl hglg).trans hH3
    simp [hH5,bsI,an,aI]
    refine ACalls.quiet (R:=fun av=>∃ f:Wb.Form,av=f.av) (bw 0 [⟨nm,pk⟩] (by simp) (by simp [hpk0]) ⟨h5,c5⟩) fun w c6 hw hc6=>?_
    obtain ⟨f,rfl⟩:=hw
    simp [bsI,an,aI]
    refine ACalls.draw (R:=fun v=>∃ k,v=.int k∧k∈[1,0,3]) (bS [1,0,3] L a5 g h5 c6 (by simp) (by simp) w3 (by omega) (by omega) hL (by omega)) fun v h7 c7 a7 hv hc7 x1 x2 x3 x4=>?_
    obtain ⟨pd,rfl,_⟩:=hv
    have hH7:=(x4 gl hglg).trans hH5
    simp [hH7,bsI,an,aI,Form.av,Form.cells]
    refine hdoneA _ _ a7 (H.updA _ kind name (.sl [[.int f.const,row (f.terms.map Term.cells),.int pd]] true) array ex [⟨f,pd⟩] (.mk 0 0 ⟨0,[]⟩ ⟨#[]⟩ [] []) (.inr ⟨by simp [Bound.cells],rfl⟩) (.inl rfl) af fun k hk hkl=>?_) ?_ (by omega) (by omega) fun k hk hkg=>?_
    ·show upd h7 gl _ k=_
     rw [ad hkl,x4 k (hF2' k hk),w4 k (hF2' k hk),u4 k (hF2' k hk),t4 k (hF2' k hk)]
    ·show SM (upd h7 gl _) g L a7
     unfold SM; rw [ad (Ne.symm hglg)]; exact x3
    ·show upd h7 gl _ k=_
     rw [ad hk,x4 k hkg,w4 k hkg,u4 k hkg,hfr2 k hkg]
   by_cases f3:k5=3
   ·subst f3
    simp [h4,bsI,an,aI,hH2]
    refine ACalls.quiet (R:=fun av=>∃ f:Wb.Form,av=f.av) (bw 0 [⟨⟨#[113]⟩,1⟩] (by simp) (by simp) ⟨h2,c2⟩) fun w c6 hw hc6=>?_
    obtain ⟨f,rfl⟩:=hw
    have hokf:∀ e∈([[.int f.const,row (f.terms.map Term.cells)]]:List (List AV)),aA 2 e=true:=fun e he=>by simp at he; subst he; rfl
    have hokfs:∀ e∈fs.map Form.cells,aA 2 e=true:=fun e he=>by obtain ⟨t,_,rfl⟩:=List.mem_map.1 he; rfl
    have hfs:(fs++[f]).map Form.cells=fs.map Form.cells++[[.int f.const,row (f.terms.map Term.cells)]]:=by simp [Form.cells]
    have hEc:∀ k,k=c6→¬F2 k:=fun k hk hk2=>by have:=hF k (i1 k hk2); omega
    have hEc':∀ k,k=c6→¬F k:=fun k hk hk2=>by have:=hF k hk2; omega
    have hgl6:gl≠c6:=by omega
    have hg6:g≠c6:=by omega
    have hfsl:(fs++[f]).length=fs.length+1:=by simp
    have hsm:=fs.length
    have hfs2:=H.conds
    rcases H.cond with hcv | ⟨gc,hgc1,hgc2,hcv,hgc3⟩
    ·have hap:=db (sz:=2) (bytes:=32) (md:=.plain) (es:=fs.map Form.cells) (xs:=[[.int f.const,row (f.terms.map Term.cells)]]) (b:=true) (s:=⟨h2,c6⟩) (by decide) (by decide) (by decide) hokfs hokf (by simp; omega) (.inl (by simp))
     rw [hcv] at hH2
     simp [Form.av,Form.cells,bsI,an,hcv,hH2,hap,hgl6]
     refine hdone _ (c6+1) a3 (fun k=>k=c6) (fun k hk=>by omega) (i9 _ _ hEc' (fun k hk hk2=>?_) (H.updB _ (fun k=>k=c6) c6 (fs++[f]) (by simp; omega) rfl hEc ?_ (by rw [hfsl]; exact af) (fun k hk hkl hkc=>?_))) ?_ (by omega) (by omega) fun k hk hkc hkg=>?_
     ·have hkl:k≠gl:=fun e=>hk2 (e▸H.mem)
      have hk6:k≠c6:=fun e=>hEc' k e hk
      show upd (upd h2 c6 _) gl _ k=_
      rw [ad hkl,ad hk6,hfr2 k (hF k hk).2]
     ·show upd (upd h2 c6 _) gl _ c6=_
      rw [ad (Ne.symm hgl6),af,hfs]
     ·have hk6:k≠c6:=fun e=>hEc k e hk
      show upd (upd h2 c6 _) gl _ k=_
      rw [ad hkl,ad hk6,t4 k (hF2' k hk)]
     ·show SM (upd (upd h2 c6 _) gl _) g L a3
      unfold SM; rw [ad (Ne.symm hglg),ad hg6]; exact t3
     ·have hkl:k≠gl:=fun e=>hk (e▸hglF)
      show upd (upd h2 c6 _) gl _ k=_
      rw [ad hkl,ad (by omega),hfr2 k hkg]
    ·have hgcg:gc≠g:=(hF gc (i1 gc hgc1)).2
     have hgcc:gc<c0:=(hF gc (i1 gc hgc1)).1
     have hgch:=(t4 gc hgcg).trans hgc3
     have hap:=ig (sz:=2) (bytes:=32) (md:=.plain) (es:=fs.map Form.cells) (xs:=[[.int f.const,row (f.terms.map Term.cells)]]) (b:=true) (len:=fs.length) (s:=⟨h2,c6⟩) (by simp) hgch (by simp) (by decide) (by decide) (by decide) hokf (by simp; omega)
     rw [hcv] at hH2
     have hgcl:¬gl=gc:=Ne.symm hgc2
     simp [Form.av,Form.cells,bsI,an,hcv,hH2,hap,hgl6,hgcl]
     refine hdone _ (c6+1) a3 (fun k=>k=c6) (fun k hk=>by omega) (i9 _ _ hEc' (fun k hk hk2=>?_) (H.updB _ (fun k=>k=c6) c6 (fs++[f]) (by simp; omega) rfl hEc ?_ (by rw [hfsl]; exact af) (fun k hk hkl hkc=>?_))) ?_ (by omega) (by omega) fun k hk hkc hkg=>?_
     ·have hkl:k≠gl:=fun e=>hk2 (e▸H.mem)
      have hk6:k≠c6:=fun e=>hEc' k e hk
      have hkg2:k≠gc:=fun e=>hk2 (e▸hgc1)
      show upd (upd (upd h2 gc _) c6 _) gl _ k=_
      rw [ad hkl,ad hk6,ad hkg2,hfr2 k (hF k hk).2]
     ·show upd (upd (upd h2 gc _) c6 _) gl _ c6=_
      rw [ad (Ne.symm hgl6),af,hfs]
     ·have hk6:k≠c6:=fun e=>hEc k e hk
      have hkg2:k≠gc:=fun e=>by subst e; exact hkc _ hcv
      show upd (upd (upd h2 gc _) c6 _) gl _ k=_
      rw [ad hkl,ad hk6,ad hkg2,t4 k (hF2' k hk)]
     ·show SM (upd (upd (upd h2 gc _) c6 _) gl _) g L a3
      unfold SM; rw [ad (Ne.symm hglg),ad hg6,ad (Ne.symm hgcg)]; exact t3
     ·have hkl:k≠gl:=fun e=>hk (e▸hglF)
      have hkg2:k≠gc:=fun e=>hk (e▸i1 gc hgc1)
      show upd (upd (upd h2 gc _) c6 _) gl _ k=_
      rw [ad hkl,ad (by omega),ad hkg2,hfr2 k hkg]
   simp [f0,f1,f2,f3,h4]
   refine ACalls.draw (mg L a3 1 6 g h2 c2 (by omega) (by omega) (by omega) (by omega) t3 (by omega) (by omega) hL (by omega)) fun v h3 c3 a4 hv hc3 u1 u2 u3 u4=>?_
   obtain ⟨o1,rfl⟩:=hv
   simp
   refine ACalls.draw (mg L a4 0 1000002 g h3 c3 (by omega) (by omega) (by omega) (by omega) u3 (by omega) (by omega) hL (by omega)) fun v h5 c5 a5 hv hc5 w1 w2 w3 w4=>?_
   obtain ⟨o2,rfl⟩:=hv
   simp [bsI,an]
   refine ACalls.draw (R:=fun v=>∃ k,v=.str k∧k∈([⟨#[]⟩,⟨#[97]⟩]:List ByteArray)) (ep [⟨#[]⟩,⟨#[97]⟩] L a5 g h5 c5 (by simp) (by simp) w3 (by omega) (by omega) hL (by omega)) fun v h7 c7 a7 hv hc7 x1 x2 x3 x4=>?_
   obtain ⟨nm,rfl,_⟩:=hv
   have hH7:=(x4 gl hglg).trans ((w4 gl hglg).trans ((u4 gl hglg).trans hH2))
   have hexl:=H.exl
   simp [hH7,aI,hexl]
   refine hdoneA _ _ a7 (H.updA _ kind name lo array [.int o1,.int o2,.int 0,.nil,.str nm,.nil,.nil] [] (.mk o1 o2 ⟨0,[]⟩ nm [] []) (.inl rfl) (.inr ⟨by simp [Expr.cells_mk,aQ],rfl⟩) (by simp [hexl]) fun k hk hkl=>?_) ?_ (by omega) (by omega) fun k hk hkg=>?_
   ·show upd h7 gl _ k=_
    rw [ad hkl,x4 k (hF2' k hk),w4 k (hF2' k hk),u4 k (hF2' k hk),t4 k (hF2' k hk)]
   ·show SM (upd h7 gl _) g L a7
    unfold SM; rw [ad (Ne.symm hglg)]; exact x3
   ·show upd h7 gl _ k=_
    rw [ad hk,x4 k hkg,w4 k hkg,u4 k hkg,hfr2 k hkg]
 simp [e0,e1,e2]
 refine ACalls.quiet (R:=fun av=>∃ f:Wb.Form,av=f.av) (bw 0 [] (by simp) (by simp) ⟨h1,c1⟩) fun w c2 hw hc2=>?_
 obtain ⟨f1,rfl⟩:=hw
 simp
 refine ACalls.pure (dC f1 1) fun c3 hc3=>?_
 simp [bsI,an,Bound.av,Bound.cells]
 refine ACalls.draw (R:=fun v=>∃ k,v=.int k∧k∈[2,300,1000000]) (bS [2,300,1000000] L a1 g h1 c3 (by simp) (by simp) q3 (by omega) (by omega) hL (by omega)) fun v h4 c4 a4 hv hc4 t1 t2 t3 t4=>?_
 obtain ⟨pk,rfl,_⟩:=hv
 simp
 refine ACalls.quiet (R:=fun av=>∃ f:Wb.Form,av=f.av) (bw pk [] (by simp) (by simp) ⟨h4,c4⟩) fun w c5 hw hc5=>?_
 obtain ⟨f2,rfl⟩:=hw
 simp
 refine ACalls.pure (dC f2 1) fun c6 hc6=>?_
 have hp4:=(t4 cp (Ne.symm hgcp)).trans hp1
 have hcp6:¬cp=c6:=by omega
 simp [bsI,an,Bound.av,Bound.cells,aI,hp4,hcp6]
 have hg6:¬g=c6:=by omega
 have h6g:¬c6=g:=by omega
 refine ACalls.draw (R:=fun v=>∃ k,v=.int k∧k∈[1,1000]) (bS [1,1000] L a4 g _ _ (by simp) (by simp) (by unfold SM; rw [ad hg6]; exact t3) (by omega) (by omega) hL (by omega)) fun v h7 c7 a7 hv hc7 u1 u2 u3 u4=>?_
 obtain ⟨pk2,rfl,hpk2⟩:=hv
 have hpk0:pk2≠0:=by simp at hpk2; omega
 have hp7:h7 cp=some (.row 2 [[.row ga 2 0 3,x]] .live none):=by rw [u4 cp (Ne.symm hgcp),ad hcp6]; exact hp4
 have hx7:=(u4 c6 h6g).trans af
 simp [hp7,bsI,an,aI]
 refine ACalls.quiet (R:=fun av=>∃ f:Wb.Form,av=f.av) (bw 0 [⟨⟨#[105]⟩,pk2⟩] (by simp) (by simp [hpk0]) ⟨h7,c7⟩) fun w c8 hw hc8=>?_
 obtain ⟨f3,rfl⟩:=hw
 simp [hp7]
 refine ACalls.pure (dC f3 1) fun c9 hc9=>?_
 simp [bsI,an,Bound.av,Bound.cells,hp7]
 refine ACalls.quiet (R:=fun av=>∃ f:Wb.Form,av=f.av) (bw 900 [] (by simp) (by simp) ⟨h7,c9⟩) fun w c10 hw hc10=>?_
 obtain ⟨f4,rfl⟩:=hw
 simp [hp7]
 refine ACalls.pure (dC f4 1) fun c11 hc11=>?_
 have h611:¬c6=c11:=by omega
 have hcp11:¬cp=c11:=by omega
 have hcp12:¬cp=c11+1:=by omega
 have hc11:c0≤c6∧c6+1≤c11:=by omega
 have hfin:∀ h',h' cp=some (.row 2 [[.row ga 2 0 3,.row (c11+1) 15 0 1]] .live none)→(∀ k,k≠cp→h' k=upd (upd (upd (upd h7 c11 (some (.row 15 [[.int 1,.str ⟨#[106]⟩,.sl [[.int f3.const,row (f3.terms.map Term.cells),.int 1]] true,.sl [[.int f4.const,row (f4.terms.map Term.cells),.int 1]] true,.nil,x,.str ⟨#[]⟩,.nil,.int 0,.int 0,.int 0,.nil,.str ⟨#[]⟩,.nil,.nil]] .live none))) c6 (some (.row 15 [[.int 1,.str ⟨#[105]⟩,.sl [[.int f1.const,row (f1.terms.map Term.cells),.int 1]] true,.sl [[.int f2.const,row (f2.terms.map Term.cells),.int 1]] true,.nil,.row c11 15 0 1,.str ⟨#[]⟩,.nil,.int 0,.int 0,.int 0,.nil,.str ⟨#[]⟩,.nil,.nil]] .live none))) (c11+1) (some (.row 15 [[.int 1,.str ⟨#[105]⟩,.sl [[.int f1.const,row (f1.terms.map Term.cells),.int 1]] true,.sl [[.int f2.const,row (f2.terms.map Term.cells),.int 1]] true,.nil,.row c11 15 0 1,.str ⟨#[]⟩,.nil,.int 0,.int 0,.int 0,.nil,.str ⟨#[]⟩,.nil,.nil]] .live none))) cp none k)→mS L g h0 c0 cp ga F n a h' (c11+1+1):=by
  intro h' hc1' hc2'
  have e1:h' c11=some (.row 15 [[.int 1,.str ⟨#[106]⟩,.sl [[.int f3.const,row (f3.terms.map Term.cells),.int 1]] true,.sl [[.int f4.const,row (f4.terms.map Term.cells),.int 1]] true,.nil,x,.str ⟨#[]⟩,.nil,.int 0,.int 0,.int 0,.nil,.str ⟨#[]⟩,.nil,.nil]] .live none):=by
   rw [hc2' _ (Ne.symm hcp11),ad (Ne.symm hcp11),ad (by omega),ad (Ne.symm h611),af]
  have e2:h' (c11+1)=some (.row 15 [[.int 1,.str ⟨#[105]⟩,.sl [[.int f1.const,row (f1.terms.map Term.cells),.int 1]] true,.sl [[.int f2.const,row (f2.terms.map Term.cells),.int 1]] true,.nil,.row c11 15 0 1,.str ⟨#[]⟩,.nil,.int 0,.int 0,.int 0,.nil,.str ⟨#[]⟩,.nil,.nil]] .live none):=by
   rw [hc2' _ (Ne.symm hcp12),ad (Ne.symm hcp12),af]
  have e3:∀ k,k<c0→k≠cp→h' k=h7 k:=fun k hk hkc=>by
   rw [hc2' _ hkc,ad hkc,ad (by omega),ad (by omega),ad (by omega)]
  have e4:∀ k,k<c0→k≠cp→k≠g→h' k=h1 k:=fun k hk hkc hkg=>by rw [e3 k hk hkc,u4 k hkg,ad (by omega),t4 k hkg]
  have hbx:BT 3 h' F x n:=(hbt1.more (by omega)).frame fun k hk=>e4 k (hF k hk).1 (fun e=>p6 (e▸hk)) (hF k hk).2
  obtain ⟨es,So,St,y1,y2,y3,y4,y5⟩:=hbx
  have tj:Tr 3 h' F [[.int 1,.str ⟨#[106]⟩,.sl [[.int f3.const,row (f3.terms.map Term.cells),.int 1]] true,.sl [[.int f4.const,row (f4.terms.map Term.cells),.int 1]] true,.nil,x,.str ⟨#[]⟩,.nil,.int 0,.int 0,.int 0,.nil,.str ⟨#[]⟩,.nil,.nil]] (1+n+0):=
   Tr.cons F So St (fun _=>False) 1 _ _ _ .nil x _ .nil _ [⟨f3,1⟩] [⟨f4,1⟩] [] [] (.mk 0 0 ⟨0,[]⟩ ⟨#[]⟩ [] []) es [] n 0 (by simp [Bound.cells]) (by simp [Bound.cells]) (by rfl) (by simp [Expr.cells_mk,aQ]) ⟨rfl,rfl,rfl,rfl,by simp⟩ (.inl rfl) y1 y2 (.nil _) y3 y4 (fun _ h=>h.elim) y5 (fun _ _ h=>h) (fun _ _ h=>h)
  have tx:Tr 3 h' (fun k=>F k∨k=c11) [[.int 1,.str ⟨#[105]⟩,.sl [[.int f1.const,row (f1.terms.map Term.cells),.int 1]] true,.sl [[.int f2.const,row (f2.terms.map Term.cells),.int 1]] true,.nil,.row c11 15 0 1,.str ⟨#[]⟩,.nil,.int 0,.int 0,.int 0,.nil,.str ⟨#[]⟩,.nil,.nil]] (1+(1+n+0)+0):=
   Tr.cons _ (fun k=>k=c11) F (fun _=>False) 1 _ _ _ .nil (.row c11 15 0 1) _ .nil _ [⟨f1,1⟩] [⟨f2,1⟩] [] [] (.mk 0 0 ⟨0,[]⟩ ⟨#[]⟩ [] []) _ [] _ 0 (by simp [Bound.cells]) (by simp [Bound.cells]) (by rfl) (by simp [Expr.cells_mk,aQ]) ⟨rfl,rfl,rfl,rfl,by simp⟩ (.inl rfl) (.inr ⟨c11,rfl,rfl,e1⟩) tj (.nil _) (fun _ h=>.inr h) (fun _ h=>.inl h) (fun _ h=>h.elim) (fun k h1 h2=>by have:=hF k h2; omega) (fun _ _ h=>h) (fun _ _ h=>h)
  refine ⟨_,fun k=>(F k∨k=c11)∨k=c11+1,.row (c11+1) 15 0 1,1+(1+n+0)+0,a7,⟨hc1',⟨b0,b1,b2,s0,s1,s2,z0,z1,z2,rfl,(e4 ga hga (Ne.symm p5) (Ne.symm hgga)).trans ha1,r2,r3,r4,r5,r6,r7⟩,p3,⟨_,fun k=>k=c11+1,_,.inr ⟨c11+1,rfl,rfl,e2⟩,tx,fun k hk=>.inr hk,fun k hk=>.inl hk,fun k hk hk2=>?_⟩,p5,?_,?_⟩,by omega,?_,?_,by omega,by omega,?_⟩
  ·rcases hk2 with hk2 | hk2
   ·have:=hF k hk2; omega
   ·omega
  ·rintro ((hk | hk) | hk)
   ·exact p6 hk
   ·omega
   ·omega
  ·rintro ((hk | hk) | hk)
   ·exact p7 hk
   ·omega
   ·omega
  ·rintro k ((hk | hk) | hk)
   ·exact .inl hk
   ·exact .inr (by omega)
   ·exact .inr (by omega)
  ·unfold SM; rw [e3 g hg hgcp]; exact u3
  ·intro k hk hkg hkp hka hkF
   rw [e4 k hk hkp hkg,q4 k hkg]
 have hxs:(∃ b,x=.sl [] b)∨∃ gx lx,x=.row gx 15 0 lx:=by
  obtain ⟨es,So,St,hb,_⟩:=p4
  rcases hb with ⟨b,e,_⟩ | ⟨gx,_,e,_⟩
  ·exact .inl ⟨b,e⟩
  ·exact .inr ⟨gx,_,e⟩
 rcases hxs with ⟨b,hxs⟩ | ⟨gx,lx,hxs⟩
 all_goals
  rw [hxs] at hp7 hfin
  simp [bsI,an,aI,Bound.av,Bound.cells,hp7,hx7,h611,hcp11,hcp12,hcp6,hxs]
  refine hfin _ (by simp [hp7]) fun k hk=>?_
  show upd _ cp _ k=_
  rw [ad hk,ad hk]
end Go.Proofs.YtjhogglgkjcacaaGreat
set_option maxRecDepth 20000
set_option maxHeartbeats 4000000
namespace Go.Proofs.YtjhogglgkjcacaaGreat
open Go.AM Go.Wb
theorem stC1 (L:List Int) (hL:L.length≤1048576) (g gn:Nat) (hgn:g≠gn):StC L g gn 4 16 30 3615:=by
 have s1:=cJ L hL g gn hgn 1 (by omega) (by omega) 1 0 0 (by omega) (by omega) (by omega) (fun h=>by omega)
 have s2:=cJ L hL g gn hgn 2 (by omega) (by omega) 2 2 241 (by omega) (by omega) (by omega) (fun _=>s1)
 have s3:=cJ L hL g gn hgn 3 (by omega) (by omega) 4 6 723 (by omega) (by omega) (by omega) (fun _=>s2)
 exact cJ L hL g gn hgn 4 (by omega) (by omega) 8 14 1687 (by omega) (by omega) (by omega) (fun _=>s3)
structure GenP (p:Wb.Prog):Prop where
 arrays:p.arrays.length=3
 small:SmallA p.arrays
 steps:aB p.steps≤32
theorem wC (L:List Int) (hL:L.length≤1048576) (a:Int) (g:Nat) (h0:Heap) (c0:Nat) (hs:SM h0 g L a) (ha:0≤a) (ha':a<100000000) (hg:g<c0) :
  ACalls Pg Fn6.n [.ptr g 0 0] ⟨h0,c0⟩ fun av s'=>(∃ p:Wb.Prog,av=p.av∧GenP p)∧∃ a',a≤a'∧a'≤a+4000∧SM s'.h g L a'∧∀ k,k<c0→k≠g→s'.h k=h0 k:=by
 refine ACalls.deep (fun k=>c0≤k) (R:=fun av s'=>∃ (A:List Wb.Array) (F:Nat→Prop) (x:AV) (n:Nat) (ga:Nat) (a':Int),av=.agg [.row ga 2 0 3,x]∧pv s'.h ga A∧SmallA A∧BT 3 s'.h F x n∧c0≤ga∧(∀ k,F k→c0≤k)∧n≤32∧a≤a'∧a'≤a+4000∧SM s'.h g L a'∧∀ k,k<c0→k≠g→s'.h k=h0 k) ?_ ?_
 ·refine Fn6.calls .keep ?_
  unfold Fn6.ac
  have e1:¬c0=c0+1:=by omega
  have e2:¬c0=c0+2:=by omega
  simp [bsI,an,aI]
  obtain ⟨h1,hh1⟩:∃ h1,h1=upd (upd (upd h0 c0 (some (.row 2 [[.nil,.nil]] .live none))) (c0+1) (some (.row 1 [[.int 0]] .live none))) (c0+1+1) (some (.row 2 [[.str ⟨#[97]⟩,.sl [[.int 12]] true],[.str ⟨#[98]⟩,.sl [[.int 12],[.int 12]] true],[.str ⟨#[99]⟩,.sl [[.int 2]] true]] .live none)):=⟨_,rfl⟩
  have q0:h1 c0=some (.row 2 [[.nil,.nil]] .live none):=by rw [hh1,ad (by omega),ad (by omega),af]
  have q1:h1 (c0+1)=some (.row 1 [[.int 0]] .live none):=by rw [hh1,ad (by omega),af]
  have q2:h1 (c0+2)=some (.row 2 [[.str ⟨#[97]⟩,.sl [[.int 12]] true],[.str ⟨#[98]⟩,.sl [[.int 12],[.int 12]] true],[.str ⟨#[99]⟩,.sl [[.int 2]] true]] .live none):=by rw [hh1,af]
  have q3:∀ k,k<c0→h1 k=h0 k:=fun k hk=>by rw [hh1,ad (by omega),ad (by omega),ad (by omega)]
  rw [←hh1]
  refine (stC1 L hL g (c0+1) (by omega) [] 2 0 a h1 (c0+1+1+1) (by simp) (by omega) (by omega) (by unfold SM; rw [q3 g hg]; exact hs) ha (by omega) q1 (by omega) (by omega) (by omega) (by omega)).mono ?_
  rintro av ⟨h2,c2⟩ hc2 ⟨es,gr,hes,rfl,m,n',a2,S,t1,t2,t3,t4,t5,t6,t7,t8,t9,t10,t11,t12,t13⟩
  simp only at hc2 t2 t3 t4 t5 t7 t10 t13
  have u0:=(t13 c0 (by omega) (by omega) (by omega)).trans q0
  have u2:=(t13 (c0+2) (by omega) (by omega) (by omega)).trans q2
  have u3:∀ k,k<c0→k≠g→h2 k=h0 k:=fun k hk hkg=>(t13 k (by omega) hkg (by omega)).trans (q3 k hk)
  have n0:¬c0=c2:=by omega
  have n0':¬c2=c0:=by omega
  have n2:¬c2=g:=by omega
  have n3:¬g=c2:=by omega
  simp [aI,n0]
  refine ACalls.draw (eu L a2 14 g _ _ (by omega) (by unfold SM; rw [ad n3]; exact t10) (by omega) (by omega) hL (by omega)) fun w h3 c3 a3 hw hc3 s1 s2 s3 s4=>?_
  obtain ⟨b,rfl⟩:=hw
  have v0:h3 c0=some (.row 2 [[.nil,.nil]] .live none):=by rw [s4 c0 (by omega),ad n0]; exact u0
  have v1:h3 c2=some (.row 2 [[.row (c0+1+1) 2 0 3,.row gr 15 0 es.length]] .live none):=by rw [s4 c2 n2,af]
  have v2:h3 (c0+2)=some (.row 2 [[.str ⟨#[97]⟩,.sl [[.int 12]] true],[.str ⟨#[98]⟩,.sl [[.int 12],[.int 12]] true],[.str ⟨#[99]⟩,.sl [[.int 2]] true]] .live none):=by rw [s4 _ (by omega),ad (by omega)]; exact u2
  have v3:h3 gr=some (.row 15 es .live none):=by rw [s4 _ (by omega),ad (by omega)]; exact t3
  have vb:BT 2 h3 (fun k=>S k∨k=gr) (.row gr 15 0 es.length) m:=⟨es,fun k=>k=gr,S,.inr ⟨gr,rfl,rfl,v3⟩,t4.frame fun k hk=>by have:=t5 k hk; rw [s4 _ (by omega),ad (by omega)],fun k hk=>.inr hk,fun k hk=>.inl hk,fun k h1 h2=>(t5 k h2).2.2 h1⟩
  have v4:∀ k,k<c0→k≠g→h3 k=h0 k:=fun k hk hkg=>by rw [s4 k hkg,ad (by omega)]; exact u3 k hk hkg
  have hA3:pv h3 (c0+2) [⟨⟨#[97]⟩,[12]⟩,⟨⟨#[98]⟩,[12,12]⟩,⟨⟨#[99]⟩,[2]⟩]:=⟨_,_,_,_,_,_,_,_,_,rfl,v2,rfl,rfl,rfl,rfl,rfl,rfl⟩
  have hS3:SmallA [⟨⟨#[97]⟩,[12]⟩,⟨⟨#[98]⟩,[12,12]⟩,⟨⟨#[99]⟩,[2]⟩]:=by
   intro x hx
   simp at hx
   rcases hx with rfl | rfl | rfl <;> simp
  cases b
  case false=>
   simp [v1,v0,n0']
   refine ⟨_,fun k=>S k∨k=gr,_,m,c0+2,⟨rfl,rfl⟩,?_,hS3,(vb.more (by omega)).frame fun k hk=>?_,by omega,fun k hk=>?_,by omega,a3,by omega,by omega,?_,fun k hk hkg=>?_⟩
   ·obtain ⟨k0,k1,k2,s0,s1,s2,z0,z1,z2,r0,r1,r⟩:=hA3
    exact ⟨k0,k1,k2,s0,s1,s2,z0,z1,z2,r0,by rw [ad (by omega)]; exact r1,r⟩
   ·rw [ad]
    rcases hk with hk | hk
    ·have:=t5 k hk; omega
    ·omega
   ·rcases hk with hk | hk
    ·have:=t5 k hk; omega
    ·omega
   ·unfold SM; rw [ad (by omega)]; exact s3
   ·rw [ad (by omega)]; exact v4 k hk hkg
  simp
  refine (vL L hL a3 g c2 (c0+2) _ (fun k=>S k∨k=gr) _ m (by omega) h3 c3 s3 (by omega) (by omega) (by omega) (by omega) (by omega) n3 (by omega) (fun k hk=>?_) ⟨v1,hA3,hS3,vb,by omega,fun hk=>?_,fun hk=>?_⟩).mono ?_
  ·rcases hk with hk | hk
   ·have:=t5 k hk; omega
   ·omega
  ·rcases hk with hk | hk
   ·have:=t5 _ hk; omega
   ·omega
  ·rcases hk with hk | hk
   ·have:=t5 _ hk; omega
   ·omega
  rintro av ⟨h4,c4⟩ hc4 ⟨A',F',x',n2',a4,⟨w1,w2,w3,w4,w5,w6,w7⟩,w8,w9,w10,w11,w12,w13⟩
  simp only at hc4 w1 w2 w4 w9 w10 w13
  have hg4:¬(S c0∨c0=gr):=fun hk=>by
   rcases hk with hk | hk
   ·have:=t5 _ hk; omega
   ·omega
  have x0:=(w13 c0 (by omega) (by omega) n0 (by omega) hg4).trans v0
  have hF'0:∀ k,F' k→c0<k:=fun k hk=>by
   rcases w9 k hk with (hk | hk) | hk
   ·have:=t5 _ hk; omega
   ·omega
   ·omega
  have hxc:(∃ b,x'=.sl [] b)∨∃ gx lx,x'=.row gx 15 0 lx:=by
   obtain ⟨es,So,St,hb,_⟩:=w4
   rcases hb with ⟨b,e,_⟩ | ⟨gx,_,e,_⟩
   ·exact .inl ⟨b,e⟩
   ·exact .inr ⟨gx,_,e⟩
  have hfin:∀ h5:Heap,(∀ k,k≠c0→h5 k=h4 k)→∃ (A:List Wb.Array) (F:Nat→Prop) (x:AV) (n:Nat) (ga:Nat) (a':Int),AV.agg [.row (c0+2) 2 0 3,x']=.agg [.row ga 2 0 3,x]∧pv h5 ga A∧SmallA A∧BT 3 h5 F x n∧c0≤ga∧(∀ k,F k→c0≤k)∧n≤32∧a≤a'∧a'≤a+4000∧SM h5 g L a'∧∀ k,k<c0→k≠g→h5 k=h0 k:=by
   intro h5 hh
   refine ⟨A',F',x',n2',c0+2,a4,rfl,?_,w3,w4.frame fun k hk=>hh k (by have:=hF'0 k hk; omega),by omega,fun k hk=>by have:=hF'0 k hk; omega,by omega,by omega,by omega,?_,fun k hk hkg=>?_⟩
   ·obtain ⟨k0,k1,k2,s0,s1,s2,z0,z1,z2,r0,r1,r⟩:=w2
    exact ⟨k0,k1,k2,s0,s1,s2,z0,z1,z2,r0,(hh _ (by omega)).trans r1,r⟩
   ·unfold SM; rw [hh g (by omega)]; exact w10
   ·rw [hh k (by omega),w13 k (by omega) hkg (by omega) (by omega) ?_]
    ·exact v4 k hk hkg
    ·intro hk'
     rcases hk' with hk' | hk'
     ·have:=t5 _ hk'; omega
     ·omega
  rcases hxc with ⟨b,hxc⟩ | ⟨gx,lx,hxc⟩
  all_goals
   subst hxc
   simp [w1,x0,n0']
   simpa using hfin _ fun k hk=>ad hk
 ·rintro av s' ⟨A,F,x,n,ga,a',rfl,hA,hsm,hb,hga,hF,hn,h1,h2,h3,h4⟩
  obtain ⟨es,So,St,b1,b2,b3,b4,b5⟩:=hb
  obtain ⟨l,l1,l2,l3⟩:=b2.frz (D:=fun k=>c0≤k) fun k hk=>hF k (b4 k hk)
  obtain ⟨k0,k1,k2,s0,s1,s2,z0,z1,z2,rfl,r1,r2,r3,r4,r5,r6,r7⟩:=hA
  refine ⟨(Wb.Prog.mk [⟨k0,z0⟩,⟨k1,z1⟩,⟨k2,z2⟩] l).av,?_,fun h'' hh=>⟨⟨_,rfl,rfl,hsm,by show aB l≤32; omega⟩,a',h1,h2,?_,fun k hk hkg=>?_⟩⟩
  ·refine .agg _ _ (by simp [Prog.av]) ?_
   intro j c y hc hy
   match j with
   | 0=>
    simp at hc hy; subst hc; subst hy
    refine .row ga 2 0 3 _ .live _ r1 (.inl rfl) hga (by simp) (by simp) ?_ ?_
    ·intro i e y he hy
     match i with
     | 0=>simp [Array.cells] at he hy; subst he; subst hy; rfl
     | 1=>simp [Array.cells] at he hy; subst he; subst hy; rfl
     | 2=>simp [Array.cells] at he hy; subst he; subst hy; rfl
     | i+3=>simp at hy
    ·intro i j e y c d he hy hc hd
     match i with
     | 0=>
      simp [Array.cells] at he hy; subst he; subst hy
      match j with
      | 0=>simp at hc hd; subst hc; subst hd; exact .leaf _
      | 1=>simp at hc hd; subst hc; subst hd; exact .of_norm r2
      | j+2=>simp at hc
     | 1=>
      simp [Array.cells] at he hy; subst he; subst hy
      match j with
      | 0=>simp at hc hd; subst hc; subst hd; exact .leaf _
      | 1=>simp at hc hd; subst hc; subst hd; exact .of_norm r3
      | j+2=>simp at hc
     | 2=>
      simp [Array.cells] at he hy; subst he; subst hy
      match j with
      | 0=>simp at hc hd; subst hc; subst hd; exact .leaf _
      | 1=>simp at hc hd; subst hc; subst hd; exact .of_norm r4
      | j+2=>simp at hc
     | i+3=>simp at hy
   | 1=>
    simp at hc hy; subst hc; subst hy
    have hl:(l.map Step.cells).length=es.length:=by simpa using l2
    rcases b1 with ⟨b,rfl,rfl⟩ | ⟨gs,g1,rfl,g2⟩
    ·have:l=[]:=List.length_eq_zero_iff.1 l2
     rw [this]; exact .of_norm rfl
    ·refine .row gs 15 0 es.length _ .live _ g2 (.inl rfl) (hF gs (b3 gs g1)) (by simp) hl ?_ ?_
     ·intro i e y he hy
      rw [Nat.zero_add] at he
      rw [←Step.list_map] at hy
      exact (l3 i e y he hy).1
     ·intro i j e y c d he hy hc hd
      rw [Nat.zero_add] at he
      rw [←Step.list_map] at hy
      exact (l3 i e y he hy).2 j c d hc hd
   | j+2=>simp at hc
  ·have:h'' g=s'.h g:=by
    rcases hh g with q | ⟨q,_⟩
    ·exact q
    ·omega
   show SM h'' g L a'
   unfold SM; rw [this]; exact h3
  ·have:h'' k=s'.h k:=by
    rcases hh k with q | ⟨q,_⟩
    ·exact q
    ·omega
   exact this.trans (h4 k hk hkg)
end Go.Proofs.YtjhogglgkjcacaaGreat
namespace Go.Proofs.YtjhogglgkjcacaaGreat
section
variable {α:Type} (lt:α→α→Bool)
variable (htr:∀ a b c:α,lt b a=false→lt c b=false→lt c a=false) (has:∀ a b:α,lt a b=true→lt b a=false)
include htr has
omit htr has
end
end Go.Proofs.YtjhogglgkjcacaaGreat
set_option maxRecDepth 20000
set_option maxHeartbeats 4000000
namespace Go.Proofs.YtjhogglgkjcacaaGreat
open Go.AM Go.Wb
end Go.Proofs.YtjhogglgkjcacaaGreat
set_option maxRecDepth 20000
set_option maxHeartbeats 4000000
namespace Go.Proofs.YtjhogglgkjcacaaGreat
open Go.AM Go.Wb
def mD (e:List AV):Nat:=match e with
 | [_,.row g _ _ _]=>g
 | _=>0
structure GLs (B:Nat) (h:Heap) (c0 c:Nat) (es:List (List AV)):Prop where
 el:∀ e∈es,∃ (key:ByteArray) (gv:Nat) (l:List Int),e=[.str key,.row gv 1 0 l.length]∧c0≤gv∧gv<c∧h gv=some (.row 1 (be l) .live none)∧l.length≤B
 nd:(es.map mD).Nodup
theorem GLs.ok {B:Nat} {h:Heap} {c0 c:Nat} {es:List (List AV)} (H:GLs B h c0 c es):∀ e∈es,aA 2 e=true:=fun e he=>by
 obtain ⟨key,gv,l,rfl,_⟩:=H.el e he; rfl
theorem GLs.frame {B:Nat} {h h':Heap} {c0 c c':Nat} {es:List (List AV)} (H:GLs B h c0 c es) (hc:c≤c') (hh:∀ e∈es,h' (mD e)=h (mD e)):GLs B h' c0 c' es:=
 ⟨fun e he=>by
  obtain ⟨key,gv,l,rfl,h1,h2,h3,h4⟩:=H.el e he
  exact ⟨key,gv,l,rfl,h1,by omega,(hh _ he).trans h3,h4⟩,H.nd⟩
theorem GLs.more {B B':Nat} {h:Heap} {c0 c:Nat} {es:List (List AV)} (H:GLs B h c0 c es) (hB:B≤B'):GLs B' h c0 c es:=
 ⟨fun e he=>by
  obtain ⟨key,gv,l,h0,h1,h2,h3,h4⟩:=H.el e he
  exact ⟨key,gv,l,h0,h1,h2,h3,by omega⟩,H.nd⟩
theorem GLs.inj {B:Nat} {h:Heap} {c0 c:Nat} {es:List (List AV)} (H:GLs B h c0 c es) {i j:Nat} (hi:i<es.length) (hj:j<es.length) (e:mD es[i]=mD es[j]):i=j:=by
 have:=List.pairwise_iff_getElem.1 H.nd
 rcases Nat.lt_trichotomy i j with h1 | h1 | h1
 ·have:=this i j (by simpa using hi) (by simpa using hj) h1
  simp at this; exact absurd e this
 ·exact h1
 ·have:=this j i (by simpa using hj) (by simpa using hi) h1
  simp at this; exact absurd e.symm this
end Go.Proofs.YtjhogglgkjcacaaGreat
set_option maxRecDepth 20000
set_option maxHeartbeats 4000000
namespace Go.Proofs.YtjhogglgkjcacaaGreat
open Go.AM Go.Wb
abbrev Env:=List (ByteArray×Int)
def iR (e:Env) (n:ByteArray):Int:=(cu e n).getD 0
def qS (φ:ByteArray→Int):List Wb.Term→Int→Int
 | [],n=>n
 | t::ts,n=>qS φ ts (n+t.coef*φ t.name)
def fm (φ:ByteArray→Int) (f:Wb.Form):Int:=qS φ f.terms f.const
structure OkForm (f:Wb.Form):Prop where
 const:-1000000≤f.const∧f.const≤1000000
 len:f.terms.length≤12
 coef:∀ t∈f.terms,-1000≤t.coef∧t.coef≤1000
def fO (b:Wb.Bound):Prop:=OkForm b.form∧1≤b.div∧b.div≤1000
theorem jd:∀ {l:List Wb.Term} {last:ByteArray},bp last l=0→∀ t∈l,-1000≤t.coef∧t.coef≤1000
 | [],last,_=>by simp
 | t::ts,last,h=>by
  simp only [bp] at h
  split at h
  ·cases h
  ·split at h
   ·cases h
   ·rename_i h2
    split at h
    ·cases h
    ·intro x hx
     rcases List.mem_cons.1 hx with rfl | hx
     ·exact Classical.byContradiction fun h3=>h2 (.inr h3)
     ·exact jd h x hx
theorem ej {f:Wb.Form} (h:aL f=0):OkForm f:=by
 simp only [aL] at h
 split at h
 ·cases h
 ·rename_i h1
  split at h
  ·cases h
  ·rename_i h2
   exact ⟨Classical.byContradiction h1,by omega,jd h⟩
theorem kI {f:Wb.Form} {L:List ByteArray} (h:bP f L=0):OkForm f:=by
 simp only [bP] at h
 split at h
 ·exact ej ‹_›
 ·exact absurd h ‹_›
theorem jQ {L:List ByteArray}:∀ {l:List Wb.Form},bH L l=0→∀ f∈l,OkForm f
 | [],_=>by simp
 | f::fs,h=>by
  simp only [bH] at h
  split at h
  ·intro x hx
   rcases List.mem_cons.1 hx with rfl | hx
   ·exact kI ‹_›
   ·exact jQ h x hx
  ·exact absurd h ‹_›
theorem lJ {L:List ByteArray}:∀ {l:List Wb.Bound},bv L l=0→∀ b∈l,fO b
 | [],_=>by simp
 | b::bs,h=>by
  simp only [bv] at h
  split at h
  ·split at h
   ·intro x hx
    rcases List.mem_cons.1 hx with rfl | hx
    ·exact ⟨kI ‹_›,‹_›⟩
    ·exact lJ h x hx
   ·cases h
  ·exact absurd h ‹_›
def mxI (a b:Int):Int:=if a<b then b else a
def mnI (a b:Int):Int:=if b<a then b else a
def rT (φ:ByteArray→Int):List Wb.Bound→Int→Int
 | [],n=>n
 | b::bs,n=>rT φ bs (mxI n (upI (fm φ b.form) b.div))
def vt (φ:ByteArray→Int):List Wb.Bound→Int
 | []=>0
 | b::bs=>rT φ bs (upI (fm φ b.form) b.div)
def qp (φ:ByteArray→Int):List Wb.Bound→Int→Int
 | [],n=>n
 | b::bs,n=>qp φ bs (mnI n (fm φ b.form / b.div))
def wM (φ:ByteArray→Int):List Wb.Bound→Int
 | []=>0
 | b::bs=>qp φ bs (fm φ b.form / b.div)
theorem oP {a d:Int} (hd:1≤d) (B:Int) (ha:-B≤a∧a≤B):-B≤a / d∧a / d≤B:=by
 have h:=Int.natAbs_ediv_le_natAbs a d
 omega
theorem qU {a d:Int} (hd:1≤d) (B:Int) (ha:-B≤a∧a≤B):-B≤upI a d∧upI a d≤B:=by
 have:=oP (a:=-a) hd B (by omega)
 unfold upI
 omega
def ek (A:List Wb.Array) (key:ByteArray) (subs:List Wb.Form):Prop:=∃ (i:Nat) (a:Wb.Array),A[i]?=some a∧bX A key=i∧a.key=key∧a.sizes.length=subs.length∧∀ f∈subs,OkForm f
mutual
def dM (A:List Wb.Array):Wb.Expr→Prop
 | .mk op n form array subs args=>(op=1∧args=[]∧0≤n∧n≤1000002)∨(op=2∧args=[]∧OkForm form)∨(op=3∧args=[]∧ek A array subs)∨(4≤op∧op≤6∧args.length=2∧fW A args)
def fW (A:List Wb.Array):List Wb.Expr→Prop
 | []=>True
 | e::es=>dM A e∧fW A es
end
mutual
def cy:Wb.Expr→Nat
 | .mk op _ _ _ _ args=>if op=3 then 1 else bQ args
def bQ:List Wb.Expr→Nat
 | []=>0
 | e::es=>cy e+bQ es
end
mutual
def nG (A:List Wb.Array) (L:List ByteArray):Wb.Step→Prop
 | .mk kind name low high conds body array subs expr=>
  (kind=1∧inL name L=false∧low≠[]∧high≠[]∧(∀ b∈low,fO b)∧(∀ b∈high,fO b)∧fu A (L++[name]) body) ∨
  (kind=2∧(∀ f∈conds,OkForm f)∧fu A L body) ∨
  (kind=3∧body=[]∧ek A array subs∧dM A expr∧cy expr≤4096)
def fu (A:List Wb.Array) (L:List ByteArray):List Wb.Step→Prop
 | []=>True
 | s::ss=>nG A L s∧fu A L ss
end
theorem kA {A:List Wb.Array} {key:ByteArray} {subs:List Wb.Form} {L:List ByteArray} (h:bF A key subs L=0):ek A key subs:=by
 simp only [bF] at h
 split at h
 ·cases h
 ·rename_i h1
  split at h
  ·cases h
  ·rename_i h2
   obtain ⟨i,a,hi,h3,h4,h5,h6⟩:=iu h1
   exact ⟨i,a,by rw [List.getElem?_eq_getElem hi,h4],h3,h5,by rw [←h6]; exact Classical.byContradiction h2,jQ h⟩
mutual
theorem kH {A:List Wb.Array} {L:List ByteArray}:∀ {e:Wb.Expr} {d:Int},aE A L d e=0→dM A e
 | .mk op n form array subs args,d,h=>by
  simp only [aE] at h
  split at h
  ·cases h
  ·split at h
   ·cases h
   ·rename_i h1
    split at h
    ·cases h
    ·rename_i h2
     have h2:aN op n form array subs args=true:=by simpa using h2
     split at h
     ·cases h
     ·rename_i h3
      split at h
      ·rename_i h4
       exact .inr (.inl ⟨h4,cE h2 (.inr (.inl h4)),kI h⟩)
      ·rename_i h4
       split at h
       ·rename_i h5
        exact .inr (.inr (.inl ⟨h5,cE h2 (.inr (.inr h5)),kA h⟩))
       ·rename_i h5
        by_cases h6:op=1
        ·exact .inl ⟨h6,cE h2 (.inl h6),by omega⟩
        ·refine .inr (.inr (.inr ⟨by omega,by omega,?_,kh h⟩))
         simp [aN,h4,h5,h6] at h2
         omega
theorem kh {A:List Wb.Array} {L:List ByteArray}:∀ {l:List Wb.Expr} {d:Int},aY A L d l=0→fW A l
 | [],_,_=>trivial
 | e::es,d,h=>by
  simp only [aY] at h
  split at h
  ·exact ⟨kH ‹_›,kh h⟩
  ·exact absurd h ‹_›
end
mutual
theorem ji {A:List Wb.Array} {L:List ByteArray}:∀ {e:Wb.Expr} {d:Int} {k:Nat},aE A L d e=0→12≤d+k→cy e≤2 ^ k
 | .mk op n form array subs args,d,k,h,hk=>by
  simp only [aE] at h
  split at h
  ·cases h
  ·rename_i hd
   split at h
   ·cases h
   ·split at h
    ·cases h
    ·rename_i h2
     have h2:aN op n form array subs args=true:=by simpa using h2
     split at h
     ·cases h
     ·split at h
      ·rename_i h4
       have:=cE h2 (.inr (.inl h4))
       subst this
       simp [cy,h4,bQ]
      ·rename_i h4
       split at h
       ·rename_i h5
        simp only [cy,h5,if_true]
        exact Nat.one_le_two_pow
       ·rename_i h5
        simp only [cy,h5,if_false]
        by_cases h6:op=1
        ·have:=cE h2 (.inl h6)
         subst this
         simp [bQ]
        ·simp [aN,h4,h5,h6] at h2
         have hl:args.length=2:=by omega
         match args,hl,h with
         | [a,b],_,h=>
          simp only [aY] at h
          split at h
          ·rename_i ha
           split at h
           ·rename_i hb
            cases k with
            | zero=>
             exfalso
             have:(12:Int)<d+1:=by omega
             obtain ⟨_,_,_,_,_,_⟩:=a
             simp [aE,this] at ha
            | succ k=>
             have h1:=ji ha (k:=k) (by omega)
             have h2:=ji hb (k:=k) (by omega)
             simp only [bQ]
             rw [Nat.pow_succ]; omega
           ·exact absurd h ‹_›
          ·exact absurd h ‹_›
end
theorem mZ {A:List Wb.Array} {L:List ByteArray} {e:Wb.Expr} {d:Int} (h:aE A L d e=0) (hd:1≤d):cy e≤4096:=by
 have:=ji h (k:=12) (by omega)
 simpa using this
mutual
theorem qP {A:List Wb.Array}:∀ {s:Wb.Step} {L N:List ByteArray} {d:Int},(aD A L d N s).1=0→nG A L s
 | .mk kind name low high conds body array subs expr,L,N,d,h=>by
  simp only [aD] at h
  split at h
  ·cases h
  ·split at h
   ·cases h
   ·rename_i h1
    split at h
    ·cases h
    ·rename_i h2
     split at h
     ·cases h
     ·split at h
      ·rename_i h3
       split at h
       ·rename_i h4
        simp only [bu] at h4
        split at h4
        ·cases h4
        ·rename_i h5
         split at h4
         ·cases h4
         ·rename_i h6
          split at h4
          ·cases h4
          ·have hb:=lJ h4
           refine .inl ⟨h3,by simpa using fun e=>h5 (.inl e),fun e=>h6 (.inl e),fun e=>h6 (.inr e),fun b hm=>hb b (List.mem_append_left _ hm),fun b hm=>hb b (List.mem_append_right _ hm),e8 h⟩
       ·exact absurd h ‹_›
      ·rename_i h3
       split at h
       ·rename_i h4
        split at h
        ·rename_i h5
         simp only [bI] at h5
         split at h5
         ·cases h5
         ·split at h5
          ·cases h5
          ·exact .inr (.inl ⟨h4,jQ h5,e8 h⟩)
        ·exact absurd h ‹_›
       ·rename_i h4
        have h2':bD kind name low high conds body array subs expr=true:=by simpa using h2
        simp [bD,h3,h4] at h2'
        simp only [cj] at h
        split at h
        ·cases h
        ·split at h
         ·exact .inr (.inr ⟨by omega,h2'.2,kA ‹_›,kH h,mZ h (by omega)⟩)
         ·exact absurd h ‹_›
theorem e8 {A:List Wb.Array}:∀ {l:List Wb.Step} {L N:List ByteArray} {d:Int},(aC A L d N l).1=0→fu A L l
 | [],_,_,_,_=>trivial
 | s::ss,L,N,d,h=>by
  simp only [aC] at h
  split at h
  ·exact ⟨qP ‹_›,e8 h⟩
  ·exact absurd h ‹_›
end
def iA (l:List Int):Int:=l.foldl (·*·) 1
structure OkArray (a:Wb.Array):Prop where
 name:bh a.key=true
 some_:a.sizes≠[]
 len:a.sizes.length≤4
 sizes:∀ n∈a.sizes,1≤n∧n≤20000
 cells:iA a.sizes≤20000
theorem m9:∀ {l:List Int} {n:Int},(∀ s∈l,1≤s∧s≤20000)→1≤n→n≤l.foldl (·*·) n
 | [],n,_,hn=>Int.le_refl _
 | s::ss,n,h,hn=>by
  rw [List.foldl_cons]
  have h1:n≤n*s:=by have:=Int.mul_le_mul_of_nonneg_left (h s (List.mem_cons_self)).1 (show 0≤n by omega); simpa using this
  exact Int.le_trans h1 (m9 (fun x hx=>h x (List.mem_cons_of_mem _ hx)) (by omega))
theorem kV:∀ {l:List Int} {n m:Int},cA l n=some m→1≤n→n≤20001→(∀ s∈l,1≤s∧s≤20000)∧(m≤20000→l.foldl (·*·) n≤m)
 | [],n,m,h,_,_=>by
  simp only [cA,Option.some.injEq] at h
  subst h
  exact ⟨by simp,fun _=>Int.le_refl _⟩
 | s::ss,n,m,h,h1,h1'=>by
  simp only [cA] at h
  split at h
  ·rename_i hs
   have hp:1≤n*s:=by have:=Int.mul_le_mul h1 hs.1 (by omega) (by omega); simpa using this
   by_cases h2:20001<n*s
   ·rw [if_pos h2] at h
    obtain ⟨h3,h4⟩:=kV h (by omega) (by omega)
    refine ⟨fun x hx=>?_,fun hm=>?_⟩
    ·rcases List.mem_cons.1 hx with rfl | hx
     ·exact hs
     ·exact h3 x hx
    ·have:=m9 (n:=20001) h3 (by omega)
     have:=h4 hm
     omega
   ·rw [if_neg h2] at h
    obtain ⟨h3,h4⟩:=kV h hp (by omega)
    refine ⟨fun x hx=>?_,h4⟩
    rcases List.mem_cons.1 hx with rfl | hx
    ·exact hs
    ·exact h3 x hx
  ·cases h
theorem jt:∀ {l before:List Wb.Array} {cells:Int},bJ before l cells=0→0≤cells→cells≤20000→(∀ a∈l,OkArray a)∧(∀ (i:Nat) (a b:Wb.Array),l[i]?=some a→b∈before++l.take i→b.key≠a.key)
 | [],_,_,_,_,_=>⟨by simp,by simp⟩
 | a::l,before,cells,h,hc,hc2=>by
  simp only [bJ] at h
  split at h
  ·rename_i h0
   have h0':=h0
   simp only [aU] at h0
   split at h0
   ·cases h0
   ·rename_i h1
    split at h0
    ·cases h0
    ·rename_i h2
     split at h0
     ·cases h0
     ·rename_i h3
      split at h0
      ·cases h0
      ·rename_i h4
       cases hs:cA a.sizes 1 with
       | none=>rw [hs] at h0; cases h0
       | some n=>
        rw [hs] at h0
        simp only at h0
        split at h0
        ·cases h0
        ·rename_i h5
         have he:(aU a before cells).2=cells+n:=by simp [aU,h1,h2,h3,h4,hs,h5]
         have hn:=j5 hs (by omega)
         rw [he] at h
         obtain ⟨h6,h7⟩:=jt h (by omega) (by omega)
         obtain ⟨h8,h9⟩:=kV hs (by omega) (by omega)
         refine ⟨fun x hx=>?_,fun i x b hi hb=>?_⟩
         ·rcases List.mem_cons.1 hx with rfl | hx
          ·exact ⟨by simpa using h1,h3,by omega,h8,by have:=h9 (by omega); unfold iA; omega⟩
          ·exact h6 x hx
         ·cases i with
          | zero=>
           simp at hi hb
           subst hi
           intro e
           exact h2 (List.any_eq_true.2 ⟨b,hb,by simp [e]⟩)
          | succ i=>exact h7 i x b (by simpa using hi) (by simpa using hb)
  ·exact absurd h ‹_›
structure Right (p:Wb.Prog):Prop where
 arrays:∀ a∈p.arrays,OkArray a
 gV:∀ (i j:Nat) (a b:Wb.Array),p.arrays[i]?=some a→p.arrays[j]?=some b→j<i→b.key≠a.key
 steps:fu p.arrays [] p.steps
theorem mH {p:Wb.Prog} (h:aW p=0):Right p:=by
 simp only [aW] at h
 split at h
 ·cases h
 ·split at h
  ·rename_i h1
   obtain ⟨h2,h3⟩:=jt h1 (by omega) (by omega)
   split at h
   ·rename_i h4
    refine ⟨h2,fun i j a b hi hj hij=>h3 i a b hi ?_,e8 h4⟩
    rw [List.nil_append]
    exact List.mem_of_getElem? (show (p.arrays.take i)[j]?=some b by rw [List.getElem?_take_of_lt hij]; exact hj)
   ·exact absurd h ‹_›
  ·exact absurd h ‹_›
structure Inst where
 num:Nat
 step:Wb.Step
 env:Env
 way:List Int
structure RS where
 rounds:Int
 l:List Inst
mutual
def tD:Wb.Step→Nat
 | .mk kind _ _ _ _ body _ _ _=>(if kind=3 then 1 else 0)+vz body
def vz:List Wb.Step→Nat
 | []=>0
 | s::ss=>tD s+vz ss
end
def rS (f:Int→RS→Int×RS):Nat→Int→RS→Int×RS
 | 0,_,s=>(0,s)
 | k+1,v,s=>if ¬(-1000000≤v∧v≤1000000) then (1,s) else if 200000<s.rounds+1 then (12,{ s with rounds:=s.rounds+1 }) else
  if (f v { s with rounds:=s.rounds+1 }).1=0 then rS f k (v+1) (f v { s with rounds:=s.rounds+1 }).2 else f v { s with rounds:=s.rounds+1 }
mutual
def oD (num:Nat) (e:Env) (way:List Int):Wb.Step→RS→Int×RS
 | .mk kind name low high conds body array subs expr,s=>
  if kind=1 then rS (fun v s=>jX num (e++[(name,v)]) way 0 body s) (wM (iR e) high-vt (iR e) low+1).toNat (vt (iR e) low) s
  else if kind=2 then if conds.all (fun f=>decide (0≤fm (iR e) f))=true then jX num e way 0 body s else (0,s)
  else if s.l.length=50000 then (12,s) else (0,{ s with l:=s.l++[⟨num,.mk kind name low high conds body array subs expr,e,way⟩] })
def jX (num:Nat) (e:Env) (way:List Int) (i:Nat):List Wb.Step→RS→Int×RS
 | [],s=>(0,s)
 | x::xs,s=>if (oD num e (way++[(i:Int)]) x s).1=0 then jX (num+tD x) e way (i+1) xs (oD num e (way++[(i:Int)]) x s).2 else oD num e (way++[(i:Int)]) x s
end
def oC (p:Wb.Prog):Int×RS:=jX 0 [] [] 0 p.steps ⟨0,[]⟩
def sB (φ:ByteArray→Int):List Int→List Wb.Form→Int→Bool→Int×Bool
 | z::zs,f::fs,n,ok=>sB φ zs fs (IntKind.i64.wrap (IntKind.i64.wrap (n*z)+fm φ f)) (ok&&decide (0≤fm φ f∧fm φ f≤z-1))
 | _,_,n,ok=>(n,ok)
def nR (A:List Wb.Array) (φ:ByteArray→Int) (key:ByteArray) (subs:List Wb.Form):Wb.Spot×Bool:=(⟨key,(sB φ (jB A key) subs 0 true).1⟩,(sB φ (jB A key) subs 0 true).2)
mutual
def nK (A:List Wb.Array) (φ:ByteArray→Int):Wb.Expr→List Wb.Spot×Bool
 | .mk op n form array subs args=>if op=3 then ([(nR A φ array subs).1],(nR A φ array subs).2) else qE A φ args
def qE (A:List Wb.Array) (φ:ByteArray→Int):List Wb.Expr→List Wb.Spot×Bool
 | []=>([],true)
 | e::es=>((nK A φ e).1++(qE A φ es).1,(nK A φ e).2&&(qE A φ es).2)
end
theorem jj:∀ (a b:List Wb.Expr),bQ (a++b)=bQ a+bQ b
 | [],b=>by simp [bQ]
 | x::a,b=>by simp [bQ,jj a b]; omega
def Step.array:Wb.Step→ByteArray | .mk _ _ _ _ _ _ array _ _=>array
def Step.subs:Wb.Step→List Wb.Form | .mk _ _ _ _ _ _ _ subs _=>subs
def Step.expr:Wb.Step→Wb.Expr | .mk _ _ _ _ _ _ _ _ expr=>expr
def Step.name:Wb.Step→ByteArray | .mk _ name _ _ _ _ _ _ _=>name
def Step.body:Wb.Step→List Wb.Step | .mk _ _ _ _ _ body _ _ _=>body
def Step.kind:Wb.Step→Int | .mk kind _ _ _ _ _ _ _ _=>kind
def Inst.reads (A:List Wb.Array) (i:Inst):List Wb.Spot:=(nK A (iR i.env) (Step.expr i.step)).1
def Inst.sets (A:List Wb.Array) (i:Inst):Wb.Spot:=(nR A (iR i.env) (Step.array i.step) (Step.subs i.step)).1
def Inst.ok (A:List Wb.Array) (i:Inst):Bool:=(nK A (iR i.env) (Step.expr i.step)).2&&(nR A (iR i.env) (Step.array i.step) (Step.subs i.step)).2
end Go.Proofs.YtjhogglgkjcacaaGreat
set_option maxRecDepth 20000
set_option maxHeartbeats 4000000
namespace Go.Proofs.YtjhogglgkjcacaaGreat
open Go.AM Go.Wb
end Go.Proofs.YtjhogglgkjcacaaGreat
set_option maxRecDepth 20000
set_option maxHeartbeats 4000000
namespace Go.Proofs.YtjhogglgkjcacaaGreat
open Go.AM Go.Wb
def vk (h:Heap) (g:Nat) (e:Env):Prop:=∃ ver,h g=some (.map (kvs AV.str AV.int e) ver)
def uz (h:Heap) (g:Nat) (A:List Wb.Array) (S:List Wb.Step) (rounds:Int) (l:AV) (out:Bool) (fault:Int):Prop:=h g=some (.row 6 [[row (A.map Array.cells),row (S.map Step.cells),.int rounds,l,.bool out,.int fault]] .live none)
end Go.Proofs.YtjhogglgkjcacaaGreat
set_option maxRecDepth 20000
set_option maxHeartbeats 4000000
namespace Go.Proofs.YtjhogglgkjcacaaGreat
open Go.AM Go.Wb
@[simp] theorem _root_.Go.AM.finW_fz_re {P:Program} {d:Option Nat} {q:Nat×Option (Nat×Bool)×I} {re:List (Nat×Option (Nat×Bool)×I)} {r:List AO} {K:Slots→St→Prop} {sl:Slots} {v:AV} {s:St} :
  aO P d .fz (q::re) r K sl v s=@dg (fzI v s) ⟨fun v' s'=>(∀ x∈q::re,ed x sl s')∧aM P r K (put sl d v') s'⟩:=Eq.trans rfl rfl
def mO (A:List Wb.Array) (i:Inst) (ge:Nat):List AV:=
 [.str (Step.name i.step),row (be (i.env.map (·.2)))]++i.step.cells++[.map ge,row ((i.reads A).map Spot.cells),.str (i.sets A).array,.int (i.sets A).cell,row (be i.way)]
def UsesAt (h:Heap) (c:Nat) (A:List Wb.Array) (x:AV) (l:List Inst):Prop:=
 ∃ es,RowAt h 22 x es∧es.length=l.length∧∀ (k:Nat) (e:List AV) (i:Inst),es[k]?=some e→l[k]?=some i→∃ ge,ge<c∧vk h ge i.env∧e=mO A i ge
structure WInv (h:Heap) (c g:Nat) (A:List Wb.Array) (S:List Wb.Step) (lx:AV) (fault:Int) (s:RS):Prop where
 at_:uz h g A S s.rounds lx (s.l.any fun i=>!i.ok A) fault
 uses:UsesAt h c A lx s.l
 row:∀ k,aq lx k→k<c∧k≠g
 gc:g<c
 len:s.l.length≤50000
 rounds:0≤s.rounds∧s.rounds≤200001∧(fault=0→s.rounds≤200000)
theorem UsesAt.frame {h h':Heap} {c c':Nat} {A:List Wb.Array} {x:AV} {l:List Inst} (u:UsesAt h c A x l) (hc:c≤c') (hh:∀ k,(aq x k∨(k<c∧∃ kv ver,h k=some (.map kv ver)))→h' k=h k):UsesAt h' c' A x l:=by
 obtain ⟨es,h1,h2,h3⟩:=u
 refine ⟨es,h1.frame fun k hk=>hh k (.inl hk),h2,fun k e i he hi=>?_⟩
 obtain ⟨ge,g1,⟨ver,g2⟩,g3⟩:=h3 k e i he hi
 exact ⟨ge,by omega,⟨ver,(hh ge (.inr ⟨g1,_,_,g2⟩)).trans g2⟩,g3⟩
theorem WInv.frame {h h':Heap} {c c' g:Nat} {A:List Wb.Array} {S:List Wb.Step} {lx:AV} {fault:Int} {s:RS} (w:WInv h c g A S lx fault s) (hc:c≤c') (hh:∀ k,k<c→h' k=h k):WInv h' c' g A S lx fault s:=
 ⟨by unfold uz; rw [hh g w.gc]; exact w.at_,w.uses.frame hc fun k hk=>hh k (hk.elim (fun h=>(w.row k h).1) fun h=>h.1),fun k hk=>⟨by have:=w.row k hk; omega,(w.row k hk).2⟩,by have:=w.gc; omega,w.len,w.rounds⟩
theorem WInv.cell {h:Heap} {c g:Nat} {A:List Wb.Array} {S:List Wb.Step} {lx:AV} {fault:Int} {s:RS} (w:WInv h c g A S lx fault s):lx.cell=true:=by
 obtain ⟨es,h1,_⟩:=w.uses; exact h1.cell
structure WFp (c0 g:Nat) (lx lx':AV) (h0 h:Heap):Prop where
 same:∀ k,k<c0→k≠g→¬aq lx k→h k=h0 k
 rows:∀ k,aq lx' k→aq lx k∨c0≤k
theorem WFp.trans {c0 c1 g:Nat} {a b d:AV} {h0 h1 h2:Heap} (x:WFp c0 g a b h0 h1) (y:WFp c1 g b d h1 h2) (hc:c0≤c1):WFp c0 g a d h0 h2:=
 ⟨fun k hk hkg hka=>by
  rw [y.same k (by omega) hkg fun hb=>(x.rows k hb).elim hka fun h=>by omega]; exact x.same k hk hkg hka,
  fun k hk=>(y.rows k hk).elim (x.rows k) fun h=>.inr (by omega)⟩
theorem WFp.ext {c0 c1 g:Nat} {a b:AV} {h0 h1 h2:Heap} (x:WFp c0 g a b h0 h1) (hh:∀ k,k<c1→h2 k=h1 k) (hc:c0≤c1):WFp c0 g a b h0 h2:=
 ⟨fun k hk hkg hka=>by rw [hh k (by omega)]; exact x.same k hk hkg hka,x.rows⟩
theorem WFp.refl {c0 g:Nat} {a:AV} {h:Heap}:WFp c0 g a a h h:=⟨fun _ _ _ _=>rfl,fun _ h=>.inl h⟩
theorem WInv.set {h:Heap} {c g:Nat} {A:List Wb.Array} {S:List Wb.Step} {lx:AV} {fault:Int} {s:RS} (w:WInv h c g A S lx fault s) (r f:Int) (hr:0≤r∧r≤200001∧(f=0→r≤200000)) :
  WInv (upd h g (some (.row 6 [[.sl (A.map Array.cells) false,.sl (S.map Step.cells) false,.int r,lx,.bool (s.l.any fun i=>!i.ok A),.int f]] .live none))) c g A S lx f ⟨r,s.l⟩:=by
 have hat:=w.at_
 refine ⟨af,w.uses.frame (Nat.le_refl _) fun k hk=>ad ?_,w.row,w.gc,w.len,hr⟩
 rintro rfl
 rcases hk with hk | ⟨_,kv,ver,hk⟩
 ·exact (w.row k hk).2 rfl
 ·unfold uz at hat; rw [hk] at hat; cases hat
end Go.Proofs.YtjhogglgkjcacaaGreat
set_option maxRecDepth 20000
set_option maxHeartbeats 4000000
namespace Go.Proofs.YtjhogglgkjcacaaGreat
open Go.AM Go.Wb
def isLoop (s:Wb.Step):Bool:=decide (Step.kind s=1)
mutual
def cr (around:List Wb.Step):Wb.Step→List (Wb.Step×List Wb.Step)
 | .mk kind name low high conds body array subs expr=>(if kind=3 then [(.mk kind name low high conds body array subs expr,around.filter isLoop)] else [])++bG (around++[.mk kind name low high conds body array subs expr]) body
def bG (around:List Wb.Step):List Wb.Step→List (Wb.Step×List Wb.Step)
 | []=>[]
 | s::ss=>cr around s++bG around ss
end
theorem wd {x:ByteArray} {l:List ByteArray} (h:inL x l=false):x∉l:=by
 intro hx
 unfold inL at h
 have:=List.any_eq_false.1 h x hx
 simp at this
end Go.Proofs.YtjhogglgkjcacaaGreat
set_option maxRecDepth 20000
set_option maxHeartbeats 4000000
namespace Go.Proofs.YtjhogglgkjcacaaGreat
open Go.AM Go.Wb
end Go.Proofs.YtjhogglgkjcacaaGreat
set_option maxRecDepth 20000
set_option maxHeartbeats 4000000
namespace Go.Proofs.YtjhogglgkjcacaaGreat
open Go.AM Go.Wb
def SaysI (f:Nat) (a b:List AV) (h0:Heap) (c0:Nat) (φ:ByteArray→Int):Prop:=∀ x h c,Fr c0 h0 h c→ACalls Pg f (a++.str x::b) ⟨h,c⟩ fun r s'=>r=.int (φ x)∧s'.h=h
theorem SaysI.more {f:Nat} {a b:List AV} {h0 h1:Heap} {c0 c1:Nat} {φ:ByteArray→Int} (s:SaysI f a b h0 c0 φ) (hF:Fr c0 h0 h1 c1):SaysI f a b h1 c1 φ:=fun x h c h1=>s x h c (hF.trans h1)
theorem _root_.Go.AM.RowPre.at {h:Heap} {sz:Nat} {x:AV} {es:List (List AV)} (r:RowPre h sz x es) {i:Nat} (hi:i<es.length):∃ g all,x=.row g sz 0 es.length∧h g=some (.row sz all .live none)∧all[i]?=es[i]?:=by
 rcases r with ⟨_,rfl⟩ | ⟨g,full,rfl,hg⟩
 ·simp at hi
 ·exact ⟨g,es++full,rfl,hg,by rw [List.getElem?_append_left hi]⟩
structure NowAt (h:Heap) (c gr:Nat) (e:Env) (go:Nat) (nx:Int) (names now:AV):Prop where
 at_:h gr=some (.row 4 [[.ptr go 0 0,.int nx,names,now]] .live none)
 hnames:RowPre h 1 names (am (e.map (·.1)))
 hnow:RowPre h 1 now (be (e.map (·.2)))
 gr:gr<c
 nb:∀ k,aq names k→k<c
 wb:∀ k,aq now k→k<c
theorem NowAt.fr {h h':Heap} {c c' gr:Nat} {e:Env} {go:Nat} {nx:Int} {names now:AV} (n:NowAt h c gr e go nx names now) (hF:Fr c h h' c'):NowAt h' c' gr e go nx names now:=
 ⟨(hF.h gr n.gr).trans n.at_,n.hnames.frame fun k hk=>hF.h k (n.nb k hk),n.hnow.frame fun k hk=>hF.h k (n.wb k hk),by have:=n.gr; have:=hF.c; omega,fun k hk=>by have:=n.nb k hk; have:=hF.c; omega,fun k hk=>by have:=n.wb k hk; have:=hF.c; omega⟩
end Go.Proofs.YtjhogglgkjcacaaGreat
set_option maxRecDepth 20000
set_option maxHeartbeats 4000000
namespace Go.Proofs.YtjhogglgkjcacaaGreat
open Go.AM Go.Wb
theorem oS {α:Type} (p:α→Bool):∀ (l:List α) (i:Int),0≤i→(aK p l i = -1∧l.filter (fun x=>!p x)=l)∨∃ (k:Nat) (hk:k<l.length),aK p l i=i+k∧(l.take k).filter (fun x=>!p x)=l.take k∧p l[k]=true
 | [],i,_=>.inl ⟨rfl,rfl⟩
 | x::l,i,hi=>by
  unfold aK
  by_cases h:p x=true
  ·exact .inr ⟨0,by simp,by simp [h],by simp,by simpa using h⟩
  ·simp only [h]
   rcases oS p l (i+1) (by omega) with ⟨h1,h2⟩ | ⟨k,hk,h1,h2,h3⟩
   ·exact .inl ⟨by simpa using h1,by simp [h,h2]⟩
   ·refine .inr ⟨k+1,by simp; exact hk,?_,?_,by simpa using h3⟩
    ·simp; rw [h1]; omega
    ·simp [h,h2]
def vm (f:Nat) (p:Wb.Step→Bool):Prop:=∀ x:Wb.Step,aG Pg f [x.av] (.bool (p x))
theorem kU (x:Wb.Step):aA 15 x.cells=true:=by
 obtain ⟨_,_,_,_,_,_,_,_,⟨_,_,_,_,_,_⟩⟩:=x; rfl
theorem fI (x:Wb.Step):x.cells.length=15:=by
 obtain ⟨_,_,_,_,_,_,_,_,⟨_,_,_,_,_,_⟩⟩:=x; rfl
theorem iI (l:List Wb.Step) (f:Nat) (p:Wb.Step→Bool) (hp:vm f p) (h:Heap) (g c:Nat) (hg:h g=some (.row 15 (l.map Step.cells) .live none)) (hl:l.length≤68719476736) :
  ACalls Pg Fn307.n [.row g 15 0 l.length,.fn (.func f) [] []] ⟨h,c⟩ fun av s'=>av=.int (aK p l 0)∧s'.h=h:=by
 refine Fn307.calls .frz ?_
 unfold Fn307.ac
 simp
 refine bK 8 Fn307.W0 l (fun i r sl=>aK p l 0=aK p r i) (by rfl) (by rfl) ?_ ?_ ?_
 ·simp
 ·intro v c1 hv hc hI
  simp [hv,hI,aK]
 ·intro i x xs v c1 hi hx hl2 hv hc hI
  have hw:=ah (x:=(i:Int)+1) (by omega) (by omega)
  have hge:(l.map Step.cells)[i]?=some x.cells:=by simp [hi,hx]
  have h15:x.cells.take 15=x.cells:=List.take_of_length_le (by rw [fI]; omega)
  have hpx:=hp x
  rw [Step.av] at hpx
  simp [hv,hi,hg,hx,fI,h15]
  refine ACalls.pure hpx fun c2 hc2=>?_
  by_cases hpx:p x=true
  ·simp [hpx,hI,aK]
  ·simp [hpx,hv,hw,hI,aK]; omega
theorem lP {p:Wb.Step→Bool} {l:List Wb.Step} {j:Nat} (hj:j<l.length):(l.take (j+1)).filter p=(l.take j).filter p++if p l[j]=true then [l[j]] else []:=by
 rw [List.take_add_one,List.getElem?_eq_getElem hj,List.filter_append]
 cases h:p l[j] <;> simp [h]
theorem hY (l:List Wb.Step) (f:Nat) (p:Wb.Step→Bool) (hp:vm f p) (h0:Heap) (g c0:Nat) (hg:h0 g=some (.row 15 (l.map Step.cells) .live none)) (hgc:g<c0) (hl:l.length≤1000000) :
  ACalls Pg Fn240.n [.row g 15 0 l.length,.fn (.func f) [] []] ⟨h0,c0⟩ fun av s'=>∃ all,av=.row g 15 0 (l.filter fun x=>!p x).length∧s'.h g=some (.row 15 all .live none)∧all.take (l.filter fun x=>!p x).length=(l.filter fun x=>!p x).map Step.cells∧(l.filter fun x=>!p x).length≤all.length∧∀ k,k<c0→k≠g→s'.h k=h0 k:=by
 refine Fn240.calls .keep ?_
 unfold Fn240.ac
 simp
 refine ACalls.at (iI l f p hp h0 g c0 hg (by omega)) fun c1 hc1=>?_
 simp
 rcases oS p l 0 (Int.le_refl 0) with ⟨e1,e2⟩ | ⟨i,hi,e1,e2,e3⟩
 ·simp [e1]
  rw [e2]
  exact ⟨rfl,l.map Step.cells,hg,by rw [←List.length_map (f:=Step.cells),List.take_length],by simp⟩
 ·rw [Int.zero_add] at e1
  have hi1:¬(i:Int) = -1:=by omega
  have hw:=ah (x:=(i:Int)+1) (by omega) (by omega)
  simp [e1,hi1,hw]
  obtain ⟨Inv,hInv⟩:∃ Inv:Nat→Slots→St→Prop,Inv=fun n sl s'=>∃ (m:List Wb.Step) (i j:Nat),i<j∧j+n=l.length∧sl 5=.int i∧sl 6=.int j∧m.length=l.length∧m.take i=(l.take j).filter (fun x=>!p x)∧m.drop j=l.drop j∧s'.h g=some (.row 15 (m.map Step.cells) .live none)∧(∀ k,k<c0→k≠g→s'.h k=h0 k)∧c0≤s'.c:=⟨_,rfl⟩
  refine di Fn240.W0 (by rfl) Inv (l.length-(i+1)) ?_ ?_
  ·rw [hInv]
   refine ⟨l,i,i+1,by omega,by omega,by simp,by simp,rfl,?_,rfl,hg,fun _ _ _=>rfl,hc1⟩
   rw [lP hi,e2,e3]; simp
  ·intro n v s' hI
   rw [hInv] at hI
   obtain ⟨m,i,j,hij,hj,h5,h6,hml,hmt,hmd,hg',hfr,hcc⟩:=hI
   obtain ⟨h,c⟩:=s'
   simp at h5 h6
   simp only at hg' hfr hcc
   by_cases hlt:j<l.length
   case neg=>
    have hlt':¬(j:Int)<l.length:=by omega
    have hjl:i≤l.length:=by omega
    have hs1:=srI_row_from (sz:=15) (g:=g) (off:=0) hjl
    have hs2:=srI_row_to (sz:=15) (g:=g) (off:=0) hjl
    have hcl:=clI_row (sz:=15) (zs:=[.int 0,.str ⟨#[]⟩,.nil,.nil,.nil,.nil,.str ⟨#[]⟩,.nil,.int 0,.int 0,.int 0,.nil,.str ⟨#[]⟩,.nil,.nil]) (off:=i) (len:=l.length-i) (s:=⟨h,c⟩) hg' (by decide) (by decide) (by simp; omega)
    have hft:(l.filter fun x=>!p x)=m.take i:=by rw [hmt,List.take_of_length_le (by omega)]
    have hfl:(l.filter fun x=>!p x).length=i:=by rw [hft,List.length_take]; omega
    simp [h5,h6,hlt,hs1,hs2,hcl,hfl]
    refine ⟨?_,?_,fun k hk hkg=>by rw [ad hkg]; exact hfr k hk hkg⟩
    ·rw [hft]
     rw [List.take_append_of_le_length (by simp; omega),List.take_take,Nat.min_self,List.map_take]
    ·omega
   have hlt':(j:Int)<l.length:=by omega
   have hjm:j<m.length:=by omega
   have hmj:m[j]=l[j]:=by
    have:=congrArg (·[0]?) hmd
    simp only [List.getElem?_drop,Nat.add_zero] at this
    rw [List.getElem?_eq_getElem hjm,List.getElem?_eq_getElem hlt] at this
    exact Option.some.inj this
   have hpx:=hp l[j]
   have hgc':¬g=c:=by omega
   have hcg':¬c=g:=by omega
   have hw1:=ah (x:=(j:Int)+1) (by omega) (by omega)
   have hw2:=ah (x:=(i:Int)+1) (by omega) (by omega)
   have hft:=lP (p:=fun x=>!p x) hlt
   obtain ⟨X,hX⟩:∃ X,X=l[j]:=⟨_,rfl⟩
   rw [←hX] at hmj hpx hft
   have hXc:=Step.av
   have hge:(m.map Step.cells)[j]?=some X.cells:=by simp [hjm,hmj]
   obtain ⟨kind,name,low,high,conds,body,array,subs,⟨op,n2,form,ea,es,args⟩⟩:=X
   rw [Step.cells_mk] at hge
   rw [Step.av_mk] at hpx
   simp [h6,hlt,hg',hmj,hjm,Step.cells_mk]
   refine ACalls.pure hpx fun c2 hc2=>?_
   by_cases hpj:p (.mk kind name low high conds body array subs (.mk op n2 form ea es args))=true
   ·simp [hpj,h6,hw1]
    refine ⟨n-1,by omega,?_⟩
    rw [hInv]
    refine ⟨m,i,j+1,by omega,by omega,by simp [h5],by simp,hml,?_,?_,?_,fun k hk hkg=>?_,by show c0≤c2; omega⟩
    ·rw [hft,hmt]; simp [hpj]
    ·have:=congrArg (·.drop 1) hmd
     simpa [List.drop_drop] using this
    ·show upd h c _ g=_
     rw [ad hgc']; exact hg'
    ·show upd h c _ k=_
     rw [ad (by omega)]; exact hfr k hk hkg
   ·have hil:i<l.length:=by omega
    have him:i<m.length:=by omega
    simp [hpj,h5,h6,hw1,hw2,hil,hg',hgc',him,fI]
    refine ⟨n-1,by omega,?_⟩
    rw [hInv]
    refine ⟨m.set i (.mk kind name low high conds body array subs (.mk op n2 form ea es args)),i+1,j+1,by omega,by omega,by simp,by simp,by simp [hml],?_,?_,?_,fun k hk hkg=>?_,by show c0≤c2; omega⟩
    ·rw [hft,←hmt,List.take_add_one,List.take_set_of_le (Nat.le_refl _),List.getElem?_set_self him]
     simp [hpj]
    ·rw [List.drop_set_of_lt (by omega)]
     have:=congrArg (·.drop 1) hmd
     simpa [List.drop_drop] using this
    ·show upd _ g _ g=_
     rw [af,List.map_set,Step.cells_mk,List.drop_of_length_le (by rw [fI]; omega)]
    ·show upd (upd h c _) g _ k=_
     rw [ad hkg,ad (by omega)]; exact hfr k hk hkg
theorem _root_.Go.AM.slnW_row {g sz off len:Nat} {s:St} {F:Bx (AV→St→Prop)} (h:len=0→F.v (.bool true) s) (h':F.v (.bool false) s):@qJ .eql (.row g sz off len) s F:=by
 show (BinOp.eql=.eql∨BinOp.eql=.neq)∧_
 refine ⟨.inl rfl,?_⟩
 cases len with
 | zero=>exact ⟨h rfl,h'⟩
 | succ n=>exact h'
def fi (h:Heap) (x:AV) (l:List Wb.Step):Prop:=(l=[]∧∃ b,x=.sl [] b)∨∃ ga st par,x=.row ga 15 0 l.length∧h ga=some (.row 15 (l.map Step.cells) st par)
theorem j6 (l:List Wb.Step) (hl:l.length≤1000000) (x:AV) (h0:Heap) (c0:Nat) (hx:fi h0 x l) :
  ACalls Pg Fn241.n [x] ⟨h0,c0⟩ fun av s'=>Fr c0 h0 s'.h s'.c∧((av=.sl [] true∧l=[])∨∃ g,c0≤g∧g<s'.c∧av=.row g 15 0 l.length∧s'.h g=some (.row 15 (l.map Step.cells) .live none)):=by
 have hall:(l.map Step.cells).all (aA 15)=true:=List.all_eq_true.2 fun e he=>by obtain ⟨t,_,rfl⟩:=List.mem_map.1 he; exact kU t
 have hap:∀ s:St,s.h=h0→s.show_ x=some (l.map Step.cells)∧dW x 15=true→apI 15 272 .plain (.sl [] true) x s=some (.row s.c 15 0 l.length,AM.newRow 15 (l.map Step.cells) s):=by
  intro s hs ⟨h1,h2⟩
  have hle:0+(l.map Step.cells).length≤68719476736:=by simp; omega
  simp only [apI,h1,h2,hall]
  simp
  omega
 refine Fn241.calls .keep ?_
 unfold Fn241.ac
 rcases hx with ⟨rfl,b,rfl⟩ | ⟨ga,st,par,rfl,hga⟩
 ·have hap':=hap ⟨h0,c0⟩ rfl ⟨rfl,rfl⟩
  simp
  refine oI (fun h=>?_) ?_
  ·simp
   exact Fr.refl _ _
  ·simp [bsI,an]
   simp at hap'
   simp [hap']
   exact ⟨(Fr.refl h0 c0).upd (Nat.le_refl _) (Nat.le_succ _),c0,Nat.le_refl _,Nat.lt_succ_self _,rfl,af⟩
 ·have htk:(l.map Step.cells).take l.length=l.map Step.cells:=by rw [←List.length_map (f:=Step.cells),List.take_length]
  have hap':=hap ⟨h0,c0⟩ rfl ⟨by simp [St.show_,hga,htk],rfl⟩
  simp
  refine slnW_row (fun h=>?_) ?_
  ·have:l=[]:=List.length_eq_zero_iff.1 h
   simp [this]
   exact Fr.refl _ _
  ·simp [bsI,an,hap']
   exact ⟨(Fr.refl h0 c0).upd (Nat.le_refl _) (Nat.le_succ _),c0,Nat.le_refl _,Nat.lt_succ_self _,rfl,af⟩
theorem gR (f:Nat) (b:Bool) (s:St):ACalls Pg Fn240.n [.sl [] b,.fn (.func f) [] []] s fun av s'=>av=.sl [] b∧s'.h=s.h:=by
 have hidx:ACalls Pg Fn307.n [.sl [] false,.fn (.func f) [] []] s fun av s'=>av=.int (-1)∧s'.h=s.h:=by
  refine Fn307.calls .frz ?_
  unfold Fn307.ac
  simp
  refine bK 8 Fn307.W0 ([]:List Wb.Step) (fun i r sl=>True) (by rfl) (by rfl) ?_ ?_ ?_
  ·simp
  ·intro v c1 hv hc hI
   simp at hv
   simp [hv]
  ·intro i x xs v c1 hi; simp at hi
 obtain ⟨h,c⟩:=s
 refine Fn240.calls .keep ?_
 unfold Fn240.ac
 simp
 refine ACalls.at hidx fun c1 hc1=>?_
 simp
theorem uq (s:Wb.Step):aG Pg Fn242.n [s.av] (.bool (!isLoop s)):=by
 intro st
 obtain ⟨kind,name,low,high,conds,body,array,subs,⟨op,n,form,ea,es,args⟩⟩:=s
 rw [Step.av_mk]
 refine Fn242.calls .frz ?_
 unfold Fn242.ac
 simp [isLoop,Step.kind]
 rfl
theorem tZ (l:List Wb.Step) (hl:l.length≤1000000) (x:AV) (h0:Heap) (c0:Nat) (hx:fi h0 x l) :
  ACalls Pg Fn170.n [x] ⟨h0,c0⟩ fun av s'=>av=row ((l.filter isLoop).map Step.cells)∧s'.h=h0:=by
 refine Fn170.calls .frz ?_
 unfold Fn170.ac
 have hn:norm x=x∨(l=[]∧norm x=.sl [] false):=by
  rcases hx with ⟨rfl,b,rfl⟩ | ⟨ga,st,par,rfl,_⟩
  ·exact .inr ⟨rfl,rfl⟩
  ·exact .inl rfl
 have hx':fi h0 (norm x) l:=by
  rcases hn with h | ⟨h1,h2⟩
  ·rw [h]; exact hx
  ·rw [h2]; exact .inl ⟨h1,false,rfl⟩
 have hf:∀ {m:List Wb.Step},(m.filter fun x=>!(!isLoop x))=m.filter isLoop:=fun {m}=>by simp
 simp
 refine (j6 l hl _ h0 c0 hx').mono ?_
 rintro av ⟨h1,c1⟩ hc1 ⟨hF1,hav⟩
 simp only at hc1 hF1 hav
 rcases hav with ⟨rfl,rfl⟩ | ⟨g,hg1,hg2,rfl,hg⟩
 ·simp
  refine (gR Fn242.n false ⟨h1,c1⟩).mono ?_
  rintro av ⟨h2,c2⟩ hc2 ⟨rfl,hh⟩
  simp only at hh
  subst hh
  simp
  exact hF1.retH
 ·simp
  refine (hY l Fn242.n (fun x=>!isLoop x) uq h1 g c1 hg hg2 hl).mono ?_
  rintro av ⟨h2,c2⟩ hc2 ⟨all,rfl,q1,q2,q3,q4⟩
  simp only at hc2 q1 q4
  rw [hf] at q2 q3 ⊢
  simp [q1,q3,q2]
  exact ay fun k hk=>by rw [ad (by omega),q4 k (by omega) (by omega)]; exact hF1.h k hk
mutual
def bU:Wb.Expr→List Wb.Expr
 | .mk op n form array subs args=>if op=3 then [.mk op n form array subs args] else aX args
def aX:List Wb.Expr→List Wb.Expr
 | []=>[]
 | e::es=>bU e++aX es
end
mutual
theorem fH:∀ e:Wb.Expr,(bU e).length=cy e
 | .mk op n form array subs args=>by
  simp only [bU,cy]
  split
  ·rfl
  ·exact gw args
theorem gw:∀ l:List Wb.Expr,(aX l).length=bQ l
 | []=>rfl
 | e::es=>by simp [aX,bQ,fH e,gw es]
end
theorem gu:∀ (a b:List Wb.Expr),aX (a++b)=aX a++aX b
 | [],b=>by simp [aX]
 | x::a,b=>by simp [aX,gu a b]
theorem tH (x:Wb.Expr):aA 7 x.cells=true:=by
 obtain ⟨_,_,_,_,_,_⟩:=x; rfl
theorem ub:∀ (N:Nat) (x:Wb.Expr),SizeOf.sizeOf x≤N→cy x≤4096→aG Pg Fn172.n [x.av] (row ((bU x).map Expr.cells)):=by
 intro N
 induction N with
 | zero=>intro x hx; obtain ⟨_,_,_,_,_,_⟩:=x; simp at hx
 | succ N ih=>
  rintro x hx hnr ⟨h0,c0⟩
  refine ACalls.small fun hsm=>?_
  obtain ⟨op,n,form,array,subs,args⟩:=x
  rw [Expr.av_mk] at hsm ⊢
  have hlen:args.length≤68719476736:=by simp at hsm; omega
  refine Fn172.calls .frz ?_
  unfold Fn172.ac
  by_cases h3:op=3
  ·subst h3
   simp [bsI,an,bU,Expr.cells_mk]
  simp [h3]
  have hspec:bU (.mk op n form array subs args)=aX args:=by simp [bU,h3]
  rw [hspec]
  have hnr3:bQ args≤4096:=by simpa [cy,h3] using hnr
  obtain ⟨Inv,hInv⟩:∃ Inv:Nat→List Wb.Expr→Slots→St→Prop,Inv=fun i r sl s'=>∃ go,sl 3=.row go 7 0 (aX (args.take i)).length∧c0<go∧go<s'.c∧s'.h go=some (.row 7 ((aX (args.take i)).map Expr.cells) .live none)∧∀ k,k<c0→s'.h k=h0 k:=⟨_,rfl⟩
  refine bz 14 Fn172.W0 args Inv (by rfl) (by rfl) ?_ ?_ ?_
  ·rw [hInv]
   refine ⟨by simp,c0+1,by simp [aX],by omega,by show c0+1<c0+1+1; omega,by simp [aX],fun k hk=>?_⟩
   show upd (upd h0 c0 _) (c0+1) _ k=_
   rw [ad (by omega),ad (by omega)]
  ·intro v s' hv hI
   rw [hInv,List.take_length] at hI
   obtain ⟨go,h9,i1,i2,i3,i4⟩:=hI
   obtain ⟨h,c⟩:=s'
   simp at h9 i3
   simp only at i2 i4
   have htk:List.take (aX args).length ((aX args).map Expr.cells)=(aX args).map Expr.cells:=by rw [←List.length_map (f:=Expr.cells),List.take_length]
   simp [hv,h9,i3,htk]
   exact ay fun k hk=>by rw [ad (by omega)]; exact i4 k hk
  ·intro i x xs v s' hi hx2 hl2 hv hI
   rw [hInv] at hI
   obtain ⟨go,h9,i1,i2,i3,i4⟩:=hI
   obtain ⟨h,c⟩:=s'
   simp at h9
   simp only at i2 i3 i4
   have hw:=ah (x:=(i:Int)+1) (by omega) (by omega)
   have hmx:x∈args:=aR hl2
   have hsz:SizeOf.sizeOf x≤N:=by
    have:=List.sizeOf_lt_of_mem hmx
    simp at hx; omega
   have hnr2:bQ args=bQ (args.take i)+(cy x+bQ xs):=by
    conv=>lhs; rw [hl2]
    rw [jj]; rfl
   have hsl:(aX (args.take i)).length=bQ (args.take i):=gw _
   have htake:args.take (i+1)=args.take i++[x]:=by rw [List.take_add_one,List.getElem?_eq_getElem hi,hx2]; rfl
   have hce:=ih x hsz (by omega)
   have hrl:=fH x
   obtain ⟨op2,n2,form2,array2,subs2,args2⟩:=x
   rw [Expr.av_mk] at hce
   simp [hv,hi,hx2,Expr.cells_mk]
   refine ACalls.pure hce fun c2 hc2=>?_
   obtain ⟨h2,hh2⟩:∃ h2,h2=upd h c (some (.row 7 [[.int op2,.int n2,.int form2.const,row (form2.terms.map Term.cells),.str array2,row (subs2.map Form.cells),row (args2.map Expr.cells)]] .live none)):=⟨_,rfl⟩
   rw [←hh2]
   have hgo2:h2 go=some (.row 7 ((aX (args.take i)).map Expr.cells) .live none):=by rw [hh2,ad (by omega)]; exact i3
   have hap:=ig (sz:=7) (bytes:=112) (md:=.plain) (es:=(aX (args.take i)).map Expr.cells) (xs:=(bU (.mk op2 n2 form2 array2 subs2 args2)).map Expr.cells) (b:=false) (len:=(aX (args.take i)).length) (s:=⟨h2,c2⟩) (by simp) hgo2 (by simp) (by decide) (by decide) (by decide) (fun y hy=>by obtain ⟨t,_,rfl⟩:=List.mem_map.1 hy; exact tH t) (by simp only [List.length_map]; omega)
   simp only [row] at hap ⊢
   simp [h9,hap,hw,hv]
   rw [hInv]
   refine ⟨c2,?_,by omega,by show c2<c2+1; omega,?_,fun k hk=>?_⟩
   ·rw [htake,gu]; simp [aX]
   ·rw [htake,gu]
    show upd (upd h2 go _) c2 _ c2=_
    rw [af]; simp [aX]
   ·show upd (upd h2 go _) c2 _ k=_
    rw [ad (by omega),ad (by omega),hh2,ad (by omega)]; exact i4 k hk
end Go.Proofs.YtjhogglgkjcacaaGreat
set_option maxRecDepth 20000
set_option maxHeartbeats 4000000
namespace Go.Proofs.YtjhogglgkjcacaaGreat
open Go.AM Go.Wb
mutual
def jf (around:List Wb.Step):Wb.Step→List (Wb.Step×List Wb.Step)
 | .mk kind name low high conds body array subs expr=>(.mk kind name low high conds body array subs expr,around)::cf (around++[.mk kind name low high conds body array subs expr]) body
def cf (around:List Wb.Step):List Wb.Step→List (Wb.Step×List Wb.Step)
 | []=>[]
 | s::ss=>jf around s++cf around ss
end
theorem kZ (around:List Wb.Step):∀ a b:List Wb.Step,cf around (a++b)=cf around a++cf around b
 | [],b=>by simp [cf]
 | x::a,b=>by simp [cf,kZ around a b]
def px (h:Heap) (k:Nat):Prop:=∀ sz es st p,h k≠some (.row sz es st (some p))
structure Sees (fn:Nat) (a b:List AV) (I:List (Wb.Step×List Wb.Step)→(Nat→Prop)→Heap→Prop) (M:Nat) (ok:Wb.Step→Prop):Prop where
 frame:∀ {v F h h'},I v F h→(∀ k,F k→h' k=h k)→I v F h'
 par:∀ {v F h},I v F h→∀ k,F k→px h k
 call:∀ v F X (around:List Wb.Step) x h c,v.length<M→ok X→I v F h→(∀ k,F k→k<c)→fi h x around→around.length≤1000 →
  ACalls Pg fn (a++[Wb.Step.av X,x]++b) ⟨h,c⟩ fun av s'=>∃ F',I (v++[(X,around)]) F' s'.h∧(∀ k,F' k→F k∨(c≤k∧k<s'.c))∧(∀ k,k<c→¬F k→s'.h k=h k)∧∀ k,c≤k→px s'.h k
def ArAt (h:Heap) (F:Nat→Prop) (c0:Nat) (x:AV) (l:List Wb.Step):Prop:=(l=[]∧x=.sl [] true)∨∃ ga par,x=.row ga 15 0 l.length∧h ga=some (.row 15 (l.map Step.cells) .live par)∧¬F ga∧ga<c0
def ArSt (h0 h:Heap) (F:Nat→Prop) (c0 c:Nat) (x:AV):Prop:=∀ ga sz es st par,aq x ga→h0 ga=some (.row sz es st par)→∃ st',h ga=some (.row sz es st' par) ∧
 (st'=.live∨∃ k,st'=.lent k∧c0≤k∧k<c∧¬F k∧(h k=none∨∃ sz es st p,h k=some (.row sz es st (some p))∧(st=.live∨∃ j,st=.lent j∧j<c∧¬F j∧h j=none)))
theorem pt:∀ (around:List Wb.Step) (x:Wb.Step),(jf around x).length=count x
 | around,.mk kind name low high conds body array subs expr=>by
  have:=fun ar=>walkL_len' ar body
  simp [jf,count,this]; omega
where
 walkL_len':∀ (around:List Wb.Step) (l:List Wb.Step),(cf around l).length=aB l
  | around,[]=>rfl
  | around,s::ss=>by simp [cf,aB,pt around s,walkL_len' around ss]
theorem tF (around:List Wb.Step) (l:List Wb.Step):(cf around l).length=aB l:=pt.walkL_len' around l
@[simp] theorem _root_.Go.AM.finW_fork_re {P:Program} {d:Option Nat} {q:Nat×Option (Nat×Bool)×I} {re:List (Nat×Option (Nat×Bool)×I)} {r:List AO} {K:Slots→St→Prop} {sl:Slots} {v:AV} {s:St} :
  aO P d .fork (q::re) r K sl v s=(ed q sl s∧aO P d .fork re r K sl v s):=by simp [aO,cF,and_assoc]
theorem tX {fn:Nat} {a b:List AV} {I:List (Wb.Step×List Wb.Step)→(Nat→Prop)→Heap→Prop} {M:Nat} {ok:Wb.Step→Prop} (S:Sees fn a b I M ok):∀ (N:Nat) (l:List Wb.Step),aB l≤N→∀ (v:List (Wb.Step×List Wb.Step)) (F:Nat→Prop) (around:List Wb.Step) (x:AV) (h0:Heap) (c0:Nat),
  v.length+aB l≤M→(∀ y∈cf around l,ok y.1)→I v F h0→(∀ k,F k→k<c0)→ArAt h0 F c0 x around→around.length+N≤1000 →
  ACalls Pg Fn168.n [row (l.map Step.cells),x,.fn (.func fn) a b] ⟨h0,c0⟩ fun av s'=>∃ F',I (v++cf around l) F' s'.h∧(∀ k,F' k→F k∨(c0≤k∧k<s'.c))∧(∀ k,k<c0→¬F k→¬aq x k→s'.h k=h0 k)∧(∀ k,c0≤k→px s'.h k) ∧
   (∀ ga sz es st par,aq x ga→h0 ga=some (.row sz es st par)→∃ st',s'.h ga=some (.row sz es st' par)∧(st'=.live∨∃ k,st'=.lent k∧c0≤k∧k<s'.c∧¬F' k∧s'.h k=none)):=by
 intro N
 induction N using Nat.strongRecOn with
 | _ N ih=>
  intro l hl v F around x h0 c0 hM hok hI hF hx har
  refine ACalls.small fun hsm=>?_
  have hlen:l.length≤68719476736:=by simp at hsm; omega
  refine ACalls.dropF c0 (R:=fun av s'=>∃ F',I (v++cf around l) F' s'.h∧(∀ k,F' k→F k∨(c0≤k∧k<s'.c))∧(∀ k,k<c0→¬F k→¬aq x k→s'.h k=h0 k)∧ArSt h0 s'.h F' c0 s'.c x) ?_ ?_
  ·refine Fn168.calls .keep ?_
   unfold Fn168.ac
   simp
   obtain ⟨Inv,hInv⟩:∃ Inv:Nat→List Wb.Step→Slots→St→Prop,Inv=fun i r sl s'=>∃ F1,I (v++cf around (l.take i)) F1 s'.h∧(∀ k,F1 k→F k∨(c0≤k∧k<s'.c))∧ArSt h0 s'.h F1 c0 s'.c x∧c0≤s'.c∧(∀ k,k<c0→¬F k→¬aq x k→s'.h k=h0 k):=⟨_,rfl⟩
   refine bz 10 Fn168.W0 l Inv (by rfl) (by rfl) ?_ ?_ ?_
   ·rw [hInv]
    refine ⟨by simp,F,by simpa [cf] using hI,fun k hk=>.inl hk,?_,Nat.le_refl _,fun _ _ _ _=>rfl⟩
    intro ga sz es st par hga hh
    rcases hx with ⟨_,rfl⟩ | ⟨ga',par',rfl,h2,_⟩
    ·exact absurd hga cQ
    ·have:=aJ.1 hga; subst this
     rw [h2] at hh; injection hh with hh; injection hh with e1 e2 e3 e4
     subst e3
     exact ⟨.live,by show h0 ga=_; rw [h2,e1,e2,e4],.inl rfl⟩
   ·intro v1 s' hv hI1
    rw [hInv,List.take_length] at hI1
    obtain ⟨F1,i1,i2,i3,i4,i5⟩:=hI1
    simp [hv]
    exact ⟨F1,i1,i2,i5,i3⟩
   ·intro i X xs v1 s' hi hx2 hl2 hv hI1
    rw [hInv] at hI1
    obtain ⟨F1,i1,i2,i3,i4,i5⟩:=hI1
    obtain ⟨h,c⟩:=s'
    simp only at i1 i2 i3 i4 i5
    have hw:=ah (x:=(i:Int)+1) (by omega) (by omega)
    have hcut:=fy hl2
    have hwl:=tF around (l.take i)
    have hcx:1≤count X:=by obtain ⟨_,_,_,_,_,_,_,_,_⟩:=X; simp [count]
    have htake:l.take (i+1)=l.take i++[X]:=by rw [List.take_add_one,List.getElem?_eq_getElem hi,hx2]; rfl
    have hF1c:∀ k,F1 k→k<c:=fun k hk=>by
     rcases i2 k hk with h | h
     ·have:=hF k h; omega
     ·omega
    have hax:fi h (norm x) around∧(∀ k,aq x k→k<c0∧¬F1 k):=by
     rcases hx with ⟨rfl,rfl⟩ | ⟨ga,par,rfl,h2,h3,h4⟩
     ·exact ⟨.inl ⟨rfl,false,rfl⟩,fun k hk=>absurd hk cQ⟩
     ·obtain ⟨st',q1,_⟩:=i3 ga _ _ _ _ (aJ.2 rfl) h2
      refine ⟨.inr ⟨ga,st',par,rfl,q1⟩,fun k hk=>?_⟩
      have:=aJ.1 hk; subst this
      refine ⟨h4,fun hf=>?_⟩
      rcases i2 _ hf with h | h
      ·exact h3 h
      ·omega
    obtain ⟨h1,hh1⟩:∃ h1,h1=upd h c (some (.row 15 [X.cells] .live none)):=⟨_,rfl⟩
    have hlow1:∀ k,k<c→h1 k=h k:=fun k hk=>by rw [hh1,ad (by omega)]
    have hst1:fi h1 (norm x) around:=by
     rcases hx with ⟨rfl,rfl⟩ | ⟨ga,par,rfl,h2,h3,h4⟩
     ·exact .inl ⟨rfl,false,rfl⟩
     ·obtain ⟨st',q1,_⟩:=i3 ga _ _ _ _ (aJ.2 rfl) h2
      exact .inr ⟨ga,st',par,rfl,(hlow1 ga (by omega)).trans q1⟩
    have hlw:cf around l=cf around (l.take i)++(jf around X++cf around xs):=by
     conv=>lhs; rw [hl2]
     rw [kZ]; rfl
    have hokX:ok X:=by
     refine hok (X,around) ?_
     rw [hlw]
     obtain ⟨_,_,_,_,_,_,_,_,_⟩:=X
     simp [jf]
    have hcb:=S.call (v++cf around (l.take i)) F1 X around (norm x) h1 (c+1) (by simp [hwl]; omega) hokX (S.frame i1 fun k hk=>hlow1 k (hF1c k hk)) (fun k hk=>by have:=hF1c k hk; omega) hst1 (by omega)
    have hb15:∀ y∈X.cells,AV.cell y=true:=fun y hy=>by
     have:=kU X
     simp only [aA,Bool.and_eq_true,List.all_eq_true] at this
     exact this.2 y hy
    obtain ⟨kind,name,low,high,conds,body,array,subs,⟨op,n2,form,ea,es2,args⟩⟩:=X
    have hbody:aB body<aB l:=by simp [count] at hcut; omega
    rw [Step.av_mk] at hcb
    simp only [List.append_assoc,List.singleton_append,List.cons_append,List.nil_append] at hcb
    simp [hv,hi,hx2,Step.cells_mk]
    rw [Step.cells_mk] at hh1
    rw [←hh1]
    refine hcb.mono ?_
    rintro av ⟨h2,c2⟩ hc2 ⟨F2,j1,j2,j3,j4⟩
    simp only at hc2 j1 j2 j3 j4
    have hnF1c:¬F1 c:=fun hk=>by have:=hF1c c hk; omega
    have hbox2:h2 c=some (.row 15 [[.int kind,.str name,row (low.map Bound.cells),row (high.map Bound.cells),row (conds.map Form.cells),row (body.map Step.cells),.str array,row (subs.map Form.cells),.int op,.int n2,.int form.const,row (form.terms.map Term.cells),.str ea,row (es2.map Form.cells),row (args.map Expr.cells)]] .live none):=(j3 c (by omega) hnF1c).trans (by rw [hh1,af])
    have hF2c:∀ k,F2 k→k<c2:=fun k hk=>by
     rcases j2 k hk with h | h
     ·have:=hF1c k h; omega
     ·omega
    obtain ⟨X,hX⟩:∃ X:Wb.Step,X=.mk kind name low high conds body array subs (.mk op n2 form ea es2 args):=⟨_,rfl⟩
    have hXc:X.cells=[.int kind,.str name,row (low.map Bound.cells),row (high.map Bound.cells),row (conds.map Form.cells),row (body.map Step.cells),.str array,row (subs.map Form.cells),.int op,.int n2,.int form.const,row (form.terms.map Term.cells),.str ea,row (es2.map Form.cells),row (args.map Expr.cells)]:=by rw [hX,Step.cells_mk]
    rw [←hX] at j1 htake hcut hlw
    have hcX:count X=1+aB body:=by rw [hX]; rfl
    have hwX:jf around X=(X,around)::cf (around++[X]) body:=by rw [hX]; rfl
    rw [←hXc] at hbox2
    have hXok:=kU X
    have hc2c:¬c=c2:=by omega
    have hnext:∀ (h3:Heap) (x1:AV),ArAt h3 F2 (c2+1) x1 (around++[X])→(∀ k,aq x1 k→k=c2)→(∀ k,F2 k→h3 k=h2 k)→(∀ k,k<c0→¬aq x k→h3 k=h2 k) →
      (∀ ga sz es st par,aq x ga→h0 ga=some (.row sz es st par)→h3 ga=some (.row sz es (.lent c2) par))→(∀ sz es st par,h3 c2=some (.row sz es st par)→(∃ ga,aq x ga)→∃ p,par=some p) →
      ACalls Pg Fn168.n [row (body.map Step.cells),x1,.fn (.func fn) a b] ⟨h3,c2+1⟩ fun av s'=>c2+1≤s'.c∧∀ sl',Inv (i+1) xs sl' s':=by
     intro h3 x1 hx1 hx1c hf3 hlow3 hga3 hpar3
     have hokb:∀ y∈cf (around++[X]) body,ok y.1:=fun y hy=>hok y (by
      rw [hlw,hwX]; simp [hy])
     have hrec:=ih (aB body) (by omega) body (Nat.le_refl _) (v++(cf around (l.take i)++[(X,around)])) F2 (around++[X]) x1 h3 (c2+1) (by simp [hwl]; omega) hokb (S.frame j1 hf3) (fun k hk=>by have:=hF2c k hk; omega) hx1 (by simp; omega)
     refine hrec.mono ?_
     rintro av ⟨h4,c4⟩ hc4 ⟨F3,r1,r2,r3,r4,r5⟩
     refine ⟨hc4,fun sl'=>?_⟩
     simp only at hc4 r1 r2 r3 r4 r5
     rw [hInv]
     refine ⟨F3,?_,fun k hk=>?_,?_,by show c0≤c4; omega,fun k hk hkF hkx=>?_⟩
     ·rw [htake,kZ]
      simpa [cf,hwX] using r1
     ·rcases r2 k hk with h | h
      ·rcases j2 k h with h | h
       ·rcases i2 k h with h | h
        ·exact .inl h
        ·exact .inr (by show c0≤k∧k<c4; omega)
       ·exact .inr (by show c0≤k∧k<c4; omega)
      ·exact .inr (by show c0≤k∧k<c4; omega)
     ·intro ga sz es st par hga hh
      have hgc:=(hax.2 ga hga).1
      have hgF1:=(hax.2 ga hga).2
      have hgF2:¬F2 ga:=fun hf=>by
       rcases j2 ga hf with h | h
       ·exact hgF1 h
       ·omega
      have hg4:h4 ga=some (.row sz es (.lent c2) par):=(r3 ga (by omega) hgF2 fun hr=>by have:=hx1c ga hr; omega).trans (hga3 ga sz es st par hga hh)
      refine ⟨.lent c2,hg4,.inr ⟨c2,rfl,by omega,by show c2<c4; omega,fun hf=>?_,?_⟩⟩
      ·rcases r2 c2 hf with h | h
       ·have:=hF2c c2 h; omega
       ·omega
      ·right
       rcases hx1 with ⟨_,rfl⟩ | ⟨g1,par1,rfl,q1,_⟩
       ·rename_i e; simp at e
       ·have:=hx1c g1 (aJ.2 rfl)
        subst this
        obtain ⟨p,rfl⟩:=hpar3 _ _ _ _ q1 ⟨ga,hga⟩
        obtain ⟨st',t1,t2⟩:=r5 g1 _ _ _ _ (aJ.2 rfl) q1
        refine ⟨_,_,st',p,t1,t2.imp id ?_⟩
        rintro ⟨j,e,k1,k2,k3,k4⟩
        exact ⟨j,e,k2,k3,k4⟩
     ·have hkF1:¬F1 k:=fun hf=>by
       rcases i2 k hf with h | h
       ·exact hkF h
       ·omega
      have hkF2:¬F2 k:=fun hf=>by
       rcases j2 k hf with h | h
       ·exact hkF1 h
       ·omega
      show h4 k=h0 k
      rw [r3 k (by omega) hkF2 (fun hr=>by have:=hx1c k hr; omega),hlow3 k hk hkx,j3 k (by omega) hkF1,hlow1 k (by omega)]
      exact i5 k hk hkF hkx
    rcases hx with ⟨rfl,rfl⟩ | ⟨ga,par,rfl,hx2',hx3,hx4⟩
    ·have hbs:=d8 (sz:=15) (zs:=[.int 0,.str ⟨#[]⟩,.nil,.nil,.nil,.nil,.str ⟨#[]⟩,.nil,.int 0,.int 0,.int 0,.nil,.str ⟨#[]⟩,.nil,.nil]) (by rfl) (by decide) hXok ⟨h2,c2⟩
     have hap:=db (sz:=15) (bytes:=272) (md:=.fork) (es:=[]) (xs:=[X.cells]) (b:=true) (s:=⟨h2,c2⟩) (by decide) (by decide) (by decide) (by simp) (fun e he=>by rw [List.mem_singleton.1 he]; exact hXok) (by simp) (.inr rfl)
     simp at hap
     have hnx:=hnext (upd h2 c2 (some (.row 15 [X.cells] .live none))) (.row c2 15 0 1) (.inr ⟨c2,none,rfl,by simp,fun hf=>by have:=hF2c c2 hf; omega,by omega⟩) (fun k hk=>aJ.1 hk) (fun k hk=>ad (by have:=hF2c k hk; omega)) (fun k hk _=>ad (by omega)) (fun ga _ _ _ _ hr=>absurd hr cQ) (fun _ _ _ _ _ ⟨ga,hr⟩=>absurd hr cQ)
     rw [hXc] at hbs hap hnx
     simp [hbox2,hXc,hbs,hap,hc2c]
     refine hnx.mono ?_
     rintro av s' hc' ⟨hc4,hfin⟩
     simp [hv,hw]
     exact hfin _
    ·obtain ⟨st',q1,q2⟩:=i3 ga _ _ _ _ (aJ.2 rfl) hx2'
     have hgaF1:=(hax.2 ga (aJ.2 rfl)).2
     have hgaF2:¬F2 ga:=fun hf=>by
      rcases j2 ga hf with h | h
      ·exact hgaF1 h
      ·omega
     have hga2:h2 ga=some (.row 15 (around.map Step.cells) st' par):=(j3 ga (by omega) hgaF1).trans ((hlow1 ga (by omega)).trans q1)
     have hbs:=d8 (sz:=15) (zs:=[.int 0,.str ⟨#[]⟩,.nil,.nil,.nil,.nil,.str ⟨#[]⟩,.nil,.int 0,.int 0,.int 0,.nil,.str ⟨#[]⟩,.nil,.nil]) (by rfl) (by decide) hXok ⟨h2,c2⟩
     have hap:∃ h2':Heap,apI 15 272 .fork (.row ga 15 0 around.length) (.sl [X.cells] true) ⟨h2,c2⟩=some (.row c2 15 0 (around.length+1),⟨upd (upd h2' ga (some (.row 15 (around.map Step.cells) (.lent c2) par))) c2 (some (.row 15 (around.map Step.cells++[X.cells]) .live (some ga))),c2+1⟩)∧(∀ k,F2 k→h2' k=h2 k)∧(∀ k,k<c0→h2' k=h2 k)∧h2' c=h2 c:=by
      have hall:[X.cells].all (aA 15)=true:=by simp only [List.all_cons,hXok,List.all_nil]; rfl
      have hle:around.length+[X.cells].length≤68719476736:=by simp; omega
      rcases q2 with rfl | ⟨k,rfl,k1,k2,k3,k4⟩
      ·refine ⟨h2,?_,fun _ _=>rfl,fun _ _=>rfl,rfl⟩
       simp only [apI,St.show_,hall,dW,hga2,pC]
       simp
       omega
      ·have hkF2:¬F2 k:=fun hf=>by
        rcases j2 k hf with h | h
        ·exact k3 h
        ·omega
       have hk2:h2 k=h k:=(j3 k (by omega) k3).trans (hlow1 k k2)
       have hgone:Heap.gone h2 k=true:=by
        unfold Heap.gone
        rw [hk2]
        rcases k4 with k4 | ⟨sz,es,st,p,k4,k5⟩
        ·rw [k4]
        ·rw [k4]
         rcases k5 with rfl | ⟨j,rfl,m1,m2,m3⟩
         ·rfl
         ·have:h2 j=none:=(j3 j (by omega) m2).trans ((hlow1 j m1).trans m3)
          simp [this]
       refine ⟨upd h2 k none,?_,fun k' hk'=>ad fun e=>hkF2 (e▸hk'),fun k' hk'=>ad (by omega),ad (by omega)⟩
       simp only [apI,St.show_,hall,dW,hga2,pC,hgone]
       simp
       omega
     obtain ⟨h2',hap,hp1,hp2,hp3⟩:=hap
     have hnx:=hnext (upd (upd h2' ga (some (.row 15 (around.map Step.cells) (.lent c2) par))) c2 (some (.row 15 (around.map Step.cells++[X.cells]) .live (some ga)))) (.row c2 15 0 (around.length+1)) (.inr ⟨c2,some ga,by simp,by rw [af]; simp,fun hf=>by have:=hF2c c2 hf; omega,by omega⟩) (fun k hk=>aJ.1 hk) (fun k hk=>by rw [ad (by have:=hF2c k hk; omega),ad (show k≠ga from fun e=>hgaF2 (e▸hk))]; exact hp1 k hk) (fun k hk hkx=>by rw [ad (by omega),ad (show k≠ga from fun e=>hkx (aJ.2 e))]; exact hp2 k hk)
      (fun ga' sz es st par' hr hh=>by
       have:=aJ.1 hr; subst this
       rw [hx2'] at hh; injection hh with hh; injection hh with e1 e2 e3 e4
       rw [ad (by omega),af,e1,e2,e4]) (fun sz es st par' hh _=>by rw [af] at hh; injection hh with hh; injection hh with e1 e2 e3 e4; exact ⟨ga,e4.symm⟩)
     have hcga:¬c=ga:=by omega
     rw [hXc] at hbs hap hnx
     simp [hbox2,hXc,hbs,hap,hc2c,hcga,hp3]
     refine hnx.mono ?_
     rintro av s' hc' ⟨hc4,hfin⟩
     simp [hv,hw]
     exact hfin _
  ·rintro av s' hc ⟨F',i1,i2,i3,i4⟩
   refine ⟨F',S.frame i1 fun k hk=>jO (S.par i1 k hk),i2,fun k hk a b=>(fk hk).trans (i3 k hk a b),fun k hk sz es st p hh=>?_,?_⟩
   ·obtain ⟨q1,q2⟩:=dR hh
    rcases q2 with q2 | q2
    ·omega
    ·exact q2 _ _ _ _ rfl
   ·intro ga sz es st par hga hh
    obtain ⟨st',q1,q2⟩:=i4 ga sz es st par hga hh
    have hgc:ga<c0:=by
     rcases hx with ⟨_,rfl⟩ | ⟨ga',par',rfl,_,_,h4⟩
     ·exact absurd hga cQ
     ·have:=aJ.1 hga; omega
    refine ⟨st',(fk hgc).trans q1,?_⟩
    rcases q2 with q2 | ⟨k,e,hk1,hk2,hkF,hk3⟩
    ·exact .inl q2
    ·refine .inr ⟨k,e,hk1,hk2,hkF,?_⟩
     rcases hk3 with hk3 | ⟨sz2,es2,st2,p2,hk3,_⟩
     ·show AM.dropF c0 s'.h k=none
      rw [jO (fun sz es st p h=>by rw [hk3] at h; cases h)]; exact hk3
     ·exact sd hk1 hk3
end Go.Proofs.YtjhogglgkjcacaaGreat
set_option maxRecDepth 20000
set_option maxHeartbeats 4000000
namespace Go.Proofs.YtjhogglgkjcacaaGreat
open Go.AM Go.Wb
def lz (y:Wb.Step×List Wb.Step):Bool:=decide (Step.kind y.1=3)
theorem lZ:∀ (around:List Wb.Step) (x:Wb.Step),cr around x=((jf around x).filter lz).map fun y=>(y.1,y.2.filter isLoop)
 | around,.mk kind name low high conds body array subs expr=>by
  have ih:=stmts_walkL' (around++[.mk kind name low high conds body array subs expr]) body
  simp only [cr,jf,List.filter_cons,lz,Step.kind]
  split
  ·rename_i h
   subst h
   simp [ih]
  ·rename_i h
   simp [h,ih]
where
 stmts_walkL':∀ (around:List Wb.Step) (l:List Wb.Step),bG around l=((cf around l).filter lz).map fun y=>(y.1,y.2.filter isLoop)
  | around,[]=>rfl
  | around,s::ss=>by simp only [bG,cf,List.filter_append,List.map_append,lZ around s,stmts_walkL' around ss]
theorem lY (around:List Wb.Step) (l:List Wb.Step):bG around l=((cf around l).filter lz).map fun y=>(y.1,y.2.filter isLoop):=lZ.stmts_walkL' around l
end Go.Proofs.YtjhogglgkjcacaaGreat
set_option maxRecDepth 20000
set_option maxHeartbeats 4000000
namespace Go.Proofs.YtjhogglgkjcacaaGreat
open Go.AM Go.Wb
end Go.Proofs.YtjhogglgkjcacaaGreat
set_option maxRecDepth 20000
set_option maxHeartbeats 4000000
namespace Go.Proofs.YtjhogglgkjcacaaGreat
open Go.AM Go.Wb
@[simp] theorem _root_.Go.AM.finW_fz_reP {P:Program} {d:Option Nat} {q:Nat×Option (Nat×Bool)×I} {re:List (Nat×Option (Nat×Bool)×I)} {r:List AO} {K:Slots→St→Prop} {sl:Slots} {v:AV} {s:St} :
  aO P d .fz (q::re) r K sl v s=@dg (fzI v s) ⟨fun v' s'=>(∀ x∈q::re,ed x sl s')∧aM P r K (put sl d v') s'⟩:=Eq.trans rfl rfl
structure RR where
 names:AV
 now:AV
 which:AV
 vals:AV
def RR.own (r:RR) (gr go k:Nat):Prop:=k=gr∨k=go∨aq r.names k∨aq r.now k∨aq r.which k∨aq r.vals k
structure RI (h:Heap) (c gr go:Nat) (stm:AV) (e:Env) (r:RR) (s:RS):Prop where
 now:NowAt h c gr e go 0 r.names r.now
 obj:h go=some (.row 6 [[stm,r.which,r.vals,.int s.rounds,.sl [] true,.sl [] true]] .live none)
 which:RowAt h 1 r.which (be (s.l.map fun i=>(i.num:Int)))
 vals:RowAt h 1 r.vals (s.l.map fun i=>[row (be (i.env.map (·.2)))])
 lt:∀ k,r.own gr go k→k<c
 d1:∀ k,aq r.names k→k≠gr∧k≠go∧¬aq r.now k∧¬aq r.which k∧¬aq r.vals k
 d2:∀ k,aq r.now k→k≠gr∧k≠go∧¬aq r.which k∧¬aq r.vals k
 d3:∀ k,aq r.which k→k≠gr∧k≠go∧¬aq r.vals k
 d4:∀ k,aq r.vals k→k≠gr∧k≠go
 gg:gr≠go
 len:s.l.length≤50000
 rounds:0≤s.rounds∧s.rounds≤200000
theorem RI.frame {h h':Heap} {c c' gr go:Nat} {stm:AV} {e:Env} {r:RR} {s:RS} (x:RI h c gr go stm e r s) (hc:c≤c') (hh:∀ k,r.own gr go k→h' k=h k):RI h' c' gr go stm e r s:=by
 have hgr:r.own gr go gr:=.inl rfl
 have hgo:r.own gr go go:=.inr (.inl rfl)
 have hn:∀ k,aq r.names k→r.own gr go k:=fun k hk=>.inr (.inr (.inl hk))
 have hw:∀ k,aq r.now k→r.own gr go k:=fun k hk=>.inr (.inr (.inr (.inl hk)))
 refine ⟨⟨(hh gr hgr).trans x.now.at_,x.now.hnames.frame fun k hk=>hh k (hn k hk),x.now.hnow.frame fun k hk=>hh k (hw k hk),by have:=x.now.gr; omega,fun k hk=>by have:=x.lt k (hn k hk); omega,fun k hk=>by have:=x.lt k (hw k hk); omega⟩,(hh go hgo).trans x.obj,x.which.frame fun k hk=>hh k (.inr (.inr (.inr (.inr (.inl hk))))),x.vals.frame fun k hk=>hh k (.inr (.inr (.inr (.inr (.inr hk))))),fun k hk=>by have:=x.lt k hk; omega,x.d1,x.d2,x.d3,x.d4,x.gg,x.len,x.rounds⟩
theorem RI.fr {h h':Heap} {c c' gr go:Nat} {stm:AV} {e:Env} {r:RR} {s:RS} (x:RI h c gr go stm e r s) (hF:Fr c h h' c'):RI h' c' gr go stm e r s:=x.frame hF.c fun k hk=>hF.h k (x.lt k hk)
structure RFp (c0:Nat) (a b:Nat→Prop) (h0 h:Heap):Prop where
 same:∀ k,k<c0→¬a k→h k=h0 k
 rows:∀ k,b k→a k∨c0≤k
theorem RFp.trans {c0 c1:Nat} {a b d:Nat→Prop} {h0 h1 h2:Heap} (x:RFp c0 a b h0 h1) (y:RFp c1 b d h1 h2) (hc:c0≤c1):RFp c0 a d h0 h2:=
 ⟨fun k hk hka=>by
  rw [y.same k (by omega) fun hb=>(x.rows k hb).elim hka fun h=>by omega]; exact x.same k hk hka,
  fun k hk=>(y.rows k hk).elim (x.rows k) fun h=>.inr (by omega)⟩
theorem RFp.refl {c0:Nat} {a:Nat→Prop} {h:Heap}:RFp c0 a a h h:=⟨fun _ _ _=>rfl,fun _ h=>.inl h⟩
theorem RFp.ext {c0 c1:Nat} {a b:Nat→Prop} {h0 h1 h2:Heap} (x:RFp c0 a b h0 h1) (hh:∀ k,k<c1→h2 k=h1 k) (hc:c0≤c1):RFp c0 a b h0 h2:=
 ⟨fun k hk hka=>by rw [hh k (by omega)]; exact x.same k hk hka,x.rows⟩
theorem _root_.Go.AM.RowPre.show_ {h:Heap} {c sz:Nat} {x:AV} {es:List (List AV)} (r:RowPre h sz x es) (hx:∀ k,aq x k→k<c):(St.mk h c).show_ x=some es∧dW x sz=true:=by
 rcases r with ⟨rfl,rfl⟩ | ⟨g,full,rfl,hg⟩
 ·exact ⟨rfl,rfl⟩
 ·simp [St.show_,hg,dW]
end Go.Proofs.YtjhogglgkjcacaaGreat
set_option maxRecDepth 20000
set_option maxHeartbeats 4000000
namespace Go.Proofs.YtjhogglgkjcacaaGreat
open Go.AM Go.Wb
theorem RI.re {h h':Heap} {c c' gr go:Nat} {stm:AV} {e e':Env} {r:RR} {s:RS} {names now:AV} (x:RI h c gr go stm e r s) (hgr:h' gr=some (.row 4 [[.ptr go 0 0,.int 0,names,now]] .live none))
  (hN:RowPre h' 1 names (am (e'.map (·.1)))) (hW:RowPre h' 1 now (be (e'.map (·.2)))) (hk:∀ k,k=go∨aq r.which k∨aq r.vals k→h' k=h k) (hc:c≤c')
  (nN:∀ k,aq names k→aq r.names k∨(c≤k∧k<c')) (nW:∀ k,aq now k→aq r.now k∨(c≤k∧k<c')) (nd:∀ k,aq names k→¬aq now k):RI h' c' gr go stm e' ⟨names,now,r.which,r.vals⟩ s:=by
 have lgr:=x.lt gr (.inl rfl)
 have lgo:=x.lt go (.inr (.inl rfl))
 have lw:∀ k,aq r.which k→k<c:=fun k hk=>x.lt k (.inr (.inr (.inr (.inr (.inl hk)))))
 have lv:∀ k,aq r.vals k→k<c:=fun k hk=>x.lt k (.inr (.inr (.inr (.inr (.inr hk)))))
 have bN:∀ k,aq names k→k<c':=fun k hk=>(nN k hk).elim (fun h=>by have:=x.now.nb k h; omega) fun h=>h.2
 have bW:∀ k,aq now k→k<c':=fun k hk=>(nW k hk).elim (fun h=>by have:=x.now.wb k h; omega) fun h=>h.2
 refine ⟨⟨hgr,hN,hW,by omega,bN,bW⟩,(hk go (.inl rfl)).trans x.obj,x.which.frame fun k h=>hk k (.inr (.inl h)),x.vals.frame fun k h=>hk k (.inr (.inr h)),?_,?_,?_,x.d3,x.d4,x.gg,x.len,x.rounds⟩
 ·rintro k (h | h | h | h | h | h)
  ·omega
  ·omega
  ·exact bN k h
  ·exact bW k h
  ·have:=lw k h; omega
  ·have:=lv k h; omega
 ·intro k hk
  rcases nN k hk with h | h
  ·have d:=x.d1 k h
   exact ⟨d.1,d.2.1,nd k hk,d.2.2.2.1,d.2.2.2.2⟩
  ·exact ⟨by omega,by omega,nd k hk,fun h=>by have:=lw k h; omega,fun h=>by have:=lv k h; omega⟩
 ·intro k hk
  rcases nW k hk with h | h
  ·have d:=x.d2 k h
   exact ⟨d.1,d.2.1,d.2.2.1,d.2.2.2⟩
  ·exact ⟨by omega,by omega,fun h=>by have:=lw k h; omega,fun h=>by have:=lv k h; omega⟩
end Go.Proofs.YtjhogglgkjcacaaGreat
set_option maxRecDepth 20000
set_option maxHeartbeats 4000000
namespace Go.Proofs.YtjhogglgkjcacaaGreat
open Go.AM Go.Wb
def wu (y:Wb.Step×List Wb.Step):List AV:=y.1.cells++[row (y.2.map Step.cells),row ((bU (Step.expr y.1)).map Expr.cells)]
end Go.Proofs.YtjhogglgkjcacaaGreat
set_option maxRecDepth 20000
set_option maxHeartbeats 4000000
namespace Go.Proofs.YtjhogglgkjcacaaGreat
open Go.AM Go.Wb
structure PlO (h:Heap) (c go:Nat) (st:List (Wb.Step×List Wb.Step)) (l:List Inst) (stm which vals:AV):Prop where
 obj:∃ a b d,h go=some (.row 6 [[stm,which,vals,a,b,d]] .live none)
 hstm:RowAt h 17 stm (st.map wu)
 hwhich:RowAt h 1 which (be (l.map fun i=>(i.num:Int)))
 hvals:RowAt h 1 vals (l.map fun i=>[row (be (i.env.map (·.2)))])
 goc:go<c
 sb:∀ k,aq stm k→k<c
 wb:∀ k,aq which k→k<c
 vb:∀ k,aq vals k→k<c
theorem PlO.fr {h h':Heap} {c c' go:Nat} {st:List (Wb.Step×List Wb.Step)} {l:List Inst} {stm which vals:AV} (x:PlO h c go st l stm which vals) (hF:Fr c h h' c'):PlO h' c' go st l stm which vals:=by
 obtain ⟨⟨a,b,d,x1⟩,x2,x3,x4,x5,x6,x7,x8⟩:=x
 have:=hF.c
 exact ⟨⟨a,b,d,(hF.h go x5).trans x1⟩,x2.frame fun k hk=>hF.h k (x6 k hk),x3.frame fun k hk=>hF.h k (x7 k hk),x4.frame fun k hk=>hF.h k (x8 k hk),by omega,fun k hk=>by have:=x6 k hk; omega,fun k hk=>by have:=x7 k hk; omega,fun k hk=>by have:=x8 k hk; omega⟩
theorem _root_.Go.AM.RowAt.at {h:Heap} {sz:Nat} {x:AV} {es:List (List AV)} (r:RowAt h sz x es) {i:Nat} (hi:i<es.length):∃ g,x=.row g sz 0 es.length∧h g=some (.row sz es .live none):=by
 rcases r with ⟨_,rfl⟩ | ⟨g,rfl,hg⟩
 ·simp at hi
 ·exact ⟨g,rfl,hg⟩
end Go.Proofs.YtjhogglgkjcacaaGreat
set_option maxRecDepth 20000
set_option maxHeartbeats 4000000
namespace Go.Proofs.YtjhogglgkjcacaaGreat
open Go.AM Go.Wb
structure RunI (h:Heap) (c go b9:Nat) (st:List (Wb.Step×List Wb.Step)) (l:List Inst) (stm which vals rnd acc frm:AV) (n:Int) (es frs:List (List AV)):Prop where
 plo:PlO h c go st l stm which vals
 obj:h go=some (.row 6 [[stm,which,vals,rnd,acc,frm]] .live none)
 hacc:RowAt h 4 acc es
 hfrm:RowAt h 1 frm frs
 cnt:h b9=some (.row 1 [[.int n]] .live none)
 bc:b9<c
 ab:∀ k,aq acc k→k<c∧k≠go∧k≠b9∧¬aq frm k
 fb:∀ k,aq frm k→k<c∧k≠go∧k≠b9
 gb:go≠b9
 nd:∀ k,aq stm k∨aq which k∨aq vals k→k≠go∧k≠b9∧¬aq acc k∧¬aq frm k
 rc:rnd.cell=true
 esok:∀ e∈es,aA 4 e=true
 frok:∀ e∈frs,aA 1 e=true
 len:(es.length:Int)≤n∧es.length≤200000∧frs.length≤100000
 nb:0≤n∧n≤1000000000
theorem RunI.frame {h h':Heap} {c c' go b9:Nat} {st:List (Wb.Step×List Wb.Step)} {l:List Inst} {stm which vals rnd acc frm:AV} {n:Int} {es frs:List (List AV)} (x:RunI h c go b9 st l stm which vals rnd acc frm n es frs) (hF:Fr c h h' c'):RunI h' c' go b9 st l stm which vals rnd acc frm n es frs:=by
 have hc:=hF.c
 exact ⟨x.plo.fr hF,(hF.h _ x.plo.goc).trans x.obj,x.hacc.frame fun k hk=>hF.h k (x.ab k hk).1,x.hfrm.frame fun k hk=>hF.h k (x.fb k hk).1,(hF.h _ x.bc).trans x.cnt,by have:=x.bc; omega,fun k hk=>⟨by have:=(x.ab k hk).1; omega,(x.ab k hk).2⟩,fun k hk=>⟨by have:=(x.fb k hk).1; omega,(x.fb k hk).2⟩,x.gb,x.nd,x.rc,x.esok,x.frok,x.len,x.nb⟩
theorem RunI.count {h:Heap} {c go b9:Nat} {st:List (Wb.Step×List Wb.Step)} {l:List Inst} {stm which vals rnd acc frm:AV} {n:Int} {es frs:List (List AV)} (x:RunI h c go b9 st l stm which vals rnd acc frm n es frs) (hn:n<1000000000):RunI (AM.upd h b9 (some (.row 1 [[.int (n+1)]] .live none))) c go b9 st l stm which vals rnd acc frm (n+1) es frs:=by
 have hne:∀ k,k≠b9→AM.upd h b9 (some (.row 1 [[.int (n+1)]] .live none)) k=h k:=fun k hk=>ad hk
 have p:=x.plo
 obtain ⟨a,b,d,o⟩:=p.obj
 exact ⟨⟨⟨a,b,d,(hne _ x.gb).trans o⟩,p.hstm.frame fun k hk=>hne k (x.nd k (.inl hk)).2.1,p.hwhich.frame fun k hk=>hne k (x.nd k (.inr (.inl hk))).2.1,p.hvals.frame fun k hk=>hne k (x.nd k (.inr (.inr hk))).2.1,p.goc,p.sb,p.wb,p.vb⟩,(hne _ x.gb).trans x.obj,x.hacc.frame fun k hk=>hne k (x.ab k hk).2.2.1,x.hfrm.frame fun k hk=>hne k (x.fb k hk).2.2,af,x.bc,x.ab,x.fb,x.gb,x.nd,x.rc,x.esok,x.frok,by have:=x.len; omega,by have:=x.nb; omega⟩
theorem RunI.re {h h':Heap} {c c' go b9:Nat} {st:List (Wb.Step×List Wb.Step)} {l:List Inst} {stm which vals rnd acc frm acc' frm':AV} {n:Int} {es frs es' frs':List (List AV)} (x:RunI h c go b9 st l stm which vals rnd acc frm n es frs)
  (ho:h' go=some (.row 6 [[stm,which,vals,rnd,acc',frm']] .live none)) (ha:RowAt h' 4 acc' es') (hf:RowAt h' 1 frm' frs') (hk:∀ k,k<c→k≠go→¬aq acc k→¬aq frm k→h' k=h k) (hc:c≤c')
  (nA:∀ k,aq acc' k→aq acc k∨(c≤k∧k<c')) (nF:∀ k,aq frm' k→aq frm k∨(c≤k∧k<c')) (nd:∀ k,aq acc' k→¬aq frm' k)
  (he:∀ e∈es',aA 4 e=true) (hfe:∀ e∈frs',aA 1 e=true) (hl:(es'.length:Int)≤n∧es'.length≤200000∧frs'.length≤100000):RunI h' c' go b9 st l stm which vals rnd acc' frm' n es' frs':=by
 have p:=x.plo
 have bc:=x.bc
 have hs:∀ k,aq stm k∨aq which k∨aq vals k→h' k=h k:=fun k h=>by
  have d:=x.nd k h
  have:k<c:=h.elim (p.sb k) fun h=>h.elim (p.wb k) (p.vb k)
  exact hk k this d.1 d.2.2.1 d.2.2.2
 have hlt:∀ k,aq stm k∨aq which k∨aq vals k→k<c:=fun k h=>h.elim (p.sb k) fun h=>h.elim (p.wb k) (p.vb k)
 refine ⟨⟨⟨_,_,_,ho⟩,p.hstm.frame fun k h=>hs k (.inl h),p.hwhich.frame fun k h=>hs k (.inr (.inl h)),p.hvals.frame fun k h=>hs k (.inr (.inr h)),by have:=p.goc; omega,fun k h=>by have:=p.sb k h; omega,fun k h=>by have:=p.wb k h; omega,fun k h=>by have:=p.vb k h; omega⟩,ho,ha,hf,(hk b9 bc (Ne.symm x.gb) (fun h=>(x.ab b9 h).2.2.1 rfl) (fun h=>(x.fb b9 h).2.2 rfl)).trans x.cnt,by omega,?_,?_,x.gb,?_,x.rc,he,hfe,hl,x.nb⟩
 ·intro k h
  have goc:=p.goc
  rcases nA k h with h2 | h2
  ·have d:=x.ab k h2
   exact ⟨by omega,d.2.1,d.2.2.1,nd k h⟩
  ·exact ⟨by omega,by omega,by omega,nd k h⟩
 ·intro k h
  have goc:=p.goc
  rcases nF k h with h2 | h2
  ·have d:=x.fb k h2
   exact ⟨by omega,d.2.1,d.2.2⟩
  ·exact ⟨by omega,by omega,by omega⟩
 ·intro k h
  have d:=x.nd k h
  have:=hlt k h
  exact ⟨d.1,d.2.1,fun h2=>(nA k h2).elim d.2.2.1 fun h3=>by omega,fun h2=>(nF k h2).elim d.2.2.2 fun h3=>by omega⟩
def mq (k:Nat) (w:Bool) (s:Wb.Spot):List AV:=[.int k,.bool w,.str s.array,.int s.cell]
def mQ:Wb.Expr→ByteArray | .mk _ _ _ array _ _=>array
def gC:Wb.Expr→List Wb.Form | .mk _ _ _ _ subs _=>subs
mutual
theorem pi {A:List Wb.Array}:∀ e:Wb.Expr,dM A e→∀ x∈bU e,ek A (mQ x) (gC x)
 | .mk op n form array subs args,h,x,hx=>by
  simp only [bU] at hx
  simp only [dM] at h
  split at hx
  ·rename_i h3
   rw [List.mem_singleton.1 hx]
   rcases h with h | h | h | h
   ·exact absurd (h.1.symm.trans h3) (by decide)
   ·exact absurd (h.1.symm.trans h3) (by decide)
   ·exact h.2.2
   ·omega
  ·rcases h with h | h | h | h
   ·rw [h.2.1] at hx; simp [aX] at hx
   ·rw [h.2.1] at hx; simp [aX] at hx
   ·rw [h.2.1] at hx; simp [aX] at hx
   ·exact nL args h.2.2.2 x hx
theorem nL {A:List Wb.Array}:∀ l:List Wb.Expr,fW A l→∀ x∈aX l,ek A (mQ x) (gC x)
 | [],_,x,hx=>by simp [aX] at hx
 | e::es,h,x,hx=>by
  simp only [aX,List.mem_append] at hx
  simp only [fW] at h
  rcases hx with hx | hx
  ·exact pi e h.1 x hx
  ·exact nL es h.2 x hx
end
def xA (A:List Wb.Array) (k:Nat) (x:Inst):List (List AV):=(x.reads A).map (mq k false)++[mq k true (x.sets A)]
def accL (A:List Wb.Array):Nat→List Inst→List (List AV)
 | _,[]=>[]
 | k,x::xs=>xA A k x++accL A (k+1) xs
def vr (A:List Wb.Array):Nat→List Inst→List Int
 | _,[]=>[]
 | n,x::xs=>(n:Int)::vr A (n+(x.reads A).length+1) xs
end Go.Proofs.YtjhogglgkjcacaaGreat
set_option maxRecDepth 20000
set_option maxHeartbeats 4000000
namespace Go.Proofs.YtjhogglgkjcacaaGreat
open Go.AM Go.Wb
structure RanAt (h:Heap) (c go:Nat) (p:Wb.Prog) (stm which vals rnd acc frm:AV):Prop where
 plo:PlO h c go (bG [] p.steps) (oC p).2.l stm which vals
 obj:h go=some (.row 6 [[stm,which,vals,rnd,acc,frm]] .live none)
 hacc:RowAt h 4 acc (accL p.arrays 0 (oC p).2.l)
 hfrm:RowAt h 1 frm (be (vr p.arrays 0 (oC p).2.l))
 ab:∀ k,aq acc k→k<c
 fb:∀ k,aq frm k→k<c
end Go.Proofs.YtjhogglgkjcacaaGreat
namespace Go.Proofs.YtjhogglgkjcacaaGreat
open Go.AM Go.Wb
deriving instance DecidableEq for Wb.Spot
def UsesN (h:Heap) (c:Nat) (A:List Wb.Array) (x:AV) (l:List Inst):Prop:=
 ∃ es,(0<es.length→∃ g,x=.row g 22 0 es.length∧h g=some (.row 22 es .live none))∧es.length=l.length∧(∀ (k:Nat) (e:List AV) (i:Inst),es[k]?=some e→l[k]?=some i→∃ ge,ge<c∧vk h ge i.env∧e=mO A i ge)∧∀ s,dT 1 x s=some (.int es.length)
theorem UsesAt.n {h:Heap} {c:Nat} {A:List Wb.Array} {x:AV} {l:List Inst} (u:UsesAt h c A x l):UsesN h c A (norm x) l:=by
 obtain ⟨es,h1,h2,h3⟩:=u
 refine ⟨es,fun h0=>?_,h2,h3,fun s=>?_⟩
 ·obtain ⟨g,rfl,hg⟩:=h1.at h0
  exact ⟨g,rfl,hg⟩
 ·rcases h1 with ⟨rfl,rfl⟩ | ⟨g,rfl,hg⟩ <;> rfl
theorem UsesN.at {h:Heap} {c:Nat} {A:List Wb.Array} {x:AV} {l:List Inst} (u:UsesN h c A x l) {i:Nat} (hi:i<l.length):∃ (es:List (List AV)) (g ge:Nat),x=.row g 22 0 l.length∧h g=some (.row 22 es .live none)∧es[i]?=some (mO A l[i] ge):=by
 obtain ⟨es,h1,h2,h3,_⟩:=u
 obtain ⟨g,e1,e2⟩:=h1 (by omega)
 have hx:es[i]?=some es[i]:=List.getElem?_eq_getElem (by omega)
 obtain ⟨ge,_,_,e3⟩:=h3 i _ _ hx (List.getElem?_eq_getElem hi)
 exact ⟨es,g,ge,by rw [e1,h2],e2,by rw [hx,e3]⟩
theorem UsesN.len {h:Heap} {c:Nat} {A:List Wb.Array} {x:AV} {l:List Inst} (u:UsesN h c A x l) (s:St):dT 1 x s=some (.int l.length):=by
 obtain ⟨es,h1,h2,h3,h4⟩:=u
 rw [h4,h2]
theorem UsesN.fr {h h':Heap} {c c':Nat} {A:List Wb.Array} {x:AV} {l:List Inst} (u:UsesN h c A x l) (hx:∀ k,aq x k→k<c) (hF:Fr c h h' c'):UsesN h' c' A x l:=by
 obtain ⟨es,h1,h2,h3,h4⟩:=u
 refine ⟨es,fun h0=>?_,h2,fun k e i he hi=>?_,h4⟩
 ·obtain ⟨g,e1,e2⟩:=h1 h0
  exact ⟨g,e1,(hF.h g (hx g (by rw [e1]; exact aJ.2 rfl))).trans e2⟩
 ·obtain ⟨ge,g1,⟨ver,g2⟩,g3⟩:=h3 k e i he hi
  exact ⟨ge,Nat.lt_of_lt_of_le g1 hF.c,⟨ver,(hF.h ge g1).trans g2⟩,g3⟩
end Go.Proofs.YtjhogglgkjcacaaGreat
set_option maxRecDepth 20000
set_option maxHeartbeats 4000000
namespace Go.Proofs.YtjhogglgkjcacaaGreat
open Go.AM Go.Wb
abbrev Mem:=Wb.Spot→Int
def cW (M:Mem) (a:Wb.Array):List Int:=(List.range (iA a.sizes).toNat).map fun (j:Nat)=>M ⟨a.key,j⟩
end Go.Proofs.YtjhogglgkjcacaaGreat
set_option maxRecDepth 20000
set_option maxHeartbeats 4000000
namespace Go.Proofs.YtjhogglgkjcacaaGreat
open Go.AM Go.Wb
def RdAt (h:Heap) (sz:Nat) (rv:AV) (es:List (List AV)):Prop:=∃ g all off st,rv=.row g sz off es.length∧h g=some (.row sz all st none)∧(all.drop off).take es.length=es∧off+es.length≤all.length
theorem RdAt.cell {h:Heap} {sz:Nat} {rv:AV} {es:List (List AV)} (r:RdAt h sz rv es):rv.cell=true:=by
 obtain ⟨g,all,off,st,rfl,_⟩:=r; rfl
theorem RdAt.frame {h h':Heap} {sz:Nat} {rv:AV} {es:List (List AV)} (r:RdAt h sz rv es) (hh:∀ k,aq rv k→h' k=h k):RdAt h' sz rv es:=by
 obtain ⟨g,all,off,st,rfl,h2,h3,h4⟩:=r
 exact ⟨g,all,off,st,rfl,(hh g (aJ.2 rfl)).trans h2,h3,h4⟩
def RdN (h:Heap) (sz:Nat) (rv:AV) (es:List (List AV)):Prop:=(es=[]∧∃ b,rv=.sl [] b)∨RdAt h sz rv es
theorem RdN.frame {h h':Heap} {sz:Nat} {rv:AV} {es:List (List AV)} (r:RdN h sz rv es) (hh:∀ k,aq rv k→h' k=h k):RdN h' sz rv es:=r.imp id fun r=>r.frame hh
def qN (s:Wb.Spot):AV:=.agg (Spot.cells s)
theorem qu:KeyOk (.agg [.str,.int]) qN where
 wf a:=rfl
 eq a b:=by
  obtain ⟨a1,a2⟩:=a
  obtain ⟨b1,b2⟩:=b
  simp [qN,Spot.cells,fD,cq,gF]
  rfl
end Go.Proofs.YtjhogglgkjcacaaGreat
set_option maxRecDepth 20000
set_option maxHeartbeats 4000000
namespace Go.Proofs.YtjhogglgkjcacaaGreat
open Go.AM Go.Wb
def wQ (A:List Wb.Array) (G:List Nat):List (ByteArray×AV):=List.zipWith (fun a gi=>(a.key,AV.row gi 1 0 (iA a.sizes).toNat)) A G
def vj (A:List Wb.Array):Prop:=∀ (i j:Nat) (a b:Wb.Array),A[i]?=some a→A[j]?=some b→j<i→b.key≠a.key
structure MemAt (h:Heap) (c g:Nat) (A:List Wb.Array) (M:Mem) (G:List Nat):Prop where
 len:G.length=A.length
 map:∃ ver,h g=some (.map (kvs AV.str (fun v:AV=>v) (wQ A G)) ver)
 rows:∀ (i:Nat) (a:Wb.Array) (gi:Nat),A[i]?=some a→G[i]?=some gi→h gi=some (.row 1 (be (cW M a)) .live none)
 lt:∀ gi∈G,gi<c∧gi≠g
 nd:G.Nodup
 gc:g<c
theorem MemAt.frame {h h':Heap} {c c' g:Nat} {A:List Wb.Array} {M:Mem} {G:List Nat} (x:MemAt h c g A M G) (hc:c≤c') (hh:∀ k,k=g∨k∈G→h' k=h k):MemAt h' c' g A M G:=by
 obtain ⟨ver,hm⟩:=x.map
 exact ⟨x.len,⟨ver,(hh g (.inl rfl)).trans hm⟩,fun i a gi h1 h2=>(hh gi (.inr (List.mem_of_getElem? h2))).trans (x.rows i a gi h1 h2),fun gi hg=>⟨by have:=(x.lt gi hg).1; omega,(x.lt gi hg).2⟩,x.nd,by have:=x.gc; omega⟩
theorem MemAt.set {h:Heap} {c g:Nat} {A:List Wb.Array} {M:Mem} {G:List Nat} (x:MemAt h c g A M G) (hA:vj A) {s:Wb.Spot} {i n gi:Nat} {a:Wb.Array} (h1:A[i]?=some a) (h2:G[i]?=some gi) (h3:a.key=s.array) (h4:s.cell=n) (h5:n<(iA a.sizes).toNat) (v:Int) :
  MemAt (AM.upd h gi (some (.row 1 ((be (cW M a)).set n [.int v]) .live none))) c g A (fun s'=>if s'=s then v else M s') G:=by
 obtain ⟨ver,hm⟩:=x.map
 have hg:=x.lt gi (List.mem_of_getElem? h2)
 refine ⟨x.len,⟨ver,(ad (Ne.symm hg.2)).trans hm⟩,fun j b gj e1 e2=>?_,x.lt,x.nd,x.gc⟩
 by_cases hij:j=i
 ·subst hij
  rw [h1] at e1; injection e1 with e1; subst e1
  rw [h2] at e2; injection e2 with e2; subst e2
  rw [af]
  have:(be (cW M a)).set n [.int v]=be (cW (fun s'=>if s'=s then v else M s') a):=by
   refine List.ext_getElem? fun k=>?_
   by_cases hk:k<(iA a.sizes).toNat
   ·by_cases hkn:k=n
    ·subst hkn
     have:(⟨a.key,(k:Int)⟩:Wb.Spot)=s:=by
      obtain ⟨sa,sc⟩:=s
      simp only at h3 h4
      simp [h3,h4]
     rw [List.getElem?_set_self (by rw [show (be (cW M a)).length=(iA a.sizes).toNat by simp [be,cW]]; exact hk)]
     simp [be,cW,hk,this]
    ·have:¬(⟨a.key,(k:Int)⟩:Wb.Spot)=s:=by
      obtain ⟨sa,sc⟩:=s
      simp only at h3 h4
      simp [h4]; omega
     rw [List.getElem?_set_ne (fun e=>hkn e.symm)]
     simp [be,cW,hk,this]
   ·rw [List.getElem?_eq_none (by simp [be,cW]; omega),List.getElem?_eq_none (by simp [be,cW]; omega)]
  rw [this]
 ·have hne:gj≠gi:=fun e=>by
   subst e
   have hj1:=List.getElem?_eq_some_iff.1 e2
   have hi1:=List.getElem?_eq_some_iff.1 h2
   obtain ⟨hj2,hj3⟩:=hj1
   obtain ⟨hi2,hi3⟩:=hi1
   have:=List.pairwise_iff_getElem.1 x.nd
   rcases Nat.lt_trichotomy i j with h | h | h
   ·exact this i j hi2 hj2 h (by rw [hi3,hj3])
   ·exact hij h.symm
   ·exact this j i hj2 hi2 h (by rw [hi3,hj3])
  rw [ad hne,x.rows j b gj e1 e2]
  have hkey:b.key≠s.array:=by
   rw [←h3]
   rcases Nat.lt_trichotomy i j with h | h | h
   ·exact fun e=>hA j i b a e1 h1 h e.symm
   ·exact absurd h.symm hij
   ·exact fun e=>hA i j a b h1 e1 h e
  have:cW (fun s'=>if s'=s then v else M s') b=cW M b:=by
   unfold cW
   refine List.map_congr_left fun k _=>?_
   refine if_neg fun e=>?_
   exact hkey (by rw [←e])
  rw [this]
end Go.Proofs.YtjhogglgkjcacaaGreat
set_option maxRecDepth 20000
set_option maxHeartbeats 4000000
namespace Go.Proofs.YtjhogglgkjcacaaGreat
open Go.AM Go.Wb
def sq (go:Nat) (stm which vals:AV) (k:Nat):Prop:=k=go∨aq stm k∨aq which k∨aq vals k
theorem PlO.re {h h':Heap} {c c' go:Nat} {st:List (Wb.Step×List Wb.Step)} {l:List Inst} {stm which vals:AV} (x:PlO h c go st l stm which vals) (hc:c≤c') (hh:∀ k,sq go stm which vals k→h' k=h k):PlO h' c' go st l stm which vals:=by
 obtain ⟨⟨a,b,d,x1⟩,x2,x3,x4,x5,x6,x7,x8⟩:=x
 exact ⟨⟨a,b,d,(hh go (.inl rfl)).trans x1⟩,x2.frame fun k hk=>hh k (.inr (.inl hk)),x3.frame fun k hk=>hh k (.inr (.inr (.inl hk))),x4.frame fun k hk=>hh k (.inr (.inr (.inr hk))),by omega,fun k hk=>by have:=x6 k hk; omega,fun k hk=>by have:=x7 k hk; omega,fun k hk=>by have:=x8 k hk; omega⟩
theorem PlO.plt {h:Heap} {c go:Nat} {st:List (Wb.Step×List Wb.Step)} {l:List Inst} {stm which vals:AV} (x:PlO h c go st l stm which vals) {k:Nat} (hk:sq go stm which vals k):k<c:=by
 rcases hk with rfl | hk | hk | hk
 ·exact x.goc
 ·exact x.sb k hk
 ·exact x.wb k hk
 ·exact x.vb k hk
end Go.Proofs.YtjhogglgkjcacaaGreat
set_option maxRecDepth 20000
set_option maxHeartbeats 4000000
namespace Go.Proofs.YtjhogglgkjcacaaGreat
open Go.AM Go.Wb
def tB (go:Nat) (stm which vals acc frm:AV) (k:Nat):Prop:=sq go stm which vals k∨aq acc k∨aq frm k
theorem RanAt.re {h h':Heap} {c c' go:Nat} {p:Wb.Prog} {stm which vals rnd acc frm:AV} (x:RanAt h c go p stm which vals rnd acc frm) (hc:c≤c') (hh:∀ k,tB go stm which vals acc frm k→h' k=h k):RanAt h' c' go p stm which vals rnd acc frm:=
 ⟨x.plo.re hc fun k hk=>hh k (.inl hk),(hh go (.inl (.inl rfl))).trans x.obj,x.hacc.frame fun k hk=>hh k (.inr (.inl hk)),x.hfrm.frame fun k hk=>hh k (.inr (.inr hk)),fun k hk=>by have:=x.ab k hk; omega,fun k hk=>by have:=x.fb k hk; omega⟩
theorem RanAt.lt {h:Heap} {c go:Nat} {p:Wb.Prog} {stm which vals rnd acc frm:AV} (x:RanAt h c go p stm which vals rnd acc frm) {k:Nat} (hk:tB go stm which vals acc frm k):k<c:=by
 rcases hk with hk | hk | hk
 ·exact x.plo.plt hk
 ·exact x.ab k hk
 ·exact x.fb k hk
end Go.Proofs.YtjhogglgkjcacaaGreat
set_option maxRecDepth 20000
set_option maxHeartbeats 4000000
namespace Go.Proofs.YtjhogglgkjcacaaGreat
open Go.AM Go.Wb
@[simp] theorem we (l:List Int):(be l).length=l.length:=by simp [be]
@[simp] theorem zO (l:List Int) (i:Nat) (h:i<(be l).length):(be l)[i]=[.int (l[i]'(by simpa using h))]:=by simp [be]
end Go.Proofs.YtjhogglgkjcacaaGreat
set_option maxRecDepth 20000
set_option maxHeartbeats 4000000
namespace Go.Proofs.YtjhogglgkjcacaaGreat
open Go.AM Go.Wb
end Go.Proofs.YtjhogglgkjcacaaGreat
set_option maxRecDepth 20000
set_option maxHeartbeats 4000000
namespace Go.Proofs.YtjhogglgkjcacaaGreat
open Go.AM Go.Wb
end Go.Proofs.YtjhogglgkjcacaaGreat
set_option maxRecDepth 20000
set_option maxHeartbeats 4000000
namespace Go.Proofs.YtjhogglgkjcacaaGreat
open Go.AM Go.Wb
theorem MemAt.put {h:Heap} {c g:Nat} {A:List Wb.Array} {M M':Mem} {G:List Nat} (x:MemAt h c g A M G) (hA:vj A) {i gi:Nat} {a:Wb.Array} (h1:A[i]?=some a) (h2:G[i]?=some gi) {vs:List Int} (e1:cW M' a=vs) (e2:∀ s,s.array≠a.key→M' s=M s) :
  MemAt (AM.upd h gi (some (.row 1 (be vs) .live none))) c g A M' G:=by
 obtain ⟨ver,hm⟩:=x.map
 have hg:=x.lt gi (List.mem_of_getElem? h2)
 refine ⟨x.len,⟨ver,(ad (Ne.symm hg.2)).trans hm⟩,fun j b gj f1 f2=>?_,x.lt,x.nd,x.gc⟩
 by_cases hij:j=i
 ·subst hij
  rw [h1] at f1; injection f1 with f1; subst f1
  rw [h2] at f2; injection f2 with f2; subst f2
  rw [af,e1]
 ·have hne:gj≠gi:=fun e=>by
   subst e
   obtain ⟨hj2,hj3⟩:=List.getElem?_eq_some_iff.1 f2
   obtain ⟨hi2,hi3⟩:=List.getElem?_eq_some_iff.1 h2
   have:=List.pairwise_iff_getElem.1 x.nd
   rcases Nat.lt_trichotomy i j with h | h | h
   ·exact this i j hi2 hj2 h (by rw [hi3,hj3])
   ·exact hij h.symm
   ·exact this j i hj2 hi2 h (by rw [hi3,hj3])
  rw [ad hne,x.rows j b gj f1 f2]
  have hkey:b.key≠a.key:=by
   rcases Nat.lt_trichotomy i j with h | h | h
   ·exact fun e=>hA j i b a f1 h1 h e.symm
   ·exact absurd h.symm hij
   ·exact fun e=>hA i j a b h1 f1 h e
  have:cW M' b=cW M b:=by
   unfold cW
   exact List.map_congr_left fun k _=>e2 _ hkey
  rw [this]
end Go.Proofs.YtjhogglgkjcacaaGreat
set_option maxRecDepth 20000
set_option maxHeartbeats 4000000
namespace Go.Proofs.YtjhogglgkjcacaaGreat
open Go.AM Go.Wb
end Go.Proofs.YtjhogglgkjcacaaGreat
set_option maxRecDepth 20000
set_option maxHeartbeats 4000000
namespace Go.Proofs.YtjhogglgkjcacaaGreat
open Go.AM Go.Wb
structure GV (h:Heap) (c0:Nat) (V:ByteArray→List Int) (es:List (List AV)):Prop where
 el:∀ e∈es,∃ (key:ByteArray) (gv:Nat),e=[.str key,.row gv 1 0 (V key).length]∧c0≤gv∧h gv=some (.row 1 (be (V key)) .live none)
def sf (e:List AV):ByteArray:=match e with
 | .sc (.string a)::_=>a
 | _=>⟨#[]⟩
def gOf (V:ByteArray→List Int) (e:List AV):Wb.Grid:=⟨sf e,V (sf e)⟩
theorem GV.frz {h:Heap} {c0 go:Nat} {V:ByteArray→List Int} {es:List (List AV)} (H:GV h c0 V es) (hg:h go=some (.row 2 es .live none)) (hc:c0≤go):Frz h (fun k=>c0≤k) (.row go 2 0 es.length) (row ((es.map (gOf V)).map Grid.cells)):=by
 have hel:=H.el
 have hgs:∀ (i:Nat) (e y:List AV),es[i]?=some e→((es.map (gOf V)).map Grid.cells)[i]?=some y→e.length=y.length∧∀ (j:Nat) (c d:AV),e[j]?=some c→y[j]?=some d→Frz h (fun k=>c0≤k) c d:=by
  intro i e y he hy
  obtain ⟨key,gv,rfl,y1,y3⟩:=hel e (List.mem_of_getElem? he)
  rw [List.getElem?_map,List.getElem?_map,he] at hy
  simp [gOf,sf,Grid.cells] at hy
  subst hy
  refine ⟨rfl,fun j c d hc hd=>?_⟩
  match j with
  | 0=>simp at hc hd; subst hc; subst hd; exact .leaf _
  | 1=>
   simp at hc hd; subst hc; subst hd
   refine .row gv 1 0 _ _ .live _ y3 (.inl rfl) y1 (by simp [be]) (by simp [be]) ?_ ?_
   ·intro i e y he hy
    rw [Nat.zero_add] at he; rw [he] at hy; cases hy; rfl
   ·intro i j e y c d he hy hc hd
    rw [Nat.zero_add] at he; rw [he] at hy; cases hy; rw [hc] at hd; cases hd
    obtain ⟨n,_,hn⟩:=List.mem_map.1 (List.mem_of_getElem? he)
    subst hn
    match j with
    | 0=>simp at hc; subst hc; exact .leaf _
    | j+1=>simp at hc
  | j+2=>simp at hc
 have hrow:row ((es.map (gOf V)).map Grid.cells)=.sl ((es.map (gOf V)).map Grid.cells) false:=by simp
 rw [hrow]
 refine .row go 2 0 es.length _ .live _ hg (.inl rfl) hc (by simp) (by simp) ?_ ?_
 ·intro i e y he hy
  rw [Nat.zero_add] at he
  exact (hgs i e y he hy).1
 ·intro i j e y c d he hy hc hd
  rw [Nat.zero_add] at he
  exact (hgs i e y he hy).2 j c d hc hd
theorem GV.ok {h:Heap} {c0:Nat} {V:ByteArray→List Int} {es:List (List AV)} (H:GV h c0 V es):∀ e∈es,aA 2 e=true:=fun e he=>by
 obtain ⟨key,gv,rfl,_⟩:=H.el e he; rfl
theorem GV.frame {h h':Heap} {c0:Nat} {V:ByteArray→List Int} {es:List (List AV)} (H:GV h c0 V es) (hh:∀ e∈es,h' (mD e)=h (mD e)):GV h' c0 V es:=
 ⟨fun e he=>by
  obtain ⟨key,gv,rfl,h1,h3⟩:=H.el e he
  exact ⟨key,gv,rfl,h1,(hh _ he).trans h3⟩⟩
end Go.Proofs.YtjhogglgkjcacaaGreat
set_option maxRecDepth 20000
set_option maxHeartbeats 4000000
namespace Go.Proofs.YtjhogglgkjcacaaGreat
open Go.AM Go.Wb
end Go.Proofs.YtjhogglgkjcacaaGreat
set_option maxRecDepth 20000
set_option maxHeartbeats 4000000
namespace Go.Proofs.YtjhogglgkjcacaaGreat
open Go.AM Go.Wb
end Go.Proofs.YtjhogglgkjcacaaGreat
set_option maxRecDepth 20000
set_option maxHeartbeats 4000000
namespace Go.Proofs.YtjhogglgkjcacaaGreat
open Go.AM Go.Wb
@[simp] theorem xu (l:List Wb.Spot):aP (l.map Spot.cells)=l.map Spot.cells:=bY (fun _=>rfl) l
def RefMem (h:Heap) (g:Nat) (M:Mem):Prop:=∃ (m:List (Wb.Spot×Int)) (ver:Nat),h g=some (.map (kvs qN AV.int m) ver)∧∀ s,M s=(cu m s).getD 0
theorem RefMem.set {h:Heap} {c g:Nat} {M:Mem} (x:RefMem h g M) (s:Wb.Spot) (v:Int):∃ b,muI (.agg [.str,.int]) (.map g) (.agg (Spot.cells s)) (.int v) ⟨h,c⟩=some ⟨AM.upd h g b,c+1⟩∧∀ h',h' g=b→RefMem h' g (fun s'=>if s'=s then v else M s'):=by
 obtain ⟨m,ver,h1,h2⟩:=x
 have hmu:=kL qu (f:=AV.int) (g:=g) (s:=⟨h,c⟩) h1 s v
 refine ⟨_,hmu,fun h' hh=>⟨cB m s v,c,hh,fun s'=>?_⟩⟩
 rw [iV]
 show (if s'=s then v else M s')=_
 split
 ·rfl
 ·exact h2 s'
theorem RefMem.get {h:Heap} {c g:Nat} {M:Mem} (x:RefMem h g M) (s:Wb.Spot):lkI (.agg [.str,.int]) (.int 0) false (.map g) (.agg (Spot.cells s)) ⟨h,c⟩=some (.int (M s)):=by
 obtain ⟨m,ver,h1,h2⟩:=x
 have hlk:=kJ qu (f:=AV.int) (z:=.int 0) (ok:=false) (s:=⟨h,c⟩) h1 s
 have hms:((cu m s).map AV.int).getD (.int 0)=.int (M s):=by rw [h2 s]; cases cu m s <;> rfl
 rw [hms] at hlk
 exact hlk
end Go.Proofs.YtjhogglgkjcacaaGreat
set_option maxRecDepth 20000
set_option maxHeartbeats 4000000
namespace Go.Proofs.YtjhogglgkjcacaaGreat
open Go.AM Go.Wb
theorem FzH.low {c0:Nat} {h h':Heap} (x:FzH (fun k=>c0≤k) h h') {k:Nat} (hk:k<c0):h' k=h k:=by
 rcases x k with e | ⟨h1,_⟩
 ·exact e
 ·omega
end Go.Proofs.YtjhogglgkjcacaaGreat
set_option maxRecDepth 20000
set_option maxHeartbeats 4000000
namespace Go.Proofs.YtjhogglgkjcacaaGreat
open Go.AM Go.Wb
def p7:Wb.Prog:=⟨[⟨⟨#[97]⟩,[1]⟩],[.mk 3 ⟨#[115]⟩ [] [] [] [] ⟨#[97]⟩ [⟨0,[]⟩] (.mk 1 7 ⟨0,[]⟩ ⟨#[]⟩ [] [])]⟩
end Go.Proofs.YtjhogglgkjcacaaGreat
set_option maxRecDepth 20000
namespace Go.Proofs.YtjhogglgkjcacaaGreat
open Go.AM Go.Wb
theorem vY {G G':Gh} {s s':St} {w w':World} (h:Stp G s w G' s' w') (hs:∀ k,s.h k=none):Go.RowKit.Below w.heap.size w w':=
 ⟨h.os,h.tape,h.output,h.size,fun k hk=>h.keep k hk fun ⟨g,body,l,hg,_⟩=>by rw [hs g] at hg; cases hg⟩
theorem sP (f:FuncId) (hcall:∀ (xs:_root_.Array Value) (w:World),(callFunc f xs).run Tryz.prog w=.ok (.enter f xs) w)
  (hlaw:∀ L:List Int,L.length≤1048576→∀ (h0:Heap) (c0:Nat),ACalls Pg f [row (be L)] ⟨h0,c0⟩ fun av s'=>av=.bool true∧s'.h=h0)
  (W:World) (a:Option Addr) (len cap:Nat) (zs:List Int) (hl:len≤cap) (hz:zs.length=len) (hlen:len≤1048576)
  (hcell:len=0∨∃ b off,a=some ⟨b,off,none⟩∧∀ j,j<len→W.cell? ⟨b,off+j,none⟩=some (.int .i64 (zs.getD j 0))) :
  Calls Tryz.prog f #[.slice a len cap] W fun e W'=>e=.returned (.bool true)∧Go.RowKit.Below W.heap.size W W':=by
 obtain ⟨G,hG⟩:∃ G:Gh,G=⟨fun _=>none,fun b o=>W.cell? ⟨b,o,none⟩⟩:=⟨_,rfl⟩
 have hS:Sim G ⟨fun _=>none,0⟩ W:=by
  refine ⟨fun b o v h=>?_,fun g l h=>?_,fun g b h=>?_,fun i j bi bj li lj _ hi=>?_⟩
  ·rw [hG] at h; exact h
  ·rw [hG] at h; cases h
  ·cases h
  ·cases hi
 have hrow:row (be zs)=.sl (be zs) false:=by simp
 have hil:(be zs).length=len:=by simp [hz]
 have hget:∀ (i:Nat) (e:List AV),(be zs)[i]?=some e→i<len∧e=[.int (zs.getD i 0)]:=fun i e he=>by
  have hi:i<zs.length:=by
   have:=(List.getElem?_eq_some_iff.1 he).1
   rw [we] at this; exact this
  refine ⟨by omega,?_⟩
  unfold be at he
  rw [List.getElem?_map,List.getElem?_eq_getElem hi] at he
  rw [List.getD_eq_getElem?_getD,List.getElem?_eq_getElem hi]
  exact (Option.some.inj he).symm
 have hrep:Rep G (row (be zs)) (.slice a len cap):=by
  rw [hrow]
  have key:Rep G (.sl (be zs) false) (.slice a (be zs).length cap):=by
   obtain ⟨b,off,hb⟩:∃ b off,(len≠0→a=some ⟨b,off,none⟩)∧∀ j,j<len→W.cell? ⟨b,off+j,none⟩=some (.int .i64 (zs.getD j 0)):=by
    rcases hcell with h | ⟨b,off,h1,h2⟩
    ·exact ⟨0,0,fun hn=>absurd h hn,fun j hj=>by omega⟩
    ·exact ⟨b,off,fun _=>h1,h2⟩
   refine .sl (be zs) false a cap b off 1 (fun i _=>.int .i64 (zs.getD i 0)) (by omega) (fun h=>by cases h) (fun hne=>hb.1 fun h0=>hne (List.length_eq_zero_iff.1 (by omega))) (fun i e he=>by rw [(hget i e he).2]; rfl) (fun i e j c he hc=>?_) (fun i e j c he hc=>?_) (by omega)
   ·obtain ⟨h1,rfl⟩:=hget i e he
    match j with
    | 0=>
     rw [hG]
     show W.cell? ⟨b,off+i*1+0,none⟩=_
     rw [Nat.mul_one,Nat.add_zero]
     exact hb.2 i h1
    | j+1=>simp at hc
   ·obtain ⟨h1,rfl⟩:=hget i e he
    match j with
    | 0=>simp at hc; subst hc; exact .sc _ rfl
    | j+1=>simp at hc
  rw [hil] at key
  exact key
 have hc:=hlaw zs (by omega) (fun _=>none) 0 G W [.slice a len cap] hS (RepL.cons hrep (RepL.nil G))
 unfold CallOk at hc
 rw [hcall] at hc
 refine hc.mono fun e w' he=>?_
 cases e with
 | returned v=>
  obtain ⟨av,G',s',h1,h2,h3,rfl,_⟩:=he
  have hv:v=.bool true:=by cases h3; rfl
  exact ⟨by rw [hv],vY h1 fun _=>rfl⟩
 | _=>exact absurd he id
end Go.Proofs.YtjhogglgkjcacaaGreat
set_option maxRecDepth 20000
set_option maxHeartbeats 4000000
namespace Go.Proofs.YtjhogglgkjcacaaGreat
open Go.AM Go.Wb
end Go.Proofs.YtjhogglgkjcacaaGreat
set_option maxRecDepth 20000
set_option maxHeartbeats 4000000
namespace Go.Proofs.YtjhogglgkjcacaaGreat
open Go.AM Go.Wb
abbrev Acc:=Nat×Bool×Wb.Spot
def Acc.cells (a:Acc):List AV:=mq a.1 a.2.1 a.2.2
end Go.Proofs.YtjhogglgkjcacaaGreat
set_option maxRecDepth 20000
set_option maxHeartbeats 4000000
namespace Go.Proofs.YtjhogglgkjcacaaGreat
open Go.AM Go.Wb
structure Pl where
 key:ByteArray
 start:Int
 turned:Bool
def Pl.cells (p:Pl):List AV:=[.str p.key,.int p.start,.bool p.turned]
theorem uV (p:Pl):aQ p.cells=p.cells:=rfl
@[simp] theorem zd (l:List Pl):aP (l.map Pl.cells)=l.map Pl.cells:=bY uV l
end Go.Proofs.YtjhogglgkjcacaaGreat
set_option maxRecDepth 20000
set_option maxHeartbeats 4000000
namespace Go.Proofs.YtjhogglgkjcacaaGreat
open Go.AM Go.Wb
end Go.Proofs.YtjhogglgkjcacaaGreat
set_option maxRecDepth 20000
set_option maxHeartbeats 4000000
namespace Go.Proofs.YtjhogglgkjcacaaGreat
open Go.AM Go.Wb
end Go.Proofs.YtjhogglgkjcacaaGreat
set_option maxRecDepth 20000
set_option maxHeartbeats 4000000
namespace Go.Proofs.YtjhogglgkjcacaaGreat
open Go.AM Go.Wb
end Go.Proofs.YtjhogglgkjcacaaGreat
set_option maxRecDepth 20000
set_option maxHeartbeats 4000000
namespace Go.Proofs.YtjhogglgkjcacaaGreat
open Go.AM Go.Wb
mutual
theorem nD:∀ v:AV,norm (norm v)=norm v
 | .agg cs=>by simp only [norm]; rw [hH cs]
 | .tup vs=>by simp only [norm]; rw [hH vs]
 | .sl es _=>by simp only [norm]; rw [nE es]
 | .undef=>rfl
 | .sc _=>rfl
 | .ptr ..=>rfl
 | .zp ..=>rfl
 | .row ..=>rfl
 | .map _=>rfl
 | .fn ..=>rfl
 | .ifc ..=>rfl
theorem hH:∀ l:List AV,aQ (aQ l)=aQ l
 | []=>rfl
 | v::vs=>by simp only [aQ]; rw [nD v,hH vs]
theorem nE:∀ l:List (List AV),aP (aP l)=aP l
 | []=>rfl
 | e::es=>by simp only [aP]; rw [hH e,nE es]
end
attribute [simp] nD
theorem pY:∀ x y z:List UInt8,Op.bytesLess x y=true→Op.bytesLess y z=true→Op.bytesLess x z=true
 | x,y,[],_,h2=>by cases y <;> simp [Op.bytesLess] at h2
 | [],y,c::z,_,_=>rfl
 | a::x,[],c::z,h1,_=>by simp [Op.bytesLess] at h1
 | a::x,b::y,c::z,h1,h2=>by
  simp only [Op.bytesLess,Bool.or_eq_true,decide_eq_true_eq,Bool.and_eq_true,beq_iff_eq] at h1 h2 ⊢
  rcases h1 with h1 | ⟨rfl,h1⟩
  ·rcases h2 with h2 | ⟨rfl,h2⟩
   ·exact .inl (UInt8.lt_trans h1 h2)
   ·exact .inl h1
  ·rcases h2 with h2 | ⟨rfl,h2⟩
   ·exact .inl h2
   ·exact .inr ⟨rfl,pY x y z h1 h2⟩
theorem sL:∀ x:List UInt8,Op.bytesLess x x=false
 | []=>rfl
 | a::x=>by simp [Op.bytesLess,sL x,UInt8.lt_irrefl]
theorem sM:∀ x y:List UInt8,Op.bytesLess x y=false→x≠y→Op.bytesLess y x=true
 | [],[],_,h=>absurd rfl h
 | [],_::_,h,_=>by simp [Op.bytesLess] at h
 | a::x,[],_,_=>rfl
 | a::x,b::y,h1,h2=>by
  simp only [Op.bytesLess,Bool.or_eq_false_iff,decide_eq_false_iff_not,Bool.and_eq_false_iff,beq_eq_false_iff_ne] at h1
  simp only [Op.bytesLess,Bool.or_eq_true,decide_eq_true_eq,Bool.and_eq_true,beq_iff_eq]
  have htri:a<b∨a=b∨b<a:=by
   rcases Nat.lt_trichotomy a.toNat b.toNat with h | h | h
   ·exact .inl (UInt8.lt_iff_toNat_lt.2 h)
   ·exact .inr (.inl (UInt8.toNat_inj.1 h))
   ·exact .inr (.inr (UInt8.lt_iff_toNat_lt.2 h))
  rcases htri with h | h | h
  ·exact absurd h h1.1
  ·subst h
   refine .inr ⟨rfl,sM x y ?_ fun e=>h2 (by rw [e])⟩
   rcases h1.2 with h | h
   ·exact absurd rfl h
   ·exact h
  ·exact .inl h
theorem wt {s t:ByteArray} (h:sle s t=false):slt t s=true:=by
 unfold sle at h
 simp only [Bool.or_eq_false_iff,decide_eq_false_iff_not] at h
 refine sM _ _ h.1 fun e=>h.2 ?_
 rw [ByteArray.toList_eq,ByteArray.toList_eq] at e
 cases s; cases t; congr; exact Array.toList_inj.1 e
end Go.Proofs.YtjhogglgkjcacaaGreat
set_option maxRecDepth 20000
set_option maxHeartbeats 4000000
namespace Go.Proofs.YtjhogglgkjcacaaGreat
open Go.AM Go.Wb
def fT (g:Nat) (l:List Int):Nat:=l.foldl (fun g c=>Nat.gcd g c.natAbs) g
def j8 (c:Int) (g:Nat):Bool:=if g=0 then decide (c=0) else decide (c.tmod g=0)
def eJ (c:Int) (l:List Int):Bool:=j8 c (fT 0 l)
theorem uJ (a b:Int):Nat.gcd b.natAbs (a.tmod b).natAbs=Nat.gcd a.natAbs b.natAbs:=by
 rw [Int.natAbs_tmod,Nat.gcd_comm b.natAbs,←Nat.gcd_rec,Nat.gcd_comm]
theorem om:∀ (l:List Int) (g:Nat),(∀ c∈l,c.natAbs≤1000000)→g≤1000000→fT g l≤1000000
 | [],g,_,hg=>hg
 | c::l,g,h,hg=>by
  refine om l _ (fun x hx=>h x (List.mem_cons_of_mem _ hx)) ?_
  have hc:=h c List.mem_cons_self
  by_cases h0:g=0
  ·subst h0; show Nat.gcd 0 _≤_; rw [Nat.gcd_zero_left]; exact hc
  ·exact Nat.le_trans (Nat.gcd_le_left _ (Nat.pos_of_ne_zero h0)) hg
def cM (a b:Int):Int:=if b<a then b else a
def cL (a b:Int):Int:=if a<b then b else a
def aZ:List (Int×Int×Int)→Int→Int→Int×Int
 | [],x,y=>(x,y)
 | p::r,x,y=>aZ r (x+cM (p.1*p.2.1) (p.1*p.2.2)) (y+cL (p.1*p.2.1) (p.1*p.2.2))
def bo (last:ByteArray):List Wb.Slot→Int
 | []=>0
 | t::ts=>if bh t.name=false then 5 else if ¬(-1000000≤t.value∧t.value≤1000000) then 1 else if sle t.name last=true then 7 else bo t.name ts
def bn (l:List Wb.Slot) (n:ByteArray):Option Int:=(l.find? fun s=>decide (s.name=n)).map (·.value)
def iL (f:Wb.Form) (low high:List Wb.Slot):Int×Int:=
 aZ (f.terms.map fun t=>(t.coef,(bn low t.name).getD 0,(bn high t.name).getD 0)) f.const f.const
def bO (f:Wb.Form) (low high:List Wb.Slot):Int:=
 if aL f=0 then if bo ⟨#[]⟩ low=0 then if bo ⟨#[]⟩ high=0 then
  if low.map (·.name)=high.map (·.name) then
   if (low.zip high).any (fun p=>decide (p.2.value<p.1.value)) then 1
   else if f.terms.any (fun t=>(bn low t.name).isNone) then 8 else 0
  else 3
 else bo ⟨#[]⟩ high else bo ⟨#[]⟩ low else aL f
structure Side where
 low:Int
 high:Int
 lo:Bool
 hi:Bool
def qy:Side:=⟨0,0,false,false⟩
def dr:List Wb.Bound→Int→Bool→Int×Bool
 | [],n,k=>(n,k)
 | b::bs,n,k=>if b.form.terms=[]∧(k=false∨n<upI b.form.const b.div) then dr bs (upI b.form.const b.div) true else dr bs n k
def cN:List Wb.Bound→Int→Bool→Int×Bool
 | [],n,k=>(n,k)
 | b::bs,n,k=>if b.form.terms=[]∧(k=false∨b.form.const / b.div<n) then cN bs (b.form.const / b.div) true else cN bs n k
def cT:Wb.Step→Side
 | .mk _ _ low high _ _ _ _ _=>⟨(dr low 0 false).1,(cN high 0 false).1,(dr low 0 false).2,(cN high 0 false).2⟩
def cz (l:List Wb.Step):List (ByteArray×Side):=l.foldl (fun m s=>cB m (Step.name s) (cT s)) []
def cS (l:List Wb.Step):Bool:=l.any fun s=>(cT s).lo&&(cT s).hi&&decide ((cT s).high<(cT s).low)
def aT (m:List (ByteArray×Side)) (n:ByteArray):Side:=(cu m n).getD qy
structure AccW where
 array:ByteArray
 subs:List Wb.Form
 sets:Bool
def dH (s:Wb.Step):List AccW:=(bU (Step.expr s)).map (fun x=>⟨mQ x,gC x,false⟩)++[⟨Step.array s,Step.subs s,true⟩]
def nI (x y:List (ByteArray×Side)) (f g:Wb.Form):List (Int×Side):=
 f.terms.map (fun t=>(t.coef,aT x t.name))++g.terms.map (fun t=>(-t.coef,aT y t.name))
def df (x y:List (ByteArray×Side)) (f g:Wb.Form):Bool:=
 let ps:=nI x y f g
 let r:=aZ (ps.map fun p=>(p.1,p.2.low,p.2.high)) (f.const-g.const) (f.const-g.const)
 !eJ (f.const-g.const) (ps.map (·.1))||(ps.all (fun p=>p.2.lo&&p.2.hi)&&!decide (r.1≤0∧0≤r.2))
def ci (x y:List (ByteArray×Side)) (none_:Bool) (a b:AccW):Bool:=
 decide (a.array≠b.array)||(!a.sets&&!b.sets)||none_||(a.subs.zip b.subs).any (fun p=>df x y p.1 p.2)
def jr (s t:Wb.Step×List Wb.Step):Bool:=
 (dH s.1).all fun a=>(dH t.1).all fun b=>ci (cz s.2) (cz t.2) (cS s.2||cS t.2) a b
def ck (p:Wb.Prog) (key:ByteArray):Option (Wb.Step×List Wb.Step):=(bG [] p.steps).find? fun y=>decide (Step.name y.1=key)
def ct (p:Wb.Prog) (a b:ByteArray):Int:=
 if aW p=0 then if bh a=true∧bh b=true then if (ck p a).isSome=true∧(ck p b).isSome=true then 0 else 8 else 5 else aW p
def ew (p:Wb.Prog) (a b:ByteArray):Bool:=
 if ct p a b=0 then match ck p a,ck p b with
  | some s,some t=>jr s t
  | _,_=>false
 else false
end Go.Proofs.YtjhogglgkjcacaaGreat
set_option maxRecDepth 20000
set_option maxHeartbeats 4000000
namespace Go.Proofs.YtjhogglgkjcacaaGreat
open Go.AM Go.Wb
theorem tS (a b:Int) (ha:a.natAbs≤1000000) (hb:b.natAbs≤1000000):aG Pg Fn162.n [.int a,.int b] (.int (Nat.gcd a.natAbs b.natAbs:Nat)):=by
 rintro ⟨h0,c0⟩
 refine Fn162.calls .frz ?_
 unfold Fn162.ac
 simp
 obtain ⟨Inv,hInv⟩:∃ Inv:Nat→Slots→St→Prop,Inv=fun n sl s'=>s'=⟨h0,c0⟩∧∃ x y:Int,sl 0=.int x∧sl 1=.int y∧n=y.natAbs∧Nat.gcd x.natAbs y.natAbs=Nat.gcd a.natAbs b.natAbs∧x.natAbs≤1000000∧y.natAbs≤1000000:=⟨_,rfl⟩
 refine di Fn162.W0 (by rfl) Inv b.natAbs ?_ ?_
 ·rw [hInv]; exact ⟨rfl,a,b,by simp,by simp,rfl,rfl,ha,hb⟩
 ·intro n v s' hI
  rw [hInv] at hI
  obtain ⟨rfl,x,y,h0',h1',hn,hg,hx,hy⟩:=hI
  simp at h0' h1'
  by_cases hy0:y=0
  ·subst hy0
   have hw:IntKind.i64.wrap (-x) = -x:=ah (by omega) (by omega)
   have hgx:(Nat.gcd a.natAbs b.natAbs:Int)=if x < -x then -x else x:=by
    rw [←hg]; simp; split <;> omega
   simp [h0',h1',hgx,hw]
  ·have hm:=uJ x y
   have hlt:(x.tmod y).natAbs<y.natAbs:=by rw [Int.natAbs_tmod]; exact Nat.mod_lt _ (by omega)
   simp [h0',h1',hy0]
   refine ⟨_,Nat.lt_of_lt_of_eq hlt hn.symm,?_⟩
   rw [hInv]
   exact ⟨rfl,y,x.tmod y,by simp,by simp,rfl,by rw [hm]; exact hg,hy,by omega⟩
theorem rA (f:Wb.Form) (hf:∀ t∈f.terms,t.coef.natAbs≤1000000):aG Pg Fn80.n [f.av] (.bool (eJ f.const (f.terms.map (·.coef)))):=by
 rintro ⟨h0,c0⟩
 refine ACalls.small fun hsm=>?_
 have hlen:f.terms.length≤68719476736:=by simp [Form.av,Form.cells] at hsm; omega
 refine Fn80.calls .frz ?_
 unfold Fn80.ac
 simp [Form.av,Form.cells]
 obtain ⟨h1,hh1⟩:∃ h1,h1=upd h0 c0 (some (.row 2 [[.int f.const,row (f.terms.map Term.cells)]] .live none)):=⟨_,rfl⟩
 have hF1:Fr c0 h0 h1 (c0+1):=by rw [hh1]; exact (Fr.refl _ _).upd (Nat.le_refl _) (Nat.le_succ _)
 have b1:h1 c0=_:=(congrFun hh1 c0).trans af
 simp [←hh1,b1]
 have hgl:fT 0 (f.terms.map (·.coef))≤1000000:=om _ _ (fun c hc=>by obtain ⟨t,ht,rfl⟩:=List.mem_map.1 hc; exact hf t ht) (by omega)
 obtain ⟨Inv,hInv⟩:∃ Inv:Nat→List Wb.Term→Slots→St→Prop,Inv=fun i r sl s'=>∃ g:Nat,sl 3=.int g∧g≤1000000∧fT g (r.map (·.coef))=fT 0 (f.terms.map (·.coef)):=⟨_,rfl⟩
 refine bq 9 Fn80.W0 f.terms Inv (by rfl) (by rfl) ?_ ?_ ?_
 ·rw [hInv]; exact ⟨by simp,0,by simp,by omega,rfl⟩
 ·intro v h c hv hF hI
  rw [hInv] at hI
  obtain ⟨g,h3,hg,hI⟩:=hI
  simp [fT] at h3 hI
  have b2:=(hF.h c0 (by omega)).trans b1
  have hs:eJ f.const (f.terms.map (·.coef))=j8 f.const g:=by unfold eJ fT; rw [←hI]
  rw [hs]
  by_cases hg0:g=0
  ·simp [hv,h3,hg0,b2,j8]
   exact (hF1.trans hF).retH
  ·have hg1:(g:Int)≠0:=by omega
   simp [hv,h3,hg0,b2,j8]
   exact (hF1.trans hF).retH
 ·intro i t ts v h c hi hx hl hv hF hI
  rw [hInv] at hI
  obtain ⟨g,h3,hg,hI⟩:=hI
  simp at h3
  have hw:=ah (x:=(i:Int)+1) (by omega) (by omega)
  have ht:=hf t (aR hl)
  have hcc:=hF.c
  simp [hv,hi,hx,Term.cells,h3]
  refine ACalls.pure (tS g t.coef (by simpa using hg) ht) fun c2 hc2=>?_
  simp [hv,hw]
  refine ⟨hF.upd hcc (by omega),?_⟩
  rw [hInv]
  refine ⟨Nat.gcd g t.coef.natAbs,by simp,?_,by simpa [fT] using hI⟩
  have:=om [t.coef] g (fun c hc=>by rw [List.mem_singleton.1 hc]; exact ht) hg
  exact this
theorem vD (f:Wb.Form):aG Pg Fn23.n [f.av] (.tup [.bool (decide (aL f=0)&&eJ f.const (f.terms.map (·.coef))),.int (aL f)]):=by
 rintro ⟨h0,c0⟩
 have hcf:=oe f
 have hso:=rA f
 simp only [Form.av,Form.cells] at hcf hso
 refine Fn23.calls .frz ?_
 unfold Fn23.ac
 simp [Form.av,Form.cells]
 refine ACalls.pure hcf fun c1 hc1=>?_
 by_cases hz:aL f=0
 ·have hok:=ej hz
  simp [hz]
  refine ACalls.pure (hso fun t ht=>by have:=hok.coef t ht; omega) fun c2 hc2=>?_
  simp
 ·simp [hz]
theorem rC (f:Wb.Form) (hf:∀ t∈f.terms,t.coef.natAbs≤1000000):aG Pg Fn85.n [f.av] (.bool (eJ f.const (f.terms.map (·.coef)))):=by
 rintro ⟨h0,c0⟩
 refine ACalls.small fun hsm=>?_
 have hlen:f.terms.length≤68719476736:=by simp [Form.av,Form.cells] at hsm; omega
 refine Fn85.calls .frz ?_
 unfold Fn85.ac
 simp [Form.av,Form.cells]
 obtain ⟨h1,hh1⟩:∃ h1,h1=upd h0 c0 (some (.row 2 [[.int f.const,row (f.terms.map Term.cells)]] .live none)):=⟨_,rfl⟩
 have hF1:Fr c0 h0 h1 (c0+1):=by rw [hh1]; exact (Fr.refl _ _).upd (Nat.le_refl _) (Nat.le_succ _)
 have b1:h1 c0=_:=(congrFun hh1 c0).trans af
 simp [←hh1,b1]
 obtain ⟨Inv,hInv⟩:∃ Inv:Nat→List Wb.Term→Slots→St→Prop,Inv=fun i r sl s'=>∃ g:Nat,sl 3=.int g∧g≤1000000∧fT g (r.map (·.coef))=fT 0 (f.terms.map (·.coef)):=⟨_,rfl⟩
 refine bq 11 Fn85.W0 f.terms Inv (by rfl) (by rfl) ?_ ?_ ?_
 ·rw [hInv]; exact ⟨by simp,0,by simp,by omega,rfl⟩
 ·intro v h c hv hF hI
  rw [hInv] at hI
  obtain ⟨g,h3,hg,hI⟩:=hI
  simp [fT] at h3 hI
  have b2:=(hF.h c0 (by omega)).trans b1
  have hs:eJ f.const (f.terms.map (·.coef))=j8 f.const g:=by unfold eJ fT; rw [←hI]
  rw [hs]
  by_cases hg0:g=0
  ·simp [hv,h3,hg0,b2,j8]
   exact (hF1.trans hF).retH
  ·have hg1:(g:Int)≠0:=by omega
   simp [hv,h3,hg0,b2,j8]
   exact (hF1.trans hF).retH
 ·intro i t ts v h c hi hx hl hv hF hI
  rw [hInv] at hI
  obtain ⟨g,h3,hg,hI⟩:=hI
  simp at h3
  have hw:=ah (x:=(i:Int)+1) (by omega) (by omega)
  have ht:=hf t (aR hl)
  have hcc:=hF.c
  have hneg:IntKind.i64.wrap (-t.coef) = -t.coef:=ah (by omega) (by omega)
  obtain ⟨m,hm,hm2⟩:∃ m:Nat,(if t.coef < -t.coef then -t.coef else t.coef)=m∧m=t.coef.natAbs:=⟨t.coef.natAbs,by split <;> omega,rfl⟩
  obtain ⟨h2,hh2⟩:∃ h2,h2=upd h c (some (.row 2 [[.str t.name,.int t.coef]] .live none)):=⟨_,rfl⟩
  have hF2:Fr (c0+1) h1 h2 (c+1):=by rw [hh2]; exact hF.upd hcc (Nat.le_succ _)
  have b2:h2 c=_:=(congrFun hh2 c).trans af
  simp [hv,hi,hx,Term.cells,h3,hneg,hm]
  rw [←hh2]
  obtain ⟨Inv2,hInv2⟩:∃ Inv:Nat→Slots→St→Prop,Inv=fun n sl s'=>s'=⟨h2,c+1⟩∧∃ x y:Nat,sl 6=.int x∧sl 7=.int y∧n=y∧Nat.gcd x y=Nat.gcd g m∧x≤1000000∧y≤1000000:=⟨_,rfl⟩
  refine di Fn85.W1 (by rfl) Inv2 m ?_ ?_
  ·rw [hInv2]; exact ⟨rfl,g,m,by simp,by simp,rfl,rfl,hg,by omega⟩
  ·intro n v2 s2 hI2
   rw [hInv2] at hI2
   obtain ⟨rfl,x,y,q6,q7,hn,hgg,hx',hy'⟩:=hI2
   simp at q6 q7
   by_cases hy0:y=0
   ·subst hy0
    simp at hgg
    simp [q6,q7,hv,hw]
    refine ⟨hF2,?_⟩
    rw [hInv]
    refine ⟨x,by simp,hx',?_⟩
    rw [hgg,hm2]
    simpa [fT] using hI
   ·have hpos:(0:Int)<y:=by omega
    have hne:¬(y:Int)=0:=by omega
    have htm:(x:Int).tmod y=((x % y:Nat):Int):=by rw [Int.tmod_eq_emod_of_nonneg (by omega)]; simp
    have hyp:0<y:=by omega
    simp [q6,q7,hpos,hyp,hy0,hne,htm]
    refine ⟨x % y,by rw [hn]; exact Nat.mod_lt _ (by omega),?_⟩
    rw [hInv2]
    exact ⟨rfl,y,x % y,by simp,by simp,rfl,by rw [←hgg,Nat.gcd_comm y,←Nat.gcd_rec,Nat.gcd_comm],hy',by have:=Nat.mod_lt x (show 0<y by omega); omega⟩
theorem vF (f:Wb.Form) (hf:∀ t∈f.terms,t.coef.natAbs≤1000000):aG Pg Fn26.n [f.av] (.bool (eJ f.const (f.terms.map (·.coef)))):=by
 rintro ⟨h0,c0⟩
 have hso:=rC f hf
 simp only [Form.av,Form.cells] at hso
 refine Fn26.calls .frz ?_
 unfold Fn26.ac
 simp [Form.av,Form.cells]
 refine ACalls.pure hso fun c1 hc1=>?_
 simp
end Go.Proofs.YtjhogglgkjcacaaGreat
set_option maxRecDepth 20000
set_option maxHeartbeats 4000000
namespace Go.Proofs.YtjhogglgkjcacaaGreat
open Go.AM Go.Wb
@[simp] theorem xr (l:List Wb.Slot):aP (l.map Slot.cells)=l.map Slot.cells:=bY sm l
theorem vN (l:List Wb.Slot):aG Pg Fn81.n [row (l.map Slot.cells)] (.int (bo ⟨#[]⟩ l)):=by
 rintro ⟨h0,c0⟩
 refine ACalls.small fun hs=>?_
 have hlen:l.length≤68719476736:=by simp at hs; omega
 refine Fn81.calls .frz ?_
 unfold Fn81.ac
 simp
 refine bq 7 Fn81.W0 l (fun i r sl s'=>∃ last,bo ⟨#[]⟩ l=bo last r∧(i=0→last=⟨#[]⟩)∧∀ t,0<i→l[i-1]?=some t→t.name=last) (by rfl) (by rfl) ?_ ?_ ?_
 ·simp
 ·intro v h c hv hF hI
  obtain ⟨last,hI,_⟩:=hI
  simp [hv,hI,bo]
  exact hF.retH
 ·intro i t ts v h c hi hx hl hv hF hI
  obtain ⟨last,hI,hI0,hI1⟩:=hI
  have hw:=ah (x:=(i:Int)+1) (by omega) (by omega)
  have hcc:=hF.c
  have hres:∀ {b},retH c0 h0 (upd h c b)=h0:=fun {b}=>ay fun k hk=>by rw [ad (by omega),hF.h k hk]
  simp [hv,hi,hx,Slot.cells]
  refine ACalls.pure (ie t.name) fun c2 hc2=>?_
  cases h3:bh t.name
  ·simp [h3,hI,bo,hres]
  simp
  refine ACalls.pure (d6 _ _ _) fun c3 hc3=>?_
  by_cases h5:-1000000≤t.value∧t.value≤1000000
  case neg=>simp [h5,hI,bo,h3,hres]
  simp [h5]
  have hnext:Fr c0 h0 (upd h c (some (.row 2 [[.str t.name,.int t.value]] .live none))) c3:=hF.upd hcc (by omega)
  by_cases h6:i=0
  ·subst h6
   have hl0:=hI0 rfl
   subst hl0
   have hs:=po h3
   have hw1:IntKind.i64.wrap 1=1:=by decide
   simp [hw1,hv,hnext]
   rw [hI]; simp [bo,h3,h5,hs]
  ·have h6':0<i:=by omega
   have hi1:i-1<l.length:=by omega
   have hn:=hI1 l[i-1] h6' (List.getElem?_eq_getElem hi1)
   have hw2:IntKind.i64.wrap ((i:Int)-1)=((i-1:Nat):Int):=by rw [ah (by omega) (by omega)]; omega
   simp [h6,h6',hw2,hi1,hn,Slot.cells]
   by_cases h7:sle t.name last=true
   ·simp [h7,hI,bo,h3,h5,hres]
   ·simp [h7,hw,hv,hnext]
    rw [hI]; simp [bo,h3,h5,h7]
theorem rD (l:List Wb.Slot):aG Pg Fn87.n [row (l.map Slot.cells)] (.int (bo ⟨#[]⟩ l)):=by
 rintro ⟨h0,c0⟩
 refine ACalls.small fun hs=>?_
 have hlen:l.length≤68719476736:=by simp at hs; omega
 refine Fn87.calls .frz ?_
 unfold Fn87.ac
 simp
 refine bq 8 Fn87.W0 l (fun i r sl s'=>∃ last,sl 3=.str last∧bo ⟨#[]⟩ l=bo last r) (by rfl) (by rfl) ?_ ?_ ?_
 ·simp
 ·intro v h c hv hF hI
  obtain ⟨last,h3,hI⟩:=hI
  simp [hv,hI,bo]
  exact hF.retH
 ·intro i t ts v h c hi hx hl hv hF hI
  obtain ⟨last,h3',hI⟩:=hI
  simp at h3'
  have hw:=ah (x:=(i:Int)+1) (by omega) (by omega)
  have hcc:=hF.c
  have hres:∀ {b},retH c0 h0 (upd h c b)=h0:=fun {b}=>ay fun k hk=>by rw [ad (by omega),hF.h k hk]
  simp [hv,hi,hx,Slot.cells]
  refine ACalls.pure (fN t.name) fun c2 hc2=>?_
  cases h3:bh t.name
  ·simp [h3,hI,bo,hres]
  simp
  refine ACalls.pure (co _ _ _) fun c3 hc3=>?_
  by_cases h5:-1000000≤t.value∧t.value≤1000000
  case neg=>simp [h5,hI,bo,h3,hres]
  have hnext:Fr c0 h0 (upd h c (some (.row 2 [[.str t.name,.int t.value]] .live none))) c3:=hF.upd hcc (by omega)
  simp [h5,h3']
  by_cases h7:sle t.name last=true
  ·simp [h7,hI,bo,h3,h5,hres]
  ·simp [h7,hw,hv,hnext]
   rw [hI]; simp [bo,h3,h5,h7]
theorem vO (x y:Wb.Slot):aG Pg Fn83.n [.agg x.cells,.agg y.cells] (.bool (decide (x.name=y.name))):=by
 rintro ⟨h0,c0⟩
 refine Fn83.calls .frz ?_
 unfold Fn83.ac
 have hne:¬c0=c0+1:=by omega
 simp [Slot.cells,hne]
theorem vQ (x y:Wb.Slot):aG Pg Fn88.n [.agg x.cells,.agg y.cells] (.bool (decide (x.name=y.name))):=by
 rintro ⟨h0,c0⟩
 refine Fn88.calls .frz ?_
 unfold Fn88.ac
 have hne:¬c0=c0+1:=by omega
 simp [Slot.cells,hne]
theorem eo (f:Nat) (hf:∀ x y:Wb.Slot,aG Pg f [.agg x.cells,.agg y.cells] (.bool (decide (x.name=y.name)))) (l l':List Wb.Slot) :
  aG Pg Fn82.n [row (l.map Slot.cells),row (l'.map Slot.cells),.fn (.func f) [] []] (.bool (decide (l.map (·.name)=l'.map (·.name)))):=by
 rintro ⟨h0,c0⟩
 refine ACalls.small fun hs=>?_
 have hlen:l.length≤68719476736:=by simp at hs; omega
 refine Fn82.calls .frz ?_
 unfold Fn82.ac
 by_cases hll:l.length=l'.length
 case neg=>
  have hne:¬l.map (·.name)=l'.map (·.name):=fun e=>hll (by have:=congrArg List.length e; simpa using this)
  have hll':¬(l.length:Int)=l'.length:=by omega
  simp [hll,hll',hne]
 simp [hll]
 obtain ⟨V,hV⟩:∃ V,V=decide (l.map (·.name)=l'.map (·.name)):=⟨_,rfl⟩
 rw [←hV]
 obtain ⟨Inv,hInv⟩:∃ Inv:Nat→List Wb.Slot→Slots→St→Prop,Inv=fun (i:Nat) r sl s'=>V=decide (r.map (·.name)=(l'.drop i).map (·.name)):=⟨_,rfl⟩
 refine bq 17 Fn82.W0 l Inv (by rfl) (by rfl) ?_ ?_ ?_
 ·rw [hInv]; exact ⟨by simp [hll],by rw [hV]; rfl⟩
 ·intro v h c hv hF hI
  rw [hInv] at hI
  have e:l'.drop l.length=[]:=List.drop_of_length_le (by omega)
  rw [e] at hI
  simp at hI
  subst hI
  simp [hv,hll]
  exact hF.retH
 ·intro i x xs v h c hi hx hl hv hF hI
  rw [hInv] at hI
  have hw:=ah (x:=(i:Int)+1) (by omega) (by omega)
  have hcc:=hF.c
  have hne:¬c=c+1:=by omega
  have hi':i<l'.length:=by omega
  have hfx:=hf x l'[i]
  rw [List.drop_eq_getElem_cons hi'] at hI
  simp only [Slot.cells] at hfx
  have hxi:l[i]?=some x:=by rw [List.getElem?_eq_getElem hi,hx]
  have hlt:i<l.length:=hi
  simp [hv,hi',hi,hx,hxi,hll▸hi',Slot.cells,hne]
  refine ACalls.pure hfx fun c2 hc2=>?_
  have hF2:∀ b b',Fr c0 h0 (upd (upd h c b) (c+1) b') c2:=fun b b'=>(hF.upd hcc (Nat.le_succ _)).upd (by omega) (by omega)
  by_cases hn:x.name=l'[i].name
  ·simp [hv,hw,hn,hF2]
   rw [hInv]
   show V=_
   rw [hI]
   simp only [List.map_cons,hn,List.cons.injEq,true_and]
  ·have hVf:V=false:=by rw [hI]; exact decide_eq_false fun e=>hn (by simp only [List.map_cons,List.cons.injEq] at e; exact e.1)
   simp [hn,hVf]
   exact (hF2 _ _).retH
end Go.Proofs.YtjhogglgkjcacaaGreat
