/- Part of the claim: see its last text. -/
import Derived.Test.YtjhogglgkjcacaaGreatMc0
import Derived.Test.YtjhogglgkjcacaaGreatMa32
import Derived.Shelf.SlMaps.Clone
import Derived.Test.YtjhogglgkjcacaaGreatMa33
set_option linter.all false
set_option maxRecDepth 20000
set_option maxHeartbeats 4000000
namespace Go.Proofs.YtjhogglgkjcacaaGreat
open Go.AM Go.Wb
theorem tq (x:ByteArray) (k:Int) (hk:k=0∨k=1):aO Pg Fn142.n [.str x,.int k] (.str (if k=0 then ⟨#[]⟩ else x)):=by
 intro s
 refine Fn142.calls .frz ?_
 unfold Fn142.ac
 rcases hk with rfl | rfl <;> simp
@[simp] theorem _root_.Go.AM.reOk_cv {t:Nat} {k:CK} {x:X} {sl:Slots} {s:St}:eA (t,none,.cv k x) sl s↔cvI k (x.ev sl) s=some (sl t):=by
 simp only [eA,gdI,aJ]
 constructor
 ·rintro (h | ⟨_,h⟩)
  ·cases h
  ·cases hl:cvI k (x.ev sl) s with
   | none=>rw [hl] at h; cases h
   | some v=>rw [hl] at h; simp at h; rw [h]
 ·intro h
  exact .inr ⟨trivial,by rw [h]; rfl⟩
section
variable {P:Program} {a:AO} {post:List AO} {K:Slots→St→Prop} {e:AO} {r:List (Bool×AO)} {sl:Slots} {s:St}
theorem _root_.Go.AM.roamW_t:cg P a post K ((true,e)::r) sl s=(aN P (a.cut (e::r.map (·.2))::e::(r.map (·.2)++post)) K sl s∧aN P [e] (cg P a post K r) sl s):=by
 simp only [cg,true_imp_iff]
@[simp] theorem _root_.Go.AM.cut_mk {d:Option Nat} {g:Option (Nat×Bool)} {m:Md} {i:I} {re:List (Nat×Option (Nat×Bool)×I)} {l:List AO}:AO.cut ⟨d,g,m,i,re⟩ l=⟨d,g,m,i,re.filter fun q=>l.all fun o=>o.dst != some q.1⟩:=Eq.trans rfl rfl
theorem _root_.Go.AM.roamW_f:cg P a post K ((false,e)::r) sl s=aN P [e] (cg P a post K r) sl s:=by
 simp only [cg,Bool.false_eq_true,false_imp_iff,true_and]
theorem _root_.Go.AM.roamW_n:cg P a post K [] sl s=aN P (a::post) K sl s:=Eq.trans rfl rfl
theorem _root_.Go.AM.roamW_cut {pre:List (Bool×AO)} (W:List Nat) (hW:gS (fO (a::(pre.map (·.2)++post))) W=true) (Post:Slots→St→Prop) (h:cg P a post Post pre sl s) (hk:∀ v s',Post (ov W sl v) s'→K (ov W sl v) s'):cg P a post K pre sl s:=by
 refine ij pre (mF pre h) fun sl' s' hp=>?_
 have e:ov W sl sl'=sl':=rR fun t ht=>hp.2 t (ll hW ht)
 have:=hk sl' s' (by rw [e]; exact hp.1)
 rwa [e] at this
end
theorem dD {sz:Nat} {zs el:List AV} (hz:aB sz zs=true) (h0:0<sz) (hok:aB sz el=true) (s:St):bsI sz zs 1 [(0,.agg el)] .plain s=some (.sl [el] true,s):=by
 unfold bsI
 rw [if_pos ⟨h0,hz,by decide⟩]
 have hf:aw sz (List.replicate 1 zs) [(0,.agg el)]=some [el]:=by
  show (if aB sz el=true∧0<(List.replicate 1 zs).length then _ else _)=_
  rw [if_pos ⟨hok,by simp⟩]; rfl
 rw [hf]; rfl
theorem qE {g k:Nat} (hne:g≠k) {h:Heap} {a b:Option Body}:upd (upd h g a) k b=upd (upd h k b) g a:=by
 funext j
 show (if j=k then b else if j=g then a else h j)=if j=g then a else if j=k then b else h j
 by_cases h1:j=k
 ·rw [if_pos h1,if_pos h1,if_neg (by omega)]
 ·rw [if_neg h1,if_neg h1]
theorem lB (z:Int) (b:Bool) (s:St):cvI .b2s (.sl [[.sc (.int .u8 z)]] b) s=some (.str ⟨#[UInt8.ofNat z.toNat]⟩):=by
 rfl
theorem rC {x y:ByteArray} (h:x.size+y.size≤1000000):eT .add x y=some (.string (x++y)):=by
 have hm:IntKind.i64.max=9223372036854775807:=by decide
 unfold eT
 rw [if_neg (by rw [hm]; omega)]
def wv (L:List Int) (g gn:Nat) (h0:Heap) (c0:Nat) (n a:Int) (A C:Nat) (K:Int) (es:List (List AV)) (gr:Nat) (h:Heap) (c:Nat):Prop:=
 ∃ (m:Nat) (n' a':Int) (S:Nat→Prop),c0≤gr∧gr<c∧h gr=some (.row 15 es .live none)∧Tr 2 h S es m∧(∀ k,S k→c0≤k∧k<c∧k≠gr)∧m≤C∧h gn=some (.row 1 [[.int n']] .live none)∧n≤n'∧n'≤n+A∧SM h g L a'∧a≤a'∧a'≤a+K∧∀ k,k<c0→k≠g→k≠gn→h k=h0 k
def StI (L:List Int) (g gn:Nat) (h0:Heap) (c0:Nat) (around:List ByteArray) (n a:Int) (A C:Nat) (K:Int) (i:Nat) (es:List (List AV)) (gr:Nat) (h:Heap) (c:Nat):Prop:=
 ∃ (m:Nat) (n' a':Int) (S:Nat→Prop),es.length=i∧c0<gr∧gr<c∧h gr=some (.row 15 es .live none)∧Tr 2 h S es m∧(∀ k,S k→c0<k∧k<c∧k≠gr)∧m≤i*(1+C)∧h gn=some (.row 1 [[.int n']] .live none)∧n≤n'∧n'≤n+i*A∧SM h g L a'∧a≤a'∧a'≤a+i*(120+K) ∧
  h c0=some (.row 1 [[row (ay around)]] .live none)∧∀ k,k<c0→k≠g→k≠gn→h k=h0 k
theorem StI.next {L:List Int} {g gn:Nat} {h0:Heap} {c0:Nat} {around:List ByteArray} {n a:Int} {A C:Nat} {K:Int} {i:Nat} {es:List (List AV)} {gr:Nat} {h h2:Heap} {c c2:Nat} {e:List AV} {Se:Nat→Prop} {m1:Nat} {n1 n2 a1 a2:Int}
  {S:Nat→Prop} {m:Nat} (hg:g<c0) (hgn:gn<c0) (hi:es.length=i) (q1:c0<gr) (q2:gr<c) (hgr:h gr=some (.row 15 es .live none)) (ht:Tr 2 h S es m) (hS:∀ k,S k→c0<k∧k<c∧k≠gr) (hm:m≤i*(1+C)) (hn1:n1≤n+i*A) (hn0:n≤n1) (ha1:a1≤a+i*(120+K)) (ha0:a≤a1)
  (hb:h c0=some (.row 1 [[row (ay around)]] .live none)) (hfr:∀ k,k<c0→k≠g→k≠gn→h k=h0 k)
  (hc2:c≤c2) (hsame:∀ k,k<c→k≠g→k≠gn→h2 k=h k) (hte:Tr 2 h2 Se [e] m1) (hSe:∀ k,Se k→c≤k∧k<c2) (hm1:m1≤1+C) (hn2:n2≤n1+A) (hn3:n1≤n2) (hgn2:h2 gn=some (.row 1 [[.int n2]] .live none)) (hsm:SM h2 g L a2) (ha2:a2≤a1+(120+K)) (ha3:a1≤a2) :
  StI L g gn h0 c0 around n a A C K (i+1) (es++[e]) c2 (upd (upd h2 gr none) c2 (some (.row 15 (es++[e]) .live none))) (c2+1):=by
 have e1:∀ k,k≠gr→k≠c2→upd (upd h2 gr none) c2 (some (.row 15 (es++[e]) .live none)) k=h2 k:=fun k hk hk2=>by rw [ad hk2,ad hk]
 have hmm:(i+1)*(1+C)=i*(1+C)+(1+C):=Nat.succ_mul _ _
 have hnn:((i+1:Nat):Int)*A=i*A+A:=by rw [Int.natCast_add,Int.add_mul]; simp
 have haa:((i+1:Nat):Int)*(120+K)=i*(120+K)+(120+K):=by rw [Int.natCast_add,Int.add_mul]; simp
 refine ⟨m+m1,n2,a2,fun k=>S k∨Se k,by simp [hi],by omega,by omega,ah,?_,?_,by rw [hmm]; omega,?_,by omega,by rw [hnn]; omega,?_,by omega,by rw [haa]; omega,?_,?_⟩
 ·refine Tr.app (Tr.frame (Tr.frame ht (h':=h2) fun k hk=>?_) fun k hk=>?_) (Tr.frame hte fun k hk=>?_) fun k h1 h2=>?_
  ·have:=hS k hk; exact hsame k this.2.1 (by omega) (by omega)
  ·have:=hS k hk; exact e1 k this.2.2 (by omega)
  ·have:=hSe k hk; exact e1 k (by omega) (by omega)
  ·have:=hS k h1; have:=hSe k h2; omega
 ·intro k hk
  rcases hk with hk | hk
  ·have:=hS k hk; omega
  ·have:=hSe k hk; omega
 ·rw [e1 _ (by omega) (by omega)]; exact hgn2
 ·unfold SM; rw [e1 _ (by omega) (by omega)]; exact hsm
 ·rw [e1 _ (by omega) (by omega),hsame _ (by omega) (by omega) (by omega)]; exact hb
 ·intro k hk hk1 hk2
  rw [e1 _ (by omega) (by omega),hsame _ (by omega) hk1 hk2]; exact hfr k hk hk1 hk2
def StC (L:List Int) (g gn:Nat) (deep:Int) (A C:Nat) (K:Int):Prop:=∀ (around:List ByteArray) (most n a:Int) (h0:Heap) (c0:Nat),around.length≤90-deep→1≤most→most≤2→SM h0 g L a→0≤a→a+K<700000000→h0 gn=some (.row 1 [[.int n]] .live none)→0≤n→n+A≤16→g<c0→gn<c0 →
 ACalls Pg Fn54.n [.ptr g 0 0,row (ay around),.int deep,.int most,.ptr gn 0 0] ⟨h0,c0⟩ fun av s'=>∃ (es:List (List AV)) (gr:Nat),es.length≤2∧av=.row gr 15 0 es.length∧wv L g gn h0 c0 n a A C K es gr s'.h s'.c
theorem cN (L:List Int) (hL:L.length≤1048576) (g gn:Nat) (hgn:g≠gn) (deep:Int) (hd1:1≤deep) (hd2:deep≤20) (A C:Nat) (K:Int) (hA:1≤A) (hA2:A≤1000) (hK:0≤K) (hsub:1<deep→StC L g gn (deep-1) A C K) :
  StC L g gn deep (2*A) (2*(1+C)) (1+2*(120+K)):=by
 intro around most n a h0 c0 har hm1 hm2 hs ha ha' hn hn0 hnA hg hgnc
 refine Fn54.calls .keep ?_
 unfold Fn54.ac
 have hgc:¬g=c0:=by omega
 have hcg:¬c0=g:=by omega
 have hnc:¬gn=c0:=by omega
 have hcn:¬c0=gn:=by omega
 simp
 refine ACalls.draw (R:=fun v=>∃ k,v=.int k∧1≤k∧(1≤most→k≤most)∧(most<1→k=1)) (lu L a 1 most g _ _ (by omega) (by omega) (by omega) (by unfold SM; rw [ad (by omega),ad hgc]; exact hs) ha (by omega) hL (by omega)) fun v h1 c1 a1 hv hc1 q1 q2 q3 q4=>?_
 obtain ⟨k,rfl,hk1,hk2,_⟩:=hv
 have hk2':=hk2 hm1
 obtain ⟨kn,hkn⟩:∃ kn:Nat,k=kn:=⟨k.toNat,by omega⟩
 subst hkn
 simp
 obtain ⟨Inv,hInv⟩:∃ Inv:Nat→List Unit→Slots→St→Prop,Inv=fun i r sl s'=>∃ (es:List (List AV)) (gr:Nat),sl 11=.row gr 15 0 es.length∧StI L g gn h0 c0 around n a1 A C K i es gr s'.h s'.c:=⟨_,rfl⟩
 refine bq 22 Fn54.W0 (List.replicate kn ()) Inv (by rfl) (by rfl) ?_ ?_ ?_
 ·rw [hInv]
  refine ⟨by simp,[],c0+1,by simp,0,n,a1,fun _=>False,rfl,by omega,by show c0+1<c1; omega,?_,.nil _,fun _ h=>h.elim,by omega,?_,by omega,by omega,q3,by omega,by omega,?_,?_⟩
  ·show h1 (c0+1)=_
   rw [q4 _ (by omega),ah]
  ·show h1 gn=_
   rw [q4 _ (by omega),ad (by omega),ad hnc]; exact hn
  ·show h1 c0=_
   rw [q4 _ hcg,ad (by omega),ah]
  ·intro k hk hk1 hk2
   show h1 k=_
   rw [q4 _ hk1,ad (by omega),ad (by omega)]
 ·intro v s' hv hI
  rw [hInv] at hI
  obtain ⟨es,gr,h11,m,n',a',S,hlen,p1,p2,p3,p4,p5,p6,p7,p8,p9,p10,p11,p12,p13,p14⟩:=hI
  obtain ⟨h,c⟩:=s'
  simp at h11 hv hlen p6 p9 p12
  simp only at p1 p2 p3 p4 p5 p7 p10 p13 p14
  simp [hv,h11,hInv]
  have hk12:kn=1∨kn=2:=by omega
  refine ⟨es,by omega,gr,⟨rfl,rfl⟩,m,n',a',S,by omega,p2,p3,p4,fun k hk=>⟨by have:=p5 k hk; omega,(p5 k hk).2⟩,?_,p7,p8,?_,p10,by omega,?_,p14⟩
  ·rcases hk12 with e | e <;> rw [e] at p6 <;> omega
  ·rcases hk12 with e | e <;> rw [e] at p9 <;> omega
  ·rcases hk12 with e | e <;> rw [e] at p12 <;> omega
 ·intro i x xs v s' hi hx hl2 hv hI
  rw [hInv] at hI
  obtain ⟨es,gr,h11,m,n',a',S,hlen,p1,p2,p3,p4,p5,p6,p7,p8,p9,p10,p11,p12,p13,p14⟩:=hI
  obtain ⟨h,c⟩:=s'
  simp at h11 hi
  simp only at p1 p2 p3 p4 p5 p7 p10 p13 p14
  have hbs:bsI 1 [.str ⟨#[]⟩] 3 [(0,.str ⟨#[105]⟩),(1,.str ⟨#[106]⟩),(2,.str ⟨#[107]⟩)] .mut ⟨h,c⟩=some (.row c 1 0 3,⟨upd h c (some (.row 1 (ay [⟨#[105]⟩,⟨#[106]⟩,⟨#[107]⟩]) .live none)),c+1⟩):=by
   simp [bsI,aw,ay]
  have hcc0:¬c0=c:=by omega
  have hdel:=tn [⟨#[105]⟩,⟨#[106]⟩,⟨#[107]⟩] Fn138.n [] [.ptr c0 0 0] (fun x=>inL x around) (upd h c (some (.row 1 (ay [⟨#[105]⟩,⟨#[106]⟩,⟨#[107]⟩]) .live none))) c (c+1) (by simp) (by simp) (fun x h' c' hh hc'=>by
   refine (tp around x c0 h' c' ?_)
   rw [hh _ hcc0,ad hcc0]; exact p13)
  simp only [List.length_cons,List.length_nil] at hdel
  simp [hv,hi,hbs]
  refine hdel.mono ?_
  rintro av ⟨h2,c2⟩ hc2 ⟨nl,nk,rfl,hnk,hnl,hn2,hfr2⟩
  simp only at hc2 hn2 hfr2
  have hfr2':∀ k,k≠c→h2 k=h k:=fun k hk=>by rw [hfr2 k hk,ad hk]
  simp
  have hiA:(i:Int)≤1:=by omega
  have hi01:(i:Int)=0∨(i:Int)=1:=by omega
  have hiK:(i:Int)*(120+K)≤120+K:=by rcases hi01 with e | e <;> rw [e] <;> omega
  have hiA2:(i:Int)*A≤A:=by rcases hi01 with e | e <;> rw [e] <;> omega
  refine ACalls.draw (cu L a' 6 g h2 c2 (by omega) (by unfold SM; rw [hfr2' _ (by omega)]; exact p10) (by omega) (by omega) hL (by omega)) fun w h3 c3 a3 hw hc3 r1 r2 r3 r4=>?_
  obtain ⟨k1,rfl,hk3,hk4,_⟩:=hw
  simp [h11]
  have hb3:h3 c0=some (.row 1 [[row (ay around)]] .live none):=by rw [r4 _ hcg,hfr2' _ hcc0]; exact p13
  have hgn3:h3 gn=some (.row 1 [[.int n']] .live none):=by rw [r4 _ (Ne.symm hgn),hfr2' _ (by omega)]; exact p7
  by_cases hF:1<deep∧k1<3∧0<nk
  ·obtain ⟨hd,hk13,hnk0⟩:=hF
   simp [hd,hk13,hnk0]
   obtain ⟨mk,hmk⟩:∃ mk:Int,mk=(if (nk:Int)<2 then (nk:Int) else 2):=⟨_,rfl⟩
   have hmk2:1≤mk∧mk≤nk∧mk≤2:=by rw [hmk]; split <;> omega
   rw [←hmk]
   refine ACalls.draw (cu L a3 mk g h3 c3 (by omega) r3 (by omega) (by omega) hL (by omega)) fun w h4 c4 a4 hw hc4 s1 s2 s3 s4=>?_
   obtain ⟨k2,rfl,hk5,hk6,_⟩:=hw
   have hk6':=hk6 hmk2.1
   obtain ⟨k2n,hk2n⟩:∃ k2n:Nat,k2=k2n:=⟨k2.toNat,by omega⟩
   subst hk2n
   have hk2l:k2n<nl.length:=by omega
   have hk2nk:k2n<nk:=by omega
   have hnl4:h4 c=some (.row 1 (ay nl) .live none):=by rw [s4 _ (by omega),r4 _ (by omega)]; exact hn2
   obtain ⟨vn,hvn⟩:∃ vn,(ay nl)[k2n]?=some [.str vn]:=⟨nl[k2n],by simp [ay,hk2l]⟩
   simp [hk2nk,hnl4,hvn,aM,bsI,aw]
   have hg4:¬g=c4:=by omega
   have h4g:¬c4=g:=by omega
   refine ACalls.draw (R:=fun v=>∃ k,v=.int k∧k∈[0,0,1]) (cm [0,0,1] L a4 g _ _ (by simp) (by simp) (by unfold SM; rw [ad hg4]; exact s3) (by omega) (by omega) hL (by omega)) fun w h5 c5 a5 hw hc5 t1 t2 t3 t4=>?_
   obtain ⟨pk1,rfl,_⟩:=hw
   simp
   refine ACalls.quiet (R:=fun av=>∃ f:Wb.Form,av=f.av) (bA pk1 [] (by simp) (by simp) ⟨h5,c5⟩) fun w c6 hw hc6=>?_
   obtain ⟨f1,rfl⟩:=hw
   simp
   refine ACalls.pure (dK f1 1) fun c7 hc7=>?_
   simp [bsI,aw,Bound.av,Bound.cells]
   refine ACalls.draw (R:=fun v=>∃ k,v=.int k∧k∈[2,3,4]) (cm [2,3,4] L a5 g _ _ (by simp) (by simp) t3 (by omega) (by omega) hL (by omega)) fun w h8 c8 a8 hw hc8 u1 u2 u3 u4=>?_
   obtain ⟨pk2,rfl,_⟩:=hw
   simp
   refine ACalls.quiet (R:=fun av=>∃ f:Wb.Form,av=f.av) (bA pk2 [] (by simp) (by simp) ⟨h8,c8⟩) fun w c9 hw hc9=>?_
   obtain ⟨f2,rfl⟩:=hw
   simp
   refine ACalls.pure (dK f2 1) fun c10 hc10=>?_
   have hx8:h8 c4=some (.row 15 [[.int 1,.str vn,.nil,.nil,.nil,.nil,.str ⟨#[]⟩,.nil,.int 0,.int 0,.int 0,.nil,.str ⟨#[]⟩,.nil,.nil]] .live none):=by rw [u4 _ h4g,t4 _ h4g,ah]
   have hb8:h8 c0=some (.row 1 [[row (ay around)]] .live none):=by rw [u4 _ hcg,t4 _ hcg,ad (by omega),s4 _ hcg]; exact hb3
   have hc04:¬c0=c4:=by omega
   by_cases har0:around=[]
   ·have hsl0:(ay around).length=0:=by rw [har0]; rfl
    simp [bsI,aw,Bound.av,Bound.cells,hx8,hb8,hc04,hsl0]
    obtain ⟨hh,hhe⟩:∃ hh,hh=upd h8 c4 (some (.row 15 [[.int 1,.str vn,.sl [[.int f1.const,row (f1.terms.map Term.cells),.int 1]] true,.sl [[.int f2.const,row (f2.terms.map Term.cells),.int 1]] true,.nil,.nil,.str ⟨#[]⟩,.nil,.int 0,.int 0,.int 0,.nil,.str ⟨#[]⟩,.nil,.nil]] .live none)):=⟨_,rfl⟩
    have hX:=(congrFun hhe c4).trans ah
    have hB:hh c0=some (.row 1 [[row (ay around)]] .live none):=by rw [hhe,ad (by omega)]; exact hb8
    have hN:hh gn=some (.row 1 [[.int n']] .live none):=by rw [hhe,ad (by omega),u4 _ (by omega),t4 _ (by omega),ad (by omega),s4 _ (by omega)]; exact hgn3
    have hM:SM hh g L a8:=by unfold SM; rw [hhe,ad (by omega)]; exact u3
    have hF:∀ k,k<c→k≠g→hh k=h k:=fun k hk hkg=>by rw [hhe,ad (by omega),u4 _ hkg,t4 _ hkg,ad (by omega),s4 _ hkg,r4 _ hkg,hfr2' _ (by omega)]
    rw [←hhe]
    obtain ⟨cc,hcc⟩:∃ cc,cc=c10:=⟨_,rfl⟩
    obtain ⟨aa,haa⟩:∃ aa,aa=a8:=⟨_,rfl⟩
    rw [←hcc]
    rw [←haa] at hM
    have hnlo:norm (.sl [[.int f1.const,row (f1.terms.map Term.cells),.int 1]] true)=row (([⟨f1,1⟩]:List Wb.Bound).map Bound.cells):=by simp [Bound.cells]
    have hnhi:norm (.sl [[.int f2.const,row (f2.terms.map Term.cells),.int 1]] true)=row (([⟨f2,1⟩]:List Wb.Bound).map Bound.cells):=by simp [Bound.cells]
    obtain ⟨lo,hloe⟩:∃ lo:AV,lo=.sl [[.int f1.const,row (f1.terms.map Term.cells),.int 1]] true:=⟨_,rfl⟩
    obtain ⟨hi',hhie⟩:∃ hi':AV,hi'=.sl [[.int f2.const,row (f2.terms.map Term.cells),.int 1]] true:=⟨_,rfl⟩
    have hloc:lo.cell=true:=by rw [hloe]; rfl
    have hhic:hi'.cell=true:=by rw [hhie]; rfl
    rw [←hloe] at hnlo hX
    rw [←hhie] at hnhi hX
    refine (eD around hh cc).mono ?_
    rintro av ⟨h20,c20⟩ hc20 ⟨hF20,hav20⟩
    simp only at hc20 hF20 hav20
    obtain ⟨g20,c21,h21,hap20,hg20,hF21,hg20c⟩:=dZ hF20 hav20 vn (by omega)
    have hslv:(ay (around++[vn])).length=around.length+1:=by simp [ay]
    have hfz20:=cQ (s:=⟨h21,c21⟩) (z:=1) hg20 hslv
    obtain ⟨h22,hh22⟩:∃ h22,h22=upd h21 g20 (some (.row 1 (ay (around++[vn])) .frz none)):=⟨_,rfl⟩
    have hF22:Fr cc hh h22 c21:=by rw [hh22]; exact hF21.upd hg20c (Nat.le_refl _)
    have hX20:=(hF20.h c4 (by omega)).trans hX
    have hB20:=(hF20.h c0 (by omega)).trans hB
    have hwd:=ae (x:=deep-1) (by omega) (by omega)
    have hcc21:=hF22.c
    simp [hX20,hB20,bsI,aw,hap20,hfz20,-dE,hwd,←hh22]
    refine ((hsub hd) (around++[vn]) 2 n' aa h22 c21 (by simp; omega) (by omega) (by omega) (by unfold SM; rw [hF22.h g (by omega)]; exact hM) (by omega) (by omega) ((hF22.h gn (by omega)).trans hN) (by omega) (by omega) (by omega) (by omega)).mono ?_
    rintro av ⟨h23,c23⟩ hc23 ⟨es2,gr2,hes2,rfl,m2,n2,a2,S2,o1,o2,o3,o4,o5,o6,o7,o8,o9,o10,o11,o12,o13⟩
    simp only at hc23 o2 o3 o4 o5 o7 o10 o13
    have hX23:=(o13 c4 (by omega) (by omega) (by omega)).trans ((hF22.h c4 (by omega)).trans hX)
    have hgr23:h23 gr=some (.row 15 es .live none):=(o13 gr (by omega) (by omega) (by omega)).trans ((hF22.h gr (by omega)).trans ((hF gr (by omega) (by omega)).trans p3))
    obtain ⟨el,hel⟩:∃ el:List AV,el=[.int 1,.str vn,lo,hi',.nil,.row gr2 15 0 es2.length,.str ⟨#[]⟩,.nil,.int 0,.int 0,.int 0,.nil,.str ⟨#[]⟩,.nil,.nil]:=⟨_,rfl⟩
    obtain ⟨h24,hh24⟩:∃ h24,h24=upd h23 c4 (some (.row 15 [el] .live none)):=⟨_,rfl⟩
    have hX24:h24 c4=some (.row 15 [el] .live none):=by rw [hh24,ah]
    have hte:Tr 2 h24 (fun k=>S2 k∨k=gr2) [el] (1+m2+0):=by
     rw [hel]
     exact Tr.cons (fun k=>S2 k∨k=gr2) (fun k=>k=gr2) S2 (fun _=>False) 1 vn lo hi' .nil (.row gr2 15 0 es2.length) ⟨#[]⟩ .nil _ ([⟨f1,1⟩]) ([⟨f2,1⟩]) [] [] (.mk 0 0 ⟨0,[]⟩ ⟨#[]⟩ [] []) es2 [] m2 0 hnlo hnhi (by rfl) (by simp [Expr.cells_mk,aQ]) ⟨hloc,hhic,rfl,rfl,by simp⟩ (.inl rfl) (.inr ⟨gr2,rfl,rfl,by rw [hh24,ad (by omega)]; exact o3⟩)
      (o4.frame fun k hk=>by have:=o5 k hk; rw [hh24,ad (by omega)]) (.nil _) (fun _ h=>.inr h) (fun _ h=>.inl h) (fun _ h=>h.elim) (fun k h1 h2=>(o5 k h2).2.2 h1) (fun _ _ h=>h) (fun _ _ h=>h)
    have hok1:aB 15 el=true:=hte.len el (by simp)
    have hgr24:h24 gr=some (.row 15 es .live none):=by rw [hh24,ad (by omega)]; exact hgr23
    have hap24:apI 15 272 .plain (.row gr 15 0 es.length) (.sl [el] true) ⟨h24,c23⟩=_:=bV (by decide) hgr24 rfl (by decide) (by decide) (by decide) hok1 (by omega)
    have hel15:el.length=15:=by rw [hel]; rfl
    have heltk:el.take 15=el:=List.take_of_length_le (by omega)
    have hbs24:=dD (sz:=15) (zs:=[.int 0,.str ⟨#[]⟩,.nil,.nil,.nil,.nil,.str ⟨#[]⟩,.nil,.int 0,.int 0,.int 0,.nil,.str ⟨#[]⟩,.nil,.nil]) (by rfl) (by decide) hok1 ⟨h24,c23⟩
    have hwi:=ae (x:=(i:Int)+1) (by omega) (by omega)
    simp [hX23,hloc,hhic,←hel,←hh24,hX24,h11,hbs24,hap24,hel15,heltk,hv,hwi,hInv]
    refine ⟨es++[el],c23,⟨rfl,by simp⟩,?_⟩
    refine StI.next (n1:=n') (n2:=n2) (a1:=a') (a2:=a2) (Se:=fun k=>S2 k∨k=gr2) (m1:=1+m2+0) (h:=h) (c:=c) hg hgnc hlen p1 p2 p3 p4 p5 p6 p9 p8 p12 p11 p13 p14 (by omega) ?_ hte ?_ (by omega) (by omega) (by omega) ?_ ?_ (by omega) (by omega)
    ·intro k hk hk1 hk2
     rw [hh24,ad (by omega),o13 _ (by omega) hk1 hk2,hF22.h _ (by omega)]; exact hF k hk hk1
    ·intro k hk
     rcases hk with hk | rfl
     ·have:=o5 k hk; omega
     ·omega
    ·rw [hh24,ad (by omega)]; exact o7
    ·unfold SM; rw [hh24,ad (by omega)]; exact o10
   have hal:0<around.length:=List.length_pos_iff.2 har0
   have hsl:(ay around).length=around.length:=by simp [ay]
   simp [bsI,aw,Bound.av,Bound.cells,hx8,hb8,hc04,hsl,hal]
   refine ACalls.draw (eo L a8 4 g _ _ (by omega) (by unfold SM; rw [ad hg4]; exact u3) (by omega) (by omega) hL (by omega)) fun w h12 c12 a12 hw hc12 w1 w2 w3 w4=>?_
   obtain ⟨b12,rfl⟩:=hw
   have hX12:=(w4 c4 h4g).trans ah
   have hB12:h12 c0=some (.row 1 [[row (ay around)]] .live none):=by rw [w4 _ hcg,ad (by omega)]; exact hb8
   have hN12:h12 gn=some (.row 1 [[.int n']] .live none):=by rw [w4 _ (by omega),ad (by omega),u4 _ (by omega),t4 _ (by omega),ad (by omega),s4 _ (by omega)]; exact hgn3
   have hF12:∀ k,k<c→k≠g→h12 k=h k:=fun k hk hkg=>by rw [w4 _ hkg,ad (by omega),u4 _ hkg,t4 _ hkg,ad (by omega),s4 _ hkg,r4 _ hkg,hfr2' _ (by omega)]
   cases b12
   case false=>
    simp
    obtain ⟨hh,hhe⟩:∃ hh,hh=h12:=⟨_,rfl⟩
    obtain ⟨cc,hcc⟩:∃ cc,cc=c12:=⟨_,rfl⟩
    obtain ⟨aa,haa⟩:∃ aa,aa=a12:=⟨_,rfl⟩
    have hX:=hX12
    have hB:=hB12
    have hN:=hN12
    have hM:=w3
    have hF:=hF12
    rw [←hhe] at hX hB hN hM hF
    rw [←haa] at hM
    simp only [←hhe,←hcc]
    simp [hX,hB,bsI,aw]
    have hnlo:norm (.sl [[.int f1.const,row (f1.terms.map Term.cells),.int 1]] true)=row (([⟨f1,1⟩]:List Wb.Bound).map Bound.cells):=by simp [Bound.cells]
    have hnhi:norm (.sl [[.int f2.const,row (f2.terms.map Term.cells),.int 1]] true)=row (([⟨f2,1⟩]:List Wb.Bound).map Bound.cells):=by simp [Bound.cells]
    obtain ⟨lo,hloe⟩:∃ lo:AV,lo=.sl [[.int f1.const,row (f1.terms.map Term.cells),.int 1]] true:=⟨_,rfl⟩
    obtain ⟨hi',hhie⟩:∃ hi':AV,hi'=.sl [[.int f2.const,row (f2.terms.map Term.cells),.int 1]] true:=⟨_,rfl⟩
    have hloc:lo.cell=true:=by rw [hloe]; rfl
    have hhic:hi'.cell=true:=by rw [hhie]; rfl
    rw [←hloe] at hnlo hX
    rw [←hhie] at hnhi hX
    refine (eD around hh cc).mono ?_
    rintro av ⟨h20,c20⟩ hc20 ⟨hF20,hav20⟩
    simp only at hc20 hF20 hav20
    obtain ⟨g20,c21,h21,hap20,hg20,hF21,hg20c⟩:=dZ hF20 hav20 vn (by omega)
    have hslv:(ay (around++[vn])).length=around.length+1:=by simp [ay]
    have hfz20:=cQ (s:=⟨h21,c21⟩) (z:=1) hg20 hslv
    obtain ⟨h22,hh22⟩:∃ h22,h22=upd h21 g20 (some (.row 1 (ay (around++[vn])) .frz none)):=⟨_,rfl⟩
    have hF22:Fr cc hh h22 c21:=by rw [hh22]; exact hF21.upd hg20c (Nat.le_refl _)
    have hX20:=(hF20.h c4 (by omega)).trans hX
    have hB20:=(hF20.h c0 (by omega)).trans hB
    have hwd:=ae (x:=deep-1) (by omega) (by omega)
    have hcc21:=hF22.c
    simp [hX20,hB20,bsI,aw,hap20,hfz20,-dE,hwd,←hh22]
    refine ((hsub hd) (around++[vn]) 2 n' aa h22 c21 (by simp; omega) (by omega) (by omega) (by unfold SM; rw [hF22.h g (by omega)]; exact hM) (by omega) (by omega) ((hF22.h gn (by omega)).trans hN) (by omega) (by omega) (by omega) (by omega)).mono ?_
    rintro av ⟨h23,c23⟩ hc23 ⟨es2,gr2,hes2,rfl,m2,n2,a2,S2,o1,o2,o3,o4,o5,o6,o7,o8,o9,o10,o11,o12,o13⟩
    simp only at hc23 o2 o3 o4 o5 o7 o10 o13
    have hX23:=(o13 c4 (by omega) (by omega) (by omega)).trans ((hF22.h c4 (by omega)).trans hX)
    have hgr23:h23 gr=some (.row 15 es .live none):=(o13 gr (by omega) (by omega) (by omega)).trans ((hF22.h gr (by omega)).trans ((hF gr (by omega) (by omega)).trans p3))
    obtain ⟨el,hel⟩:∃ el:List AV,el=[.int 1,.str vn,lo,hi',.nil,.row gr2 15 0 es2.length,.str ⟨#[]⟩,.nil,.int 0,.int 0,.int 0,.nil,.str ⟨#[]⟩,.nil,.nil]:=⟨_,rfl⟩
    obtain ⟨h24,hh24⟩:∃ h24,h24=upd h23 c4 (some (.row 15 [el] .live none)):=⟨_,rfl⟩
    have hX24:h24 c4=some (.row 15 [el] .live none):=by rw [hh24,ah]
    have hte:Tr 2 h24 (fun k=>S2 k∨k=gr2) [el] (1+m2+0):=by
     rw [hel]
     exact Tr.cons (fun k=>S2 k∨k=gr2) (fun k=>k=gr2) S2 (fun _=>False) 1 vn lo hi' .nil (.row gr2 15 0 es2.length) ⟨#[]⟩ .nil _ ([⟨f1,1⟩]) ([⟨f2,1⟩]) [] [] (.mk 0 0 ⟨0,[]⟩ ⟨#[]⟩ [] []) es2 [] m2 0 hnlo hnhi (by rfl) (by simp [Expr.cells_mk,aQ]) ⟨hloc,hhic,rfl,rfl,by simp⟩ (.inl rfl) (.inr ⟨gr2,rfl,rfl,by rw [hh24,ad (by omega)]; exact o3⟩)
      (o4.frame fun k hk=>by have:=o5 k hk; rw [hh24,ad (by omega)]) (.nil _) (fun _ h=>.inr h) (fun _ h=>.inl h) (fun _ h=>h.elim) (fun k h1 h2=>(o5 k h2).2.2 h1) (fun _ _ h=>h) (fun _ _ h=>h)
    have hok1:aB 15 el=true:=hte.len el (by simp)
    have hgr24:h24 gr=some (.row 15 es .live none):=by rw [hh24,ad (by omega)]; exact hgr23
    have hap24:apI 15 272 .plain (.row gr 15 0 es.length) (.sl [el] true) ⟨h24,c23⟩=_:=bV (by decide) hgr24 rfl (by decide) (by decide) (by decide) hok1 (by omega)
    have hel15:el.length=15:=by rw [hel]; rfl
    have heltk:el.take 15=el:=List.take_of_length_le (by omega)
    have hbs24:=dD (sz:=15) (zs:=[.int 0,.str ⟨#[]⟩,.nil,.nil,.nil,.nil,.str ⟨#[]⟩,.nil,.int 0,.int 0,.int 0,.nil,.str ⟨#[]⟩,.nil,.nil]) (by rfl) (by decide) hok1 ⟨h24,c23⟩
    have hwi:=ae (x:=(i:Int)+1) (by omega) (by omega)
    simp [hX23,hloc,hhic,←hel,←hh24,hX24,h11,hbs24,hap24,hel15,heltk,hv,hwi,hInv]
    refine ⟨es++[el],c23,⟨rfl,by simp⟩,?_⟩
    refine StI.next (n1:=n') (n2:=n2) (a1:=a') (a2:=a2) (Se:=fun k=>S2 k∨k=gr2) (m1:=1+m2+0) (h:=h) (c:=c) hg hgnc hlen p1 p2 p3 p4 p5 p6 p9 p8 p12 p11 p13 p14 (by omega) ?_ hte ?_ (by omega) (by omega) (by omega) ?_ ?_ (by omega) (by omega)
    ·intro k hk hk1 hk2
     rw [hh24,ad (by omega),o13 _ (by omega) hk1 hk2,hF22.h _ (by omega)]; exact hF k hk hk1
    ·intro k hk
     rcases hk with hk | rfl
     ·have:=o5 k hk; omega
     ·omega
    ·rw [hh24,ad (by omega)]; exact o7
    ·unfold SM; rw [hh24,ad (by omega)]; exact o10
   obtain ⟨q,hqa⟩:∃ q,around.length=q+1:=⟨around.length-1,by omega⟩
   obtain ⟨lv,hlv⟩:∃ lv,(ay around)[q]?=some [.str lv]:=⟨around[q],by simp [ay,hqa]⟩
   have hslq:(ay around).length=q+1:=by rw [hsl,hqa]
   have hwq:=ae (x:=(q:Int)) (by omega) (by omega)
   have hlv2:∀ hq:q<(ay around).length,(ay around)[q]'hq=[.str lv]:=fun hq=>(List.getElem?_eq_some_iff.1 hlv).2
   simp [hX12,hB12,hslq,hwq,hlv,hlv2]
   refine ACalls.draw (cu L a12 4 g h12 c12 (by omega) w3 (by omega) (by omega) hL (by omega)) fun w h13 c13 a13 hw hc13 x1 x2 x3 x4=>?_
   obtain ⟨k7,rfl,hk7,hk8,_⟩:=hw
   have hX13:=(x4 c4 h4g).trans hX12
   have hB13:=(x4 c0 hcg).trans hB12
   have hN13:=(x4 gn (by omega)).trans hN12
   have hF13:∀ k,k<c→k≠g→h13 k=h k:=fun k hk hkg=>(x4 k hkg).trans (hF12 k hk hkg)
   by_cases e0:k7=0
   ·simp [e0,bsI,aw,aM]
    refine ACalls.quiet (R:=fun av=>∃ f:Wb.Form,av=f.av) (bA 0 [⟨lv,1⟩] (by simp) (by simp) ⟨h13,c13⟩) fun w c14 hw hc14=>?_
    obtain ⟨f3,rfl⟩:=hw
    simp
    refine ACalls.pure (dK f3 1) fun c15 hc15=>?_
    simp [bsI,aw,Bound.av,Bound.cells,hX13,hB13,hc04]
    obtain ⟨hh,hhe⟩:∃ hh,hh=upd h13 c4 (some (.row 15 [[.int 1,.str vn,.sl [[.int f3.const,row (f3.terms.map Term.cells),.int 1]] true,.sl [[.int f2.const,row (f2.terms.map Term.cells),.int 1]] true,.nil,.nil,.str ⟨#[]⟩,.nil,.int 0,.int 0,.int 0,.nil,.str ⟨#[]⟩,.nil,.nil]] .live none)):=⟨_,rfl⟩
    have hX:=(congrFun hhe c4).trans ah
    have hB:hh c0=some (.row 1 [[row (ay around)]] .live none):=by rw [hhe,ad (by omega)]; exact hB13
    have hN:hh gn=some (.row 1 [[.int n']] .live none):=by rw [hhe,ad (by omega)]; exact hN13
    have hM:SM hh g L a13:=by unfold SM; rw [hhe,ad (by omega)]; exact x3
    have hF:∀ k,k<c→k≠g→hh k=h k:=fun k hk hkg=>by rw [hhe,ad (by omega)]; exact hF13 k hk hkg
    rw [←hhe]
    obtain ⟨cc,hcc⟩:∃ cc,cc=c15:=⟨_,rfl⟩
    obtain ⟨aa,haa⟩:∃ aa,aa=a13:=⟨_,rfl⟩
    rw [←hcc]
    rw [←haa] at hM
    have hnlo:norm (.sl [[.int f3.const,row (f3.terms.map Term.cells),.int 1]] true)=row (([⟨f3,1⟩]:List Wb.Bound).map Bound.cells):=by simp [Bound.cells]
    have hnhi:norm (.sl [[.int f2.const,row (f2.terms.map Term.cells),.int 1]] true)=row (([⟨f2,1⟩]:List Wb.Bound).map Bound.cells):=by simp [Bound.cells]
    obtain ⟨lo,hloe⟩:∃ lo:AV,lo=.sl [[.int f3.const,row (f3.terms.map Term.cells),.int 1]] true:=⟨_,rfl⟩
    obtain ⟨hi',hhie⟩:∃ hi':AV,hi'=.sl [[.int f2.const,row (f2.terms.map Term.cells),.int 1]] true:=⟨_,rfl⟩
    have hloc:lo.cell=true:=by rw [hloe]; rfl
    have hhic:hi'.cell=true:=by rw [hhie]; rfl
    rw [←hloe] at hnlo hX
    rw [←hhie] at hnhi hX
    refine (eD around hh cc).mono ?_
    rintro av ⟨h20,c20⟩ hc20 ⟨hF20,hav20⟩
    simp only at hc20 hF20 hav20
    obtain ⟨g20,c21,h21,hap20,hg20,hF21,hg20c⟩:=dZ hF20 hav20 vn (by omega)
    have hslv:(ay (around++[vn])).length=around.length+1:=by simp [ay]
    have hfz20:=cQ (s:=⟨h21,c21⟩) (z:=1) hg20 hslv
    obtain ⟨h22,hh22⟩:∃ h22,h22=upd h21 g20 (some (.row 1 (ay (around++[vn])) .frz none)):=⟨_,rfl⟩
    have hF22:Fr cc hh h22 c21:=by rw [hh22]; exact hF21.upd hg20c (Nat.le_refl _)
    have hX20:=(hF20.h c4 (by omega)).trans hX
    have hB20:=(hF20.h c0 (by omega)).trans hB
    have hwd:=ae (x:=deep-1) (by omega) (by omega)
    have hcc21:=hF22.c
    simp [hX20,hB20,bsI,aw,hap20,hfz20,-dE,hwd,←hh22]
    refine ((hsub hd) (around++[vn]) 2 n' aa h22 c21 (by simp; omega) (by omega) (by omega) (by unfold SM; rw [hF22.h g (by omega)]; exact hM) (by omega) (by omega) ((hF22.h gn (by omega)).trans hN) (by omega) (by omega) (by omega) (by omega)).mono ?_
    rintro av ⟨h23,c23⟩ hc23 ⟨es2,gr2,hes2,rfl,m2,n2,a2,S2,o1,o2,o3,o4,o5,o6,o7,o8,o9,o10,o11,o12,o13⟩
    simp only at hc23 o2 o3 o4 o5 o7 o10 o13
    have hX23:=(o13 c4 (by omega) (by omega) (by omega)).trans ((hF22.h c4 (by omega)).trans hX)
    have hgr23:h23 gr=some (.row 15 es .live none):=(o13 gr (by omega) (by omega) (by omega)).trans ((hF22.h gr (by omega)).trans ((hF gr (by omega) (by omega)).trans p3))
    obtain ⟨el,hel⟩:∃ el:List AV,el=[.int 1,.str vn,lo,hi',.nil,.row gr2 15 0 es2.length,.str ⟨#[]⟩,.nil,.int 0,.int 0,.int 0,.nil,.str ⟨#[]⟩,.nil,.nil]:=⟨_,rfl⟩
    obtain ⟨h24,hh24⟩:∃ h24,h24=upd h23 c4 (some (.row 15 [el] .live none)):=⟨_,rfl⟩
    have hX24:h24 c4=some (.row 15 [el] .live none):=by rw [hh24,ah]
    have hte:Tr 2 h24 (fun k=>S2 k∨k=gr2) [el] (1+m2+0):=by
     rw [hel]
     exact Tr.cons (fun k=>S2 k∨k=gr2) (fun k=>k=gr2) S2 (fun _=>False) 1 vn lo hi' .nil (.row gr2 15 0 es2.length) ⟨#[]⟩ .nil _ ([⟨f3,1⟩]) ([⟨f2,1⟩]) [] [] (.mk 0 0 ⟨0,[]⟩ ⟨#[]⟩ [] []) es2 [] m2 0 hnlo hnhi (by rfl) (by simp [Expr.cells_mk,aQ]) ⟨hloc,hhic,rfl,rfl,by simp⟩ (.inl rfl) (.inr ⟨gr2,rfl,rfl,by rw [hh24,ad (by omega)]; exact o3⟩)
      (o4.frame fun k hk=>by have:=o5 k hk; rw [hh24,ad (by omega)]) (.nil _) (fun _ h=>.inr h) (fun _ h=>.inl h) (fun _ h=>h.elim) (fun k h1 h2=>(o5 k h2).2.2 h1) (fun _ _ h=>h) (fun _ _ h=>h)
    have hok1:aB 15 el=true:=hte.len el (by simp)
    have hgr24:h24 gr=some (.row 15 es .live none):=by rw [hh24,ad (by omega)]; exact hgr23
    have hap24:apI 15 272 .plain (.row gr 15 0 es.length) (.sl [el] true) ⟨h24,c23⟩=_:=bV (by decide) hgr24 rfl (by decide) (by decide) (by decide) hok1 (by omega)
    have hel15:el.length=15:=by rw [hel]; rfl
    have heltk:el.take 15=el:=List.take_of_length_le (by omega)
    have hbs24:=dD (sz:=15) (zs:=[.int 0,.str ⟨#[]⟩,.nil,.nil,.nil,.nil,.str ⟨#[]⟩,.nil,.int 0,.int 0,.int 0,.nil,.str ⟨#[]⟩,.nil,.nil]) (by rfl) (by decide) hok1 ⟨h24,c23⟩
    have hwi:=ae (x:=(i:Int)+1) (by omega) (by omega)
    simp [hX23,hloc,hhic,←hel,←hh24,hX24,h11,hbs24,hap24,hel15,heltk,hv,hwi,hInv]
    refine ⟨es++[el],c23,⟨rfl,by simp⟩,?_⟩
    refine StI.next (n1:=n') (n2:=n2) (a1:=a') (a2:=a2) (Se:=fun k=>S2 k∨k=gr2) (m1:=1+m2+0) (h:=h) (c:=c) hg hgnc hlen p1 p2 p3 p4 p5 p6 p9 p8 p12 p11 p13 p14 (by omega) ?_ hte ?_ (by omega) (by omega) (by omega) ?_ ?_ (by omega) (by omega)
    ·intro k hk hk1 hk2
     rw [hh24,ad (by omega),o13 _ (by omega) hk1 hk2,hF22.h _ (by omega)]; exact hF k hk hk1
    ·intro k hk
     rcases hk with hk | rfl
     ·have:=o5 k hk; omega
     ·omega
    ·rw [hh24,ad (by omega)]; exact o7
    ·unfold SM; rw [hh24,ad (by omega)]; exact o10
   by_cases e1:k7=1
   ·simp [e0,e1,bsI,aw,aM]
    refine ACalls.quiet (R:=fun av=>∃ f:Wb.Form,av=f.av) (bA 0 [⟨lv,1⟩] (by simp) (by simp) ⟨h13,c13⟩) fun w c14 hw hc14=>?_
    obtain ⟨f3,rfl⟩:=hw
    simp
    refine ACalls.pure (dK f3 1) fun c15 hc15=>?_
    simp [bsI,aw,Bound.av,Bound.cells,hX13,hB13,hc04]
    obtain ⟨hh,hhe⟩:∃ hh,hh=upd h13 c4 (some (.row 15 [[.int 1,.str vn,.sl [[.int f1.const,row (f1.terms.map Term.cells),.int 1]] true,.sl [[.int f3.const,row (f3.terms.map Term.cells),.int 1]] true,.nil,.nil,.str ⟨#[]⟩,.nil,.int 0,.int 0,.int 0,.nil,.str ⟨#[]⟩,.nil,.nil]] .live none)):=⟨_,rfl⟩
    have hX:=(congrFun hhe c4).trans ah
    have hB:hh c0=some (.row 1 [[row (ay around)]] .live none):=by rw [hhe,ad (by omega)]; exact hB13
    have hN:hh gn=some (.row 1 [[.int n']] .live none):=by rw [hhe,ad (by omega)]; exact hN13
    have hM:SM hh g L a13:=by unfold SM; rw [hhe,ad (by omega)]; exact x3
    have hF:∀ k,k<c→k≠g→hh k=h k:=fun k hk hkg=>by rw [hhe,ad (by omega)]; exact hF13 k hk hkg
    rw [←hhe]
    obtain ⟨cc,hcc⟩:∃ cc,cc=c15:=⟨_,rfl⟩
    obtain ⟨aa,haa⟩:∃ aa,aa=a13:=⟨_,rfl⟩
    rw [←hcc]
    rw [←haa] at hM
    have hnlo:norm (.sl [[.int f1.const,row (f1.terms.map Term.cells),.int 1]] true)=row (([⟨f1,1⟩]:List Wb.Bound).map Bound.cells):=by simp [Bound.cells]
    have hnhi:norm (.sl [[.int f3.const,row (f3.terms.map Term.cells),.int 1]] true)=row (([⟨f3,1⟩]:List Wb.Bound).map Bound.cells):=by simp [Bound.cells]
    obtain ⟨lo,hloe⟩:∃ lo:AV,lo=.sl [[.int f1.const,row (f1.terms.map Term.cells),.int 1]] true:=⟨_,rfl⟩
    obtain ⟨hi',hhie⟩:∃ hi':AV,hi'=.sl [[.int f3.const,row (f3.terms.map Term.cells),.int 1]] true:=⟨_,rfl⟩
    have hloc:lo.cell=true:=by rw [hloe]; rfl
    have hhic:hi'.cell=true:=by rw [hhie]; rfl
    rw [←hloe] at hnlo hX
    rw [←hhie] at hnhi hX
    refine (eD around hh cc).mono ?_
    rintro av ⟨h20,c20⟩ hc20 ⟨hF20,hav20⟩
    simp only at hc20 hF20 hav20
    obtain ⟨g20,c21,h21,hap20,hg20,hF21,hg20c⟩:=dZ hF20 hav20 vn (by omega)
    have hslv:(ay (around++[vn])).length=around.length+1:=by simp [ay]
    have hfz20:=cQ (s:=⟨h21,c21⟩) (z:=1) hg20 hslv
    obtain ⟨h22,hh22⟩:∃ h22,h22=upd h21 g20 (some (.row 1 (ay (around++[vn])) .frz none)):=⟨_,rfl⟩
    have hF22:Fr cc hh h22 c21:=by rw [hh22]; exact hF21.upd hg20c (Nat.le_refl _)
    have hX20:=(hF20.h c4 (by omega)).trans hX
    have hB20:=(hF20.h c0 (by omega)).trans hB
    have hwd:=ae (x:=deep-1) (by omega) (by omega)
    have hcc21:=hF22.c
    simp [hX20,hB20,bsI,aw,hap20,hfz20,-dE,hwd,←hh22]
    refine ((hsub hd) (around++[vn]) 2 n' aa h22 c21 (by simp; omega) (by omega) (by omega) (by unfold SM; rw [hF22.h g (by omega)]; exact hM) (by omega) (by omega) ((hF22.h gn (by omega)).trans hN) (by omega) (by omega) (by omega) (by omega)).mono ?_
    rintro av ⟨h23,c23⟩ hc23 ⟨es2,gr2,hes2,rfl,m2,n2,a2,S2,o1,o2,o3,o4,o5,o6,o7,o8,o9,o10,o11,o12,o13⟩
    simp only at hc23 o2 o3 o4 o5 o7 o10 o13
    have hX23:=(o13 c4 (by omega) (by omega) (by omega)).trans ((hF22.h c4 (by omega)).trans hX)
    have hgr23:h23 gr=some (.row 15 es .live none):=(o13 gr (by omega) (by omega) (by omega)).trans ((hF22.h gr (by omega)).trans ((hF gr (by omega) (by omega)).trans p3))
    obtain ⟨el,hel⟩:∃ el:List AV,el=[.int 1,.str vn,lo,hi',.nil,.row gr2 15 0 es2.length,.str ⟨#[]⟩,.nil,.int 0,.int 0,.int 0,.nil,.str ⟨#[]⟩,.nil,.nil]:=⟨_,rfl⟩
    obtain ⟨h24,hh24⟩:∃ h24,h24=upd h23 c4 (some (.row 15 [el] .live none)):=⟨_,rfl⟩
    have hX24:h24 c4=some (.row 15 [el] .live none):=by rw [hh24,ah]
    have hte:Tr 2 h24 (fun k=>S2 k∨k=gr2) [el] (1+m2+0):=by
     rw [hel]
     exact Tr.cons (fun k=>S2 k∨k=gr2) (fun k=>k=gr2) S2 (fun _=>False) 1 vn lo hi' .nil (.row gr2 15 0 es2.length) ⟨#[]⟩ .nil _ ([⟨f1,1⟩]) ([⟨f3,1⟩]) [] [] (.mk 0 0 ⟨0,[]⟩ ⟨#[]⟩ [] []) es2 [] m2 0 hnlo hnhi (by rfl) (by simp [Expr.cells_mk,aQ]) ⟨hloc,hhic,rfl,rfl,by simp⟩ (.inl rfl) (.inr ⟨gr2,rfl,rfl,by rw [hh24,ad (by omega)]; exact o3⟩)
      (o4.frame fun k hk=>by have:=o5 k hk; rw [hh24,ad (by omega)]) (.nil _) (fun _ h=>.inr h) (fun _ h=>.inl h) (fun _ h=>h.elim) (fun k h1 h2=>(o5 k h2).2.2 h1) (fun _ _ h=>h) (fun _ _ h=>h)
    have hok1:aB 15 el=true:=hte.len el (by simp)
    have hgr24:h24 gr=some (.row 15 es .live none):=by rw [hh24,ad (by omega)]; exact hgr23
    have hap24:apI 15 272 .plain (.row gr 15 0 es.length) (.sl [el] true) ⟨h24,c23⟩=_:=bV (by decide) hgr24 rfl (by decide) (by decide) (by decide) hok1 (by omega)
    have hel15:el.length=15:=by rw [hel]; rfl
    have heltk:el.take 15=el:=List.take_of_length_le (by omega)
    have hbs24:=dD (sz:=15) (zs:=[.int 0,.str ⟨#[]⟩,.nil,.nil,.nil,.nil,.str ⟨#[]⟩,.nil,.int 0,.int 0,.int 0,.nil,.str ⟨#[]⟩,.nil,.nil]) (by rfl) (by decide) hok1 ⟨h24,c23⟩
    have hwi:=ae (x:=(i:Int)+1) (by omega) (by omega)
    simp [hX23,hloc,hhic,←hel,←hh24,hX24,h11,hbs24,hap24,hel15,heltk,hv,hwi,hInv]
    refine ⟨es++[el],c23,⟨rfl,by simp⟩,?_⟩
    refine StI.next (n1:=n') (n2:=n2) (a1:=a') (a2:=a2) (Se:=fun k=>S2 k∨k=gr2) (m1:=1+m2+0) (h:=h) (c:=c) hg hgnc hlen p1 p2 p3 p4 p5 p6 p9 p8 p12 p11 p13 p14 (by omega) ?_ hte ?_ (by omega) (by omega) (by omega) ?_ ?_ (by omega) (by omega)
    ·intro k hk hk1 hk2
     rw [hh24,ad (by omega),o13 _ (by omega) hk1 hk2,hF22.h _ (by omega)]; exact hF k hk hk1
    ·intro k hk
     rcases hk with hk | rfl
     ·have:=o5 k hk; omega
     ·omega
    ·rw [hh24,ad (by omega)]; exact o7
    ·unfold SM; rw [hh24,ad (by omega)]; exact o10
   by_cases e2:k7=2
   ·simp [e0,e1,e2,bsI,aw,aM,hX13]
    refine ACalls.quiet (R:=fun av=>∃ f:Wb.Form,av=f.av) (bA 3 [⟨lv,1⟩] (by simp) (by simp) ⟨h13,c13⟩) fun w c14 hw hc14=>?_
    obtain ⟨f3,rfl⟩:=hw
    simp [hX13]
    refine ACalls.pure (dK f3 2) fun c15 hc15=>?_
    have hapq:=cZ (sz:=3) (bytes:=40) (md:=.fz) (es:=[[.int f2.const,row (f2.terms.map Term.cells),.int 1]]) (xs:=[[.int f3.const,row (f3.terms.map Term.cells),.int 2]]) (b:=true) (s:=⟨h13,c15⟩) (by decide) (by decide) (by decide) (fun e he=>by simp at he; subst he; rfl) (fun e he=>by simp at he; subst he; rfl) (by simp) (.inl (by simp))
    have h4c:¬c4=c15:=by omega
    have h0c:¬c0=c15:=by omega
    simp [bsI,aw,Bound.av,Bound.cells,hX13,hB13,hc04,hapq,h4c,h0c]
    obtain ⟨hh,hhe⟩:∃ hh,hh=upd (upd h13 c15 (some (.row 3 [[.int f2.const,row (f2.terms.map Term.cells),.int 1],[.int f3.const,row (f3.terms.map Term.cells),.int 2]] .frz none))) c4 (some (.row 15 [[.int 1,.str vn,.sl [[.int f1.const,row (f1.terms.map Term.cells),.int 1]] true,.sl [[.int f2.const,row (f2.terms.map Term.cells),.int 1],[.int f3.const,row (f3.terms.map Term.cells),.int 2]] false,.nil,.nil,.str ⟨#[]⟩,.nil,.int 0,.int 0,.int 0,.nil,.str ⟨#[]⟩,.nil,.nil]] .live none)):=⟨_,rfl⟩
    have hX:=(congrFun hhe c4).trans ah
    have hB:hh c0=some (.row 1 [[row (ay around)]] .live none):=by rw [hhe,ad (by omega),ad (by omega)]; exact hB13
    have hN:hh gn=some (.row 1 [[.int n']] .live none):=by rw [hhe,ad (by omega),ad (by omega)]; exact hN13
    have hM:SM hh g L a13:=by unfold SM; rw [hhe,ad (by omega),ad (by omega)]; exact x3
    have hF:∀ k,k<c→k≠g→hh k=h k:=fun k hk hkg=>by rw [hhe,ad (by omega),ad (by omega)]; exact hF13 k hk hkg
    rw [←hhe]
    obtain ⟨cc,hcc⟩:∃ cc,cc=(c15+1):=⟨_,rfl⟩
    obtain ⟨aa,haa⟩:∃ aa,aa=a13:=⟨_,rfl⟩
    rw [←hcc]
    rw [←haa] at hM
    have hnlo:norm (.sl [[.int f1.const,row (f1.terms.map Term.cells),.int 1]] true)=row (([⟨f1,1⟩]:List Wb.Bound).map Bound.cells):=by simp [Bound.cells]
    have hnhi:norm (.sl [[.int f2.const,row (f2.terms.map Term.cells),.int 1],[.int f3.const,row (f3.terms.map Term.cells),.int 2]] false)=row (([⟨f2,1⟩,⟨f3,2⟩]:List Wb.Bound).map Bound.cells):=by simp [Bound.cells]
    obtain ⟨lo,hloe⟩:∃ lo:AV,lo=.sl [[.int f1.const,row (f1.terms.map Term.cells),.int 1]] true:=⟨_,rfl⟩
    obtain ⟨hi',hhie⟩:∃ hi':AV,hi'=.sl [[.int f2.const,row (f2.terms.map Term.cells),.int 1],[.int f3.const,row (f3.terms.map Term.cells),.int 2]] false:=⟨_,rfl⟩
    have hloc:lo.cell=true:=by rw [hloe]; rfl
    have hhic:hi'.cell=true:=by rw [hhie]; rfl
    rw [←hloe] at hnlo hX
    rw [←hhie] at hnhi hX
    refine (eD around hh cc).mono ?_
    rintro av ⟨h20,c20⟩ hc20 ⟨hF20,hav20⟩
    simp only at hc20 hF20 hav20
    obtain ⟨g20,c21,h21,hap20,hg20,hF21,hg20c⟩:=dZ hF20 hav20 vn (by omega)
    have hslv:(ay (around++[vn])).length=around.length+1:=by simp [ay]
    have hfz20:=cQ (s:=⟨h21,c21⟩) (z:=1) hg20 hslv
    obtain ⟨h22,hh22⟩:∃ h22,h22=upd h21 g20 (some (.row 1 (ay (around++[vn])) .frz none)):=⟨_,rfl⟩
    have hF22:Fr cc hh h22 c21:=by rw [hh22]; exact hF21.upd hg20c (Nat.le_refl _)
    have hX20:=(hF20.h c4 (by omega)).trans hX
    have hB20:=(hF20.h c0 (by omega)).trans hB
    have hwd:=ae (x:=deep-1) (by omega) (by omega)
    have hcc21:=hF22.c
    simp [hX20,hB20,bsI,aw,hap20,hfz20,-dE,hwd,←hh22]
    refine ((hsub hd) (around++[vn]) 2 n' aa h22 c21 (by simp; omega) (by omega) (by omega) (by unfold SM; rw [hF22.h g (by omega)]; exact hM) (by omega) (by omega) ((hF22.h gn (by omega)).trans hN) (by omega) (by omega) (by omega) (by omega)).mono ?_
    rintro av ⟨h23,c23⟩ hc23 ⟨es2,gr2,hes2,rfl,m2,n2,a2,S2,o1,o2,o3,o4,o5,o6,o7,o8,o9,o10,o11,o12,o13⟩
    simp only at hc23 o2 o3 o4 o5 o7 o10 o13
    have hX23:=(o13 c4 (by omega) (by omega) (by omega)).trans ((hF22.h c4 (by omega)).trans hX)
    have hgr23:h23 gr=some (.row 15 es .live none):=(o13 gr (by omega) (by omega) (by omega)).trans ((hF22.h gr (by omega)).trans ((hF gr (by omega) (by omega)).trans p3))
    obtain ⟨el,hel⟩:∃ el:List AV,el=[.int 1,.str vn,lo,hi',.nil,.row gr2 15 0 es2.length,.str ⟨#[]⟩,.nil,.int 0,.int 0,.int 0,.nil,.str ⟨#[]⟩,.nil,.nil]:=⟨_,rfl⟩
    obtain ⟨h24,hh24⟩:∃ h24,h24=upd h23 c4 (some (.row 15 [el] .live none)):=⟨_,rfl⟩
    have hX24:h24 c4=some (.row 15 [el] .live none):=by rw [hh24,ah]
    have hte:Tr 2 h24 (fun k=>S2 k∨k=gr2) [el] (1+m2+0):=by
     rw [hel]
     exact Tr.cons (fun k=>S2 k∨k=gr2) (fun k=>k=gr2) S2 (fun _=>False) 1 vn lo hi' .nil (.row gr2 15 0 es2.length) ⟨#[]⟩ .nil _ ([⟨f1,1⟩]) ([⟨f2,1⟩,⟨f3,2⟩]) [] [] (.mk 0 0 ⟨0,[]⟩ ⟨#[]⟩ [] []) es2 [] m2 0 hnlo hnhi (by rfl) (by simp [Expr.cells_mk,aQ]) ⟨hloc,hhic,rfl,rfl,by simp⟩ (.inl rfl) (.inr ⟨gr2,rfl,rfl,by rw [hh24,ad (by omega)]; exact o3⟩)
      (o4.frame fun k hk=>by have:=o5 k hk; rw [hh24,ad (by omega)]) (.nil _) (fun _ h=>.inr h) (fun _ h=>.inl h) (fun _ h=>h.elim) (fun k h1 h2=>(o5 k h2).2.2 h1) (fun _ _ h=>h) (fun _ _ h=>h)
    have hok1:aB 15 el=true:=hte.len el (by simp)
    have hgr24:h24 gr=some (.row 15 es .live none):=by rw [hh24,ad (by omega)]; exact hgr23
    have hap24:apI 15 272 .plain (.row gr 15 0 es.length) (.sl [el] true) ⟨h24,c23⟩=_:=bV (by decide) hgr24 rfl (by decide) (by decide) (by decide) hok1 (by omega)
    have hel15:el.length=15:=by rw [hel]; rfl
    have heltk:el.take 15=el:=List.take_of_length_le (by omega)
    have hbs24:=dD (sz:=15) (zs:=[.int 0,.str ⟨#[]⟩,.nil,.nil,.nil,.nil,.str ⟨#[]⟩,.nil,.int 0,.int 0,.int 0,.nil,.str ⟨#[]⟩,.nil,.nil]) (by rfl) (by decide) hok1 ⟨h24,c23⟩
    have hwi:=ae (x:=(i:Int)+1) (by omega) (by omega)
    simp [hX23,hloc,hhic,←hel,←hh24,hX24,h11,hbs24,hap24,hel15,heltk,hv,hwi,hInv]
    refine ⟨es++[el],c23,⟨rfl,by simp⟩,?_⟩
    refine StI.next (n1:=n') (n2:=n2) (a1:=a') (a2:=a2) (Se:=fun k=>S2 k∨k=gr2) (m1:=1+m2+0) (h:=h) (c:=c) hg hgnc hlen p1 p2 p3 p4 p5 p6 p9 p8 p12 p11 p13 p14 (by omega) ?_ hte ?_ (by omega) (by omega) (by omega) ?_ ?_ (by omega) (by omega)
    ·intro k hk hk1 hk2
     rw [hh24,ad (by omega),o13 _ (by omega) hk1 hk2,hF22.h _ (by omega)]; exact hF k hk hk1
    ·intro k hk
     rcases hk with hk | rfl
     ·have:=o5 k hk; omega
     ·omega
    ·rw [hh24,ad (by omega)]; exact o7
    ·unfold SM; rw [hh24,ad (by omega)]; exact o10
   simp [e0,e1,e2,bsI,aw,aM,hX13]
   refine ACalls.quiet (R:=fun av=>∃ f:Wb.Form,av=f.av) (bA (-1) [⟨lv,1⟩] (by simp) (by simp) ⟨h13,c13⟩) fun w c14 hw hc14=>?_
   obtain ⟨f3,rfl⟩:=hw
   simp [hX13]
   refine ACalls.pure (dK f3 1) fun c15 hc15=>?_
   have hapq:=cZ (sz:=3) (bytes:=40) (md:=.fz) (es:=[[.int f1.const,row (f1.terms.map Term.cells),.int 1]]) (xs:=[[.int f3.const,row (f3.terms.map Term.cells),.int 1]]) (b:=true) (s:=⟨h13,c15⟩) (by decide) (by decide) (by decide) (fun e he=>by simp at he; subst he; rfl) (fun e he=>by simp at he; subst he; rfl) (by simp) (.inl (by simp))
   have h4c:¬c4=c15:=by omega
   have h0c:¬c0=c15:=by omega
   simp [bsI,aw,Bound.av,Bound.cells,hX13,hB13,hc04,hapq,h4c,h0c]
   obtain ⟨hh,hhe⟩:∃ hh,hh=upd (upd h13 c15 (some (.row 3 [[.int f1.const,row (f1.terms.map Term.cells),.int 1],[.int f3.const,row (f3.terms.map Term.cells),.int 1]] .frz none))) c4 (some (.row 15 [[.int 1,.str vn,.sl [[.int f1.const,row (f1.terms.map Term.cells),.int 1],[.int f3.const,row (f3.terms.map Term.cells),.int 1]] false,.sl [[.int f2.const,row (f2.terms.map Term.cells),.int 1]] true,.nil,.nil,.str ⟨#[]⟩,.nil,.int 0,.int 0,.int 0,.nil,.str ⟨#[]⟩,.nil,.nil]] .live none)):=⟨_,rfl⟩
   have hX:=(congrFun hhe c4).trans ah
   have hB:hh c0=some (.row 1 [[row (ay around)]] .live none):=by rw [hhe,ad (by omega),ad (by omega)]; exact hB13
   have hN:hh gn=some (.row 1 [[.int n']] .live none):=by rw [hhe,ad (by omega),ad (by omega)]; exact hN13
   have hM:SM hh g L a13:=by unfold SM; rw [hhe,ad (by omega),ad (by omega)]; exact x3
   have hF:∀ k,k<c→k≠g→hh k=h k:=fun k hk hkg=>by rw [hhe,ad (by omega),ad (by omega)]; exact hF13 k hk hkg
   rw [←hhe]
   obtain ⟨cc,hcc⟩:∃ cc,cc=(c15+1):=⟨_,rfl⟩
   obtain ⟨aa,haa⟩:∃ aa,aa=a13:=⟨_,rfl⟩
   rw [←hcc]
   rw [←haa] at hM
   have hnlo:norm (.sl [[.int f1.const,row (f1.terms.map Term.cells),.int 1],[.int f3.const,row (f3.terms.map Term.cells),.int 1]] false)=row (([⟨f1,1⟩,⟨f3,1⟩]:List Wb.Bound).map Bound.cells):=by simp [Bound.cells]
   have hnhi:norm (.sl [[.int f2.const,row (f2.terms.map Term.cells),.int 1]] true)=row (([⟨f2,1⟩]:List Wb.Bound).map Bound.cells):=by simp [Bound.cells]
   obtain ⟨lo,hloe⟩:∃ lo:AV,lo=.sl [[.int f1.const,row (f1.terms.map Term.cells),.int 1],[.int f3.const,row (f3.terms.map Term.cells),.int 1]] false:=⟨_,rfl⟩
   obtain ⟨hi',hhie⟩:∃ hi':AV,hi'=.sl [[.int f2.const,row (f2.terms.map Term.cells),.int 1]] true:=⟨_,rfl⟩
   have hloc:lo.cell=true:=by rw [hloe]; rfl
   have hhic:hi'.cell=true:=by rw [hhie]; rfl
   rw [←hloe] at hnlo hX
   rw [←hhie] at hnhi hX
   refine (eD around hh cc).mono ?_
   rintro av ⟨h20,c20⟩ hc20 ⟨hF20,hav20⟩
   simp only at hc20 hF20 hav20
   obtain ⟨g20,c21,h21,hap20,hg20,hF21,hg20c⟩:=dZ hF20 hav20 vn (by omega)
   have hslv:(ay (around++[vn])).length=around.length+1:=by simp [ay]
   have hfz20:=cQ (s:=⟨h21,c21⟩) (z:=1) hg20 hslv
   obtain ⟨h22,hh22⟩:∃ h22,h22=upd h21 g20 (some (.row 1 (ay (around++[vn])) .frz none)):=⟨_,rfl⟩
   have hF22:Fr cc hh h22 c21:=by rw [hh22]; exact hF21.upd hg20c (Nat.le_refl _)
   have hX20:=(hF20.h c4 (by omega)).trans hX
   have hB20:=(hF20.h c0 (by omega)).trans hB
   have hwd:=ae (x:=deep-1) (by omega) (by omega)
   have hcc21:=hF22.c
   simp [hX20,hB20,bsI,aw,hap20,hfz20,-dE,hwd,←hh22]
   refine ((hsub hd) (around++[vn]) 2 n' aa h22 c21 (by simp; omega) (by omega) (by omega) (by unfold SM; rw [hF22.h g (by omega)]; exact hM) (by omega) (by omega) ((hF22.h gn (by omega)).trans hN) (by omega) (by omega) (by omega) (by omega)).mono ?_
   rintro av ⟨h23,c23⟩ hc23 ⟨es2,gr2,hes2,rfl,m2,n2,a2,S2,o1,o2,o3,o4,o5,o6,o7,o8,o9,o10,o11,o12,o13⟩
   simp only at hc23 o2 o3 o4 o5 o7 o10 o13
   have hX23:=(o13 c4 (by omega) (by omega) (by omega)).trans ((hF22.h c4 (by omega)).trans hX)
   have hgr23:h23 gr=some (.row 15 es .live none):=(o13 gr (by omega) (by omega) (by omega)).trans ((hF22.h gr (by omega)).trans ((hF gr (by omega) (by omega)).trans p3))
   obtain ⟨el,hel⟩:∃ el:List AV,el=[.int 1,.str vn,lo,hi',.nil,.row gr2 15 0 es2.length,.str ⟨#[]⟩,.nil,.int 0,.int 0,.int 0,.nil,.str ⟨#[]⟩,.nil,.nil]:=⟨_,rfl⟩
   obtain ⟨h24,hh24⟩:∃ h24,h24=upd h23 c4 (some (.row 15 [el] .live none)):=⟨_,rfl⟩
   have hX24:h24 c4=some (.row 15 [el] .live none):=by rw [hh24,ah]
   have hte:Tr 2 h24 (fun k=>S2 k∨k=gr2) [el] (1+m2+0):=by
    rw [hel]
    exact Tr.cons (fun k=>S2 k∨k=gr2) (fun k=>k=gr2) S2 (fun _=>False) 1 vn lo hi' .nil (.row gr2 15 0 es2.length) ⟨#[]⟩ .nil _ ([⟨f1,1⟩,⟨f3,1⟩]) ([⟨f2,1⟩]) [] [] (.mk 0 0 ⟨0,[]⟩ ⟨#[]⟩ [] []) es2 [] m2 0 hnlo hnhi (by rfl) (by simp [Expr.cells_mk,aQ]) ⟨hloc,hhic,rfl,rfl,by simp⟩ (.inl rfl) (.inr ⟨gr2,rfl,rfl,by rw [hh24,ad (by omega)]; exact o3⟩)
     (o4.frame fun k hk=>by have:=o5 k hk; rw [hh24,ad (by omega)]) (.nil _) (fun _ h=>.inr h) (fun _ h=>.inl h) (fun _ h=>h.elim) (fun k h1 h2=>(o5 k h2).2.2 h1) (fun _ _ h=>h) (fun _ _ h=>h)
   have hok1:aB 15 el=true:=hte.len el (by simp)
   have hgr24:h24 gr=some (.row 15 es .live none):=by rw [hh24,ad (by omega)]; exact hgr23
   have hap24:apI 15 272 .plain (.row gr 15 0 es.length) (.sl [el] true) ⟨h24,c23⟩=_:=bV (by decide) hgr24 rfl (by decide) (by decide) (by decide) hok1 (by omega)
   have hel15:el.length=15:=by rw [hel]; rfl
   have heltk:el.take 15=el:=List.take_of_length_le (by omega)
   have hbs24:=dD (sz:=15) (zs:=[.int 0,.str ⟨#[]⟩,.nil,.nil,.nil,.nil,.str ⟨#[]⟩,.nil,.int 0,.int 0,.int 0,.nil,.str ⟨#[]⟩,.nil,.nil]) (by rfl) (by decide) hok1 ⟨h24,c23⟩
   have hwi:=ae (x:=(i:Int)+1) (by omega) (by omega)
   simp [hX23,hloc,hhic,←hel,←hh24,hX24,h11,hbs24,hap24,hel15,heltk,hv,hwi,hInv]
   refine ⟨es++[el],c23,⟨rfl,by simp⟩,?_⟩
   refine StI.next (n1:=n') (n2:=n2) (a1:=a') (a2:=a2) (Se:=fun k=>S2 k∨k=gr2) (m1:=1+m2+0) (h:=h) (c:=c) hg hgnc hlen p1 p2 p3 p4 p5 p6 p9 p8 p12 p11 p13 p14 (by omega) ?_ hte ?_ (by omega) (by omega) (by omega) ?_ ?_ (by omega) (by omega)
   ·intro k hk hk1 hk2
    rw [hh24,ad (by omega),o13 _ (by omega) hk1 hk2,hF22.h _ (by omega)]; exact hF k hk hk1
   ·intro k hk
    rcases hk with hk | rfl
    ·have:=o5 k hk; omega
    ·omega
   ·rw [hh24,ad (by omega)]; exact o7
   ·unfold SM; rw [hh24,ad (by omega)]; exact o10
  by_cases hI:1<deep∧k1=3∧around≠[]
  ·obtain ⟨hd,hk13,har0⟩:=hI
   have hal:0<around.length:=List.length_pos_iff.2 har0
   have hsl:(ay around).length=around.length:=by simp [ay]
   simp [hd,hk13,hb3,hsl,hal]
   obtain ⟨Post,hPost⟩:∃ Post:Slots→St→Prop,Post=fun sl' s'=>∃ (cx:Nat) (f:Wb.Form) (a5:Int),sl' 16=.ptr cx 0 0∧s'.h cx=some (.row 15 [[.int 2,.str ⟨#[]⟩,.nil,.nil,.sl [f.cells] true,.nil,.str ⟨#[]⟩,.nil,.int 0,.int 0,.int 0,.nil,.str ⟨#[]⟩,.nil,.nil]] .live none)∧c3≤cx∧cx<s'.c∧SM s'.h g L a5∧a3≤a5∧a5≤a3+2∧∀ k,k<c3→k≠g→s'.h k=h3 k:=⟨_,rfl⟩
   obtain ⟨lv,hlv⟩:∃ lv,(ay around)[0]?=some [.str lv]:=⟨around[0],by simp [ay,hal]⟩
   have h03:¬c0=c3:=by omega
   have hg3:¬g=c3:=by omega
   have h3g:¬c3=g:=by omega
   refine roamW_cut [16,185,186,188,189,190,191,192,187,193,194,195,196,197,198] (by rfl) Post ?_ ?_
   ·simp [roamW_t,roamW_f,roamW_n,hb3,bsI,aw,hlv,h03]
    refine ⟨?_,?_⟩
    ·refine ACalls.draw (R:=fun v=>∃ k,v=.int k∧k∈[-1,2,-2]) (cm [-1,2,-2] L a3 g _ _ (by simp) (by simp) (by unfold SM; rw [ad hg3]; exact r3) (by omega) (by omega) hL (by omega)) fun w h4 c4 a4 hw hc4 s1 s2 s3 s4=>?_
     obtain ⟨pk1,rfl,hpk1⟩:=hw
     have hb4:h4 c0=some (.row 1 [[row (ay around)]] .live none):=by rw [s4 _ hcg,ad h03]; exact hb3
     simp [hb4,bsI,aw,hlv]
     refine ACalls.draw (R:=fun v=>∃ k,v=.int k∧k∈[1,-1]) (cm [1,-1] L a4 g _ _ (by simp) (by simp) s3 (by omega) (by omega) hL (by omega)) fun w h5 c5 a5 hw hc5 t1 t2 t3 t4=>?_
     obtain ⟨pk2,rfl,hpk2⟩:=hw
     have hpk20:pk2≠0:=by simp at hpk2; omega
     have hb5:h5 c0=some (.row 1 [[row (ay around)]] .live none):=by rw [t4 _ hcg]; exact hb4
     simp [hb5,bsI,aw,aM,hlv]
     refine ACalls.quiet (R:=fun av=>∃ f:Wb.Form,av=f.av) (bA pk1 [⟨lv,pk2⟩] (by simp) (by simp [hpk20]) ⟨h5,c5⟩) fun w c6 hw hc6=>?_
     obtain ⟨f,rfl⟩:=hw
     have hx5:=(t4 c3 h3g).trans ((s4 c3 h3g).trans ah)
     simp [Form.av,Form.cells,bsI,aw,aM,hx5]
     rw [hPost]
     refine ⟨c3,f,a5,by simp,ah,by omega,by show c3<c6; omega,?_,by omega,by omega,?_⟩
     ·show SM (upd h5 c3 _) g L a5; unfold SM; rw [ad (by omega)]; first | assumption | (rw [ad (by omega)]; assumption)
     ·intro k hk hkg
      show upd h5 c3 _ k=_
      grind [upd]
    ·refine ACalls.draw (R:=fun v=>∃ k,v=.int k∧k∈[-1,2,-2]) (cm [-1,2,-2] L a3 g _ _ (by simp) (by simp) r3 (by omega) (by omega) hL (by omega)) fun w h4 c4 a4 hw hc4 s1 s2 s3 s4=>?_
     obtain ⟨pk1,rfl,hpk1⟩:=hw
     have hb4:h4 c0=some (.row 1 [[row (ay around)]] .live none):=by rw [s4 _ hcg]; exact hb3
     have h04:¬c0=c4:=by omega
     have hg4:¬g=c4:=by omega
     have h4g:¬c4=g:=by omega
     simp [roamW_t,roamW_f,roamW_n,hb4,bsI,aw,hlv,h04]
     refine ⟨?_,?_⟩
     ·refine ACalls.draw (R:=fun v=>∃ k,v=.int k∧k∈[1,-1]) (cm [1,-1] L a4 g _ _ (by simp) (by simp) (by unfold SM; rw [ad hg4]; exact s3) (by omega) (by omega) hL (by omega)) fun w h5 c5 a5 hw hc5 t1 t2 t3 t4=>?_
      obtain ⟨pk2,rfl,hpk2⟩:=hw
      have hpk20:pk2≠0:=by simp at hpk2; omega
      have hb5:h5 c0=some (.row 1 [[row (ay around)]] .live none):=by rw [t4 _ hcg,ad h04]; exact hb4
      simp [hb5,bsI,aw,aM,hlv]
      refine ACalls.quiet (R:=fun av=>∃ f:Wb.Form,av=f.av) (bA pk1 [⟨lv,pk2⟩] (by simp) (by simp [hpk20]) ⟨h5,c5⟩) fun w c6 hw hc6=>?_
      obtain ⟨f,rfl⟩:=hw
      have hx5:=(t4 c4 h4g).trans ah
      simp [Form.av,Form.cells,bsI,aw,aM,hx5]
      rw [hPost]
      refine ⟨c4,f,a5,by simp,ah,by omega,by show c4<c6; omega,?_,by omega,by omega,?_⟩
      ·show SM (upd h5 c4 _) g L a5; unfold SM; rw [ad (by omega)]; first | assumption | (rw [ad (by omega)]; assumption)
      ·intro k hk hkg
       show upd h5 c4 _ k=_
       grind [upd]
     ·refine ACalls.draw (R:=fun v=>∃ k,v=.int k∧k∈[1,-1]) (cm [1,-1] L a4 g _ _ (by simp) (by simp) s3 (by omega) (by omega) hL (by omega)) fun w h5 c5 a5 hw hc5 t1 t2 t3 t4=>?_
      obtain ⟨pk2,rfl,hpk2⟩:=hw
      have hpk20:pk2≠0:=by simp at hpk2; omega
      have hb5:h5 c0=some (.row 1 [[row (ay around)]] .live none):=by rw [t4 _ hcg]; exact hb4
      have h05:¬c0=c5:=by omega
      simp [roamW_t,roamW_f,roamW_n,hb5,bsI,aw,aM,hlv,h05]
      refine ⟨?_,?_⟩
      ·refine ACalls.quiet (R:=fun av=>∃ f:Wb.Form,av=f.av) (bA pk1 [⟨lv,pk2⟩] (by simp) (by simp [hpk20]) ⟨_,_⟩) fun w c6 hw hc6=>?_
       obtain ⟨f,rfl⟩:=hw
       simp [roamW_t,roamW_f,roamW_n,Form.av,Form.cells,bsI,aw,aM]
       rw [hPost]
       refine ⟨c5,f,a5,by simp,ah,by omega,by show c5<c6; omega,?_,by omega,by omega,?_⟩
       ·show SM (upd _ c5 _) g L a5; unfold SM; rw [ad (by omega)]; first | assumption | (rw [ad (by omega)]; assumption)
       ·intro k hk hkg
        show upd _ c5 _ k=_
        grind [upd]
      ·refine ACalls.quiet (R:=fun av=>∃ f:Wb.Form,av=f.av) (bA pk1 [⟨lv,pk2⟩] (by simp) (by simp [hpk20]) ⟨_,_⟩) fun w c6 hw hc6=>?_
       obtain ⟨f,rfl⟩:=hw
       have h06:¬c0=c6:=by omega
       simp [roamW_t,roamW_f,roamW_n,Form.av,Form.cells,bsI,aw,aM,h06,hb5]
       rw [hPost]
       refine ⟨c6,f,a5,by simp,ah,by omega,by show c6<c6+1; omega,?_,by omega,by omega,?_⟩
       ·show SM (upd _ c6 _) g L a5; unfold SM; rw [ad (by omega)]; first | assumption | (rw [ad (by omega)]; assumption)
       ·intro k hk hkg
        show upd _ c6 _ k=_
        grind [upd]
   ·intro v5 s5 hP
    rw [hPost] at hP
    obtain ⟨cx,f5,a5,hs16,hX5,hcx1,hcx2,hM5,ha5,ha5',hF5⟩:=hP
    obtain ⟨h5,c5⟩:=s5
    simp at hs16
    simp only at hX5 hcx2 hM5 hF5
    simp [hs16,hX5]
    have hb5:h5 c0=some (.row 1 [[row (ay around)]] .live none):=(hF5 c0 (by omega) hcg).trans hb3
    have hn5:h5 gn=some (.row 1 [[.int n']] .live none):=(hF5 gn (by omega) (Ne.symm hgn)).trans hgn3
    have hFh5:∀ k,k<c→k≠g→h5 k=h k:=fun k hk hkg=>by rw [hF5 k (by omega) hkg,r4 _ hkg,hfr2' _ (by omega)]
    refine ACalls.draw (eo L a5 6 g _ _ (by omega) hM5 (by omega) (by omega) hL (by omega)) fun w h6 c6 a6 hw hc6 w1 w2 w3 w4=>?_
    obtain ⟨b6,rfl⟩:=hw
    have hX6:=(w4 cx (by omega)).trans hX5
    have hb6:h6 c0=some (.row 1 [[row (ay around)]] .live none):=(w4 c0 hcg).trans hb5
    have hn6:h6 gn=some (.row 1 [[.int n']] .live none):=(w4 gn (Ne.symm hgn)).trans hn5
    have hF6:∀ k,k<c→k≠g→h6 k=h k:=fun k hk hkg=>(w4 k hkg).trans (hFh5 k hk hkg)
    cases b6
    case false=>
     simp [hs16]
     have hX:=hX6
     have hB:=hb6
     have hN:=hn6
     have hM:=w3
     have hF:=hF6
     have hC:CondAt h6 (fun k=>False) (.sl [f5.cells] true) [f5]:=.inl rfl
     have hwd:=ae (x:=deep-1) (by omega) (by omega)
     simp [hX,hB,hwd]
     refine ((hsub hd) around 1 n' a6 h6 c6 (by omega) (by omega) (by omega) hM (by omega) (by omega) hN (by omega) (by omega) (by omega) (by omega)).mono ?_
     rintro av ⟨h23,c23⟩ hc23 ⟨es2,gr2,hes2,rfl,m2,n2,a2,S2,o1,o2,o3,o4,o5,o6,o7,o8,o9,o10,o11,o12,o13⟩
     simp only at hc23 o2 o3 o4 o5 o7 o10 o13
     have hX23:=(o13 cx (by omega) (by omega) (by omega)).trans hX
     have hgr23:h23 gr=some (.row 15 es .live none):=(o13 gr (by omega) (by omega) (by omega)).trans ((hF gr (by omega) (by omega)).trans p3)
     obtain ⟨cv,hcv⟩:∃ cv:AV,cv=.sl [f5.cells] true:=⟨_,rfl⟩
     have hcvc:cv.cell=true:=by rw [hcv]; rfl
     rw [←hcv] at hX23 hC
     obtain ⟨el,hel⟩:∃ el:List AV,el=[.int 2,.str ⟨#[]⟩,.nil,.nil,cv,.row gr2 15 0 es2.length,.str ⟨#[]⟩,.nil,.int 0,.int 0,.int 0,.nil,.str ⟨#[]⟩,.nil,.nil]:=⟨_,rfl⟩
     obtain ⟨h24,hh24⟩:∃ h24,h24=upd h23 cx (some (.row 15 [el] .live none)):=⟨_,rfl⟩
     have hX24:h24 cx=some (.row 15 [el] .live none):=by rw [hh24,ah]
     have hC24:CondAt h24 (fun k=>k=gr2∨False) cv [f5]:=hC.frame (fun k hk=>.inr hk) fun k hk=>by
      exact hk.elim
     have hte:Tr 2 h24 (fun k=>S2 k∨(k=gr2∨False)) [el] (1+m2+0):=by
      rw [hel]
      exact Tr.cons (fun k=>S2 k∨(k=gr2∨False)) (fun k=>k=gr2∨False) S2 (fun _=>False) 2 ⟨#[]⟩ .nil .nil cv (.row gr2 15 0 es2.length) ⟨#[]⟩ .nil _ [] [] [f5] [] (.mk 0 0 ⟨0,[]⟩ ⟨#[]⟩ [] []) es2 [] m2 0 (by rfl) (by rfl) (by rfl) (by simp [Expr.cells_mk,aQ]) ⟨rfl,rfl,rfl,rfl,by simp⟩ hC24 (.inr ⟨gr2,.inl rfl,rfl,by rw [hh24,ad (by omega)]; exact o3⟩)
       (o4.frame fun k hk=>by have:=o5 k hk; rw [hh24,ad (by omega)]) (.nil _) (fun _ h=>.inr h) (fun _ h=>.inl h) (fun _ h=>h.elim) (fun k h1 h2=>by have:=o5 k h2; rcases h1 with h1 | h1 <;> omega) (fun _ _ h=>h) (fun _ _ h=>h)
     have hok1:aB 15 el=true:=hte.len el (by simp)
     have hgr24:h24 gr=some (.row 15 es .live none):=by rw [hh24,ad (by omega)]; exact hgr23
     have hap24:apI 15 272 .plain (.row gr 15 0 es.length) (.sl [el] true) ⟨h24,c23⟩=_:=bV (by decide) hgr24 rfl (by decide) (by decide) (by decide) hok1 (by omega)
     have hel15:el.length=15:=by rw [hel]; rfl
     have heltk:el.take 15=el:=List.take_of_length_le (by omega)
     have hbs24:=dD (sz:=15) (zs:=[.int 0,.str ⟨#[]⟩,.nil,.nil,.nil,.nil,.str ⟨#[]⟩,.nil,.int 0,.int 0,.int 0,.nil,.str ⟨#[]⟩,.nil,.nil]) (by rfl) (by decide) hok1 ⟨h24,c23⟩
     have hwi:=ae (x:=(i:Int)+1) (by omega) (by omega)
     simp [hs16,hX23,hcvc,←hel,←hh24,hX24,h11,hbs24,hap24,hel15,heltk,hv,hwi,hInv]
     refine ⟨es++[el],c23,⟨rfl,by simp⟩,?_⟩
     refine StI.next (n1:=n') (n2:=n2) (a1:=a') (a2:=a2) (Se:=fun k=>S2 k∨(k=gr2∨False)) (m1:=1+m2+0) (h:=h) (c:=c) hg hgnc hlen p1 p2 p3 p4 p5 p6 p9 p8 p12 p11 p13 p14 (by omega) ?_ hte ?_ (by omega) (by omega) (by omega) ?_ ?_ (by omega) (by omega)
     ·intro k hk hk1 hk2
      rw [hh24,ad (by omega),o13 _ (by omega) hk1 hk2]; exact hF k hk hk1
     ·intro k hk
      rcases hk with hk | rfl | hk
      ·have:=o5 k hk; omega
      ·omega
      ·exact hk.elim
     ·rw [hh24,ad (by omega)]; exact o7
     ·unfold SM; rw [hh24,ad (by omega)]; exact o10
    simp [hs16,hX6,bsI,aw]
    refine ACalls.draw (R:=fun v=>∃ k,v=.int k∧k∈[0,-1,3]) (cm [0,-1,3] L a6 g _ _ (by simp) (by simp) w3 (by omega) (by omega) hL (by omega)) fun w h7 c7 a7 hw hc7 u1 u2 u3 u4=>?_
    obtain ⟨pk7,rfl,_⟩:=hw
    have hX7:=(u4 cx (by omega)).trans hX6
    have hb7:h7 c0=some (.row 1 [[row (ay around)]] .live none):=(u4 c0 hcg).trans hb6
    have hn7:h7 gn=some (.row 1 [[.int n']] .live none):=(u4 gn (Ne.symm hgn)).trans hn6
    have hF7:∀ k,k<c→k≠g→h7 k=h k:=fun k hk hkg=>(u4 k hkg).trans (hF6 k hk hkg)
    simp [hs16,hX7,bsI,aw]
    refine ACalls.quiet (R:=fun av=>∃ f:Wb.Form,av=f.av) (bA pk7 [] (by simp) (by simp) ⟨h7,c7⟩) fun w c8 hw hc8=>?_
    obtain ⟨f8,rfl⟩:=hw
    have hap8:=cZ (sz:=2) (bytes:=32) (md:=.plain) (es:=[[.int f5.const,row (f5.terms.map Term.cells)]]) (xs:=[[.int f8.const,row (f8.terms.map Term.cells)]]) (b:=true) (s:=⟨h7,c8⟩) (by decide) (by decide) (by decide) (fun e he=>by simp at he; subst he; rfl) (fun e he=>by simp at he; subst he; rfl) (by simp) (.inl (by simp))
    have hxc8:¬cx=c8:=by omega
    simp [hs16,hX7,bsI,aw,Form.av,Form.cells,hap8,hxc8]
    obtain ⟨hh,hhe⟩:∃ hh,hh=upd (upd h7 c8 (some (.row 2 [[.int f5.const,row (f5.terms.map Term.cells)],[.int f8.const,row (f8.terms.map Term.cells)]] .live none))) cx (some (.row 15 [[.int 2,.str ⟨#[]⟩,.nil,.nil,.row c8 2 0 2,.nil,.str ⟨#[]⟩,.nil,.int 0,.int 0,.int 0,.nil,.str ⟨#[]⟩,.nil,.nil]] .live none)):=⟨_,rfl⟩
    obtain ⟨cc,hcc⟩:∃ cc,cc=c8+1:=⟨_,rfl⟩
    obtain ⟨aa,haa⟩:∃ aa,aa=a7:=⟨_,rfl⟩
    have hX:=(congrFun hhe cx).trans ah
    have hB:hh c0=some (.row 1 [[row (ay around)]] .live none):=by rw [hhe,ad (by omega),ad (by omega)]; exact hb7
    have hN:hh gn=some (.row 1 [[.int n']] .live none):=by rw [hhe,ad (by omega),ad (by omega)]; exact hn7
    have hM:SM hh g L aa:=by rw [haa]; unfold SM; rw [hhe,ad (by omega),ad (by omega)]; exact u3
    have hF:∀ k,k<c→k≠g→hh k=h k:=fun k hk hkg=>by rw [hhe,ad (by omega),ad (by omega)]; exact hF7 k hk hkg
    have hC:CondAt hh (fun k=>k=c8) (.row c8 2 0 2) [f5,f8]:=.inr ⟨c8,rfl,rfl,by rw [hhe,ad (by omega),ah]; rfl⟩
    rw [←hhe,←hcc]
    have hwd:=ae (x:=deep-1) (by omega) (by omega)
    simp [hX,hB,hwd]
    refine ((hsub hd) around 1 n' aa hh cc (by omega) (by omega) (by omega) hM (by omega) (by omega) hN (by omega) (by omega) (by omega) (by omega)).mono ?_
    rintro av ⟨h23,c23⟩ hc23 ⟨es2,gr2,hes2,rfl,m2,n2,a2,S2,o1,o2,o3,o4,o5,o6,o7,o8,o9,o10,o11,o12,o13⟩
    simp only at hc23 o2 o3 o4 o5 o7 o10 o13
    have hX23:=(o13 cx (by omega) (by omega) (by omega)).trans hX
    have hgr23:h23 gr=some (.row 15 es .live none):=(o13 gr (by omega) (by omega) (by omega)).trans ((hF gr (by omega) (by omega)).trans p3)
    obtain ⟨cv,hcv⟩:∃ cv:AV,cv=.row c8 2 0 2:=⟨_,rfl⟩
    have hcvc:cv.cell=true:=by rw [hcv]; rfl
    rw [←hcv] at hX23 hC
    obtain ⟨el,hel⟩:∃ el:List AV,el=[.int 2,.str ⟨#[]⟩,.nil,.nil,cv,.row gr2 15 0 es2.length,.str ⟨#[]⟩,.nil,.int 0,.int 0,.int 0,.nil,.str ⟨#[]⟩,.nil,.nil]:=⟨_,rfl⟩
    obtain ⟨h24,hh24⟩:∃ h24,h24=upd h23 cx (some (.row 15 [el] .live none)):=⟨_,rfl⟩
    have hX24:h24 cx=some (.row 15 [el] .live none):=by rw [hh24,ah]
    have hC24:CondAt h24 (fun k=>k=gr2∨k=c8) cv [f5,f8]:=hC.frame (fun k hk=>.inr hk) fun k hk=>by
     have hk':k=c8:=hk
     rw [hh24,ad (by omega),o13 k (by omega) (by omega) (by omega)]
    have hte:Tr 2 h24 (fun k=>S2 k∨(k=gr2∨k=c8)) [el] (1+m2+0):=by
     rw [hel]
     exact Tr.cons (fun k=>S2 k∨(k=gr2∨k=c8)) (fun k=>k=gr2∨k=c8) S2 (fun _=>False) 2 ⟨#[]⟩ .nil .nil cv (.row gr2 15 0 es2.length) ⟨#[]⟩ .nil _ [] [] [f5,f8] [] (.mk 0 0 ⟨0,[]⟩ ⟨#[]⟩ [] []) es2 [] m2 0 (by rfl) (by rfl) (by rfl) (by simp [Expr.cells_mk,aQ]) ⟨rfl,rfl,rfl,rfl,by simp⟩ hC24 (.inr ⟨gr2,.inl rfl,rfl,by rw [hh24,ad (by omega)]; exact o3⟩)
      (o4.frame fun k hk=>by have:=o5 k hk; rw [hh24,ad (by omega)]) (.nil _) (fun _ h=>.inr h) (fun _ h=>.inl h) (fun _ h=>h.elim) (fun k h1 h2=>by have:=o5 k h2; rcases h1 with h1 | h1 <;> omega) (fun _ _ h=>h) (fun _ _ h=>h)
    have hok1:aB 15 el=true:=hte.len el (by simp)
    have hgr24:h24 gr=some (.row 15 es .live none):=by rw [hh24,ad (by omega)]; exact hgr23
    have hap24:apI 15 272 .plain (.row gr 15 0 es.length) (.sl [el] true) ⟨h24,c23⟩=_:=bV (by decide) hgr24 rfl (by decide) (by decide) (by decide) hok1 (by omega)
    have hel15:el.length=15:=by rw [hel]; rfl
    have heltk:el.take 15=el:=List.take_of_length_le (by omega)
    have hbs24:=dD (sz:=15) (zs:=[.int 0,.str ⟨#[]⟩,.nil,.nil,.nil,.nil,.str ⟨#[]⟩,.nil,.int 0,.int 0,.int 0,.nil,.str ⟨#[]⟩,.nil,.nil]) (by rfl) (by decide) hok1 ⟨h24,c23⟩
    have hwi:=ae (x:=(i:Int)+1) (by omega) (by omega)
    simp [hs16,hX23,hcvc,←hel,←hh24,hX24,h11,hbs24,hap24,hel15,heltk,hv,hwi,hInv]
    refine ⟨es++[el],c23,⟨rfl,by simp⟩,?_⟩
    refine StI.next (n1:=n') (n2:=n2) (a1:=a') (a2:=a2) (Se:=fun k=>S2 k∨(k=gr2∨k=c8)) (m1:=1+m2+0) (h:=h) (c:=c) hg hgnc hlen p1 p2 p3 p4 p5 p6 p9 p8 p12 p11 p13 p14 (by omega) ?_ hte ?_ (by omega) (by omega) (by omega) ?_ ?_ (by omega) (by omega)
    ·intro k hk hk1 hk2
     rw [hh24,ad (by omega),o13 _ (by omega) hk1 hk2]; exact hF k hk hk1
    ·intro k hk
     rcases hk with hk | rfl | hk
     ·have:=o5 k hk; omega
     ·omega
     ·have hk':k=c8:=hk
      omega
    ·rw [hh24,ad (by omega)]; exact o7
    ·unfold SM; rw [hh24,ad (by omega)]; exact o10
  have hcase:¬1<deep∨(1<deep∧k1<3∧nk=0)∨(1<deep∧¬k1<3∧k1≠3)∨(1<deep∧k1=3∧around=[]):=by
   by_cases hd:1<deep
   ·by_cases h1:k1<3
    ·exact .inr (.inl ⟨hd,h1,by have:¬0<nk:=fun h=>hF ⟨hd,h1,h⟩; omega⟩)
    ·by_cases h2:k1=3
     ·by_cases h3:around=[]
      ·exact .inr (.inr (.inr ⟨hd,h2,h3⟩))
      ·exact absurd ⟨hd,h2,h3⟩ hI
     ·exact .inr (.inr (.inl ⟨hd,h1,h2⟩))
   ·exact .inl hd
  rcases hcase with hd | ⟨hd,h1,h2⟩ | ⟨hd,h1,h2⟩ | ⟨hd,h1,h2⟩
  case' inl=>simp [hd,hb3]
  case' inr.inl=>
   have h13:¬k1=3:=by omega
   subst h2
   simp [hd,h1,h13,hb3]
  case' inr.inr.inl=>simp [hd,h1,h2,hb3]
  case' inr.inr.inr=>
   have hse:(ay around).length=0:=by rw [h2]; rfl
   simp [hd,h1,hb3,hse]
  all_goals
   refine ACalls.draw (jF around (by omega) L a3 g h3 c3 r3 (by omega) (by omega) hL (by omega)) fun w h4 c4 a4 hw hc4 s1 s2 s3 s4=>?_
   obtain ⟨key,fs,rfl⟩:=hw
   have hb4:h4 c0=some (.row 1 [[row (ay around)]] .live none):=by rw [s4 _ hcg]; exact hb3
   have hgn4:h4 gn=some (.row 1 [[.int n']] .live none):=by rw [s4 _ (Ne.symm hgn)]; exact hgn3
   have hq:n'.tdiv 10=0∨n'.tdiv 10=1:=by
    rw [Int.tdiv_eq_ediv_of_nonneg (by omega)]; omega
   have hwq:=ae (x:=n'.tdiv 10) (by omega) (by omega)
   simp [hb4,hgn4,h11,bsI,aw,hwq]
   obtain ⟨z,hz⟩:∃ z,z=IntKind.u8.wrap (IntKind.i64.wrap (48+n'.tmod 10)):=⟨_,rfl⟩
   rw [←hz]
   obtain ⟨zb,hzb⟩:∃ zb:UInt8,zb=UInt8.ofNat z.toNat:=⟨_,rfl⟩
   have hss:(⟨#[115]⟩:ByteArray).size=1:=rfl
   have hss2:(⟨#[zb]⟩:ByteArray).size=1:=rfl
   have hadd:=rC (x:=⟨#[115]⟩) (y:=⟨#[zb]⟩) (by omega)
   simp [lB,←hzb,hadd,hb4,hgn4,hwq,h11,bsI,aw]
   refine ACalls.pure (tq _ _ hq) fun c5 hc5=>?_
   obtain ⟨y,hy⟩:∃ y:ByteArray,y=(if n'.tdiv 10=0 then ⟨#[]⟩ else ⟨#[120]⟩):=⟨_,rfl⟩
   have hys:y.size≤1:=by rw [hy]; split <;> decide
   rw [←hy]
   have hadd2:=rC (x:=⟨#[115]⟩++⟨#[zb]⟩) (y:=y) (by rw [ByteArray.size_append]; omega)
   simp [hadd2,hb4,hgn4,hwq,h11,bsI,aw,←hz,←hzb,lB]
   refine ACalls.draw (R:=fun v=>∃ k,v=.int k∧k∈[1,2,3]) (cm [1,2,3] L a4 g h4 c5 (by simp) (by simp) s3 (by omega) (by omega) hL (by omega)) fun w h6 c6 a6 hw hc6 t1 t2 t3 t4=>?_
   obtain ⟨dp,rfl,hdp⟩:=hw
   have hdp2:1≤dp∧dp≤3:=by simp at hdp; omega
   have hb6:h6 c0=some (.row 1 [[row (ay around)]] .live none):=by rw [t4 _ hcg]; exact hb4
   have hgn6:h6 gn=some (.row 1 [[.int n']] .live none):=by rw [t4 _ (Ne.symm hgn)]; exact hgn4
   simp [hadd2,hb6,hgn6,hwq,h11,bsI,aw,←hz,←hzb,lB]
   have hx2:fk 2=83:=by decide
   refine ACalls.draw (tr around (by omega) L hL g 2 dp a6 h6 c6 (by omega) (by omega) (by omega) t3 (by omega) (by omega) (by omega)) fun w h7 c7 a7 hw hc7 u1 u2 u3 u4=>?_
   obtain ⟨e,rfl⟩:=hw
   have hb7:h7 c0=some (.row 1 [[row (ay around)]] .live none):=by rw [u4 _ hcg]; exact hb6
   have hgn7:h7 gn=some (.row 1 [[.int n']] .live none):=by rw [u4 _ (Ne.symm hgn)]; exact hgn6
   have hgr7:h7 gr=some (.row 15 es .live none):=by rw [u4 _ (by omega),t4 _ (by omega),s4 _ (by omega),r4 _ (by omega),hfr2' _ (by omega)]; exact p3
   obtain ⟨nm,hnm⟩:∃ nm:ByteArray,nm=⟨#[115]⟩++⟨#[zb]⟩++y:=⟨_,rfl⟩
   have hok:∀ x∈es,aB 15 x=true:=p4.len
   have hap:∀ x,aB 15 x=true→apI 15 272 .plain (.row gr 15 0 es.length) (.sl [x] true) ⟨h7,c7⟩=_:=fun x hx=>bV (by decide) hgr7 rfl (by decide) (by decide) (by decide) hx (by omega)
   obtain ⟨o,en,ef,exx,ey,ez⟩:=e
   have hg1:¬gn=c7:=by omega
   have hg2:¬gn=gr:=by omega
   have hw8:=ae (x:=n'+1) (by omega) (by omega)
   have hwi:=ae (x:=(i:Int)+1) (by omega) (by omega)
   simp [hadd2,hb7,hgn7,hwq,h11,bsI,aw,aM,←hz,←hzb,lB,Expr.av_mk,←hnm,hap,hg1,hg2,hw8,hv,hwi,hInv]
   refine ⟨es++[[.int 3,.str nm,.nil,.nil,.nil,.nil,.str key,row (fs.map Form.cells),.int o,.int en,.int ef.const,row (ef.terms.map Term.cells),.str exx,row (ey.map Form.cells),row (ez.map Expr.cells)]],c7,⟨rfl,by simp⟩,?_⟩
   rw [qE (by omega:c7≠gn),qE (by omega:gr≠gn)]
   refine StI.next (n1:=n') (n2:=n'+1) (a1:=a') (a2:=a7) (Se:=fun _=>False) (m1:=1) (h:=h) (c:=c) hg hgnc hlen p1 p2 p3 p4 p5 p6 p9 p8 p12 p11 p13 p14 (by omega) ?_ ?_ (fun k hk=>hk.elim) (by omega) (by omega) (by omega) ah ?_ (by omega) (by omega)
   ·intro k hk hk1 hk2
    rw [ad hk2,u4 _ hk1,t4 _ hk1,s4 _ hk1,r4 _ hk1,hfr2' _ (by omega)]
   ·exact Tr.cons (fun _=>False) (fun _=>False) (fun _=>False) (fun _=>False) 3 nm .nil .nil .nil .nil key (row (fs.map Form.cells)) _ [] [] [] fs (.mk o en ef exx ey ez) [] [] 0 0 rfl rfl (by simp) (by simp [Expr.cells_mk,aQ]) (by simp [AV.cell]) (.inl rfl) (.inl ⟨true,rfl,rfl⟩) (.nil _) (.nil _) (fun _ h=>h) (fun _ h=>h) (fun _ h=>h) (fun _ h _=>h) (fun _ h _=>h) (fun _ h _=>h)
   ·unfold SM; rw [ad hgn]; exact u3
end Go.Proofs.YtjhogglgkjcacaaGreat
set_option maxRecDepth 20000
set_option maxHeartbeats 4000000
namespace Go.Proofs.YtjhogglgkjcacaaGreat
open Go.AM Go.Wb
def BT (B:Nat) (h:Heap) (F:Nat→Prop) (x:AV) (n:Nat):Prop:=∃ (es:List (List AV)) (So St:Nat→Prop),BodyAt h So x es∧Tr B h St es n∧(∀ k,So k→F k)∧(∀ k,St k→F k)∧(∀ k,So k→St k→False)
theorem BT.frame {B:Nat} {h h':Heap} {F:Nat→Prop} {x:AV} {n:Nat} (b:BT B h F x n) (hh:∀ k,F k→h' k=h k):BT B h' F x n:=by
 obtain ⟨es,So,St,h1,h2,h3,h4,h5⟩:=b
 exact ⟨es,So,St,h1.frame (fun _ h=>h) fun k hk=>hh k (h3 k hk),h2.frame fun k hk=>hh k (h4 k hk),h3,h4,h5⟩
theorem BT.mono {B:Nat} {h:Heap} {F F':Nat→Prop} {x:AV} {n:Nat} (b:BT B h F x n) (hF:∀ k,F k→F' k):BT B h F' x n:=by
 obtain ⟨es,So,St,h1,h2,h3,h4,h5⟩:=b
 exact ⟨es,So,St,h1,h2,fun k hk=>hF k (h3 k hk),fun k hk=>hF k (h4 k hk),h5⟩
theorem BT.more {B B':Nat} (hB:B≤B') {h:Heap} {F:Nat→Prop} {x:AV} {n:Nat} (b:BT B h F x n):BT B' h F x n:=by
 obtain ⟨es,So,St,h1,h2,h3,h4,h5⟩:=b
 exact ⟨es,So,St,h1,h2.more hB,h3,h4,h5⟩
structure Head (B:Nat) (h:Heap) (F:Nat→Prop) (gl len n:Nat) (kind:Int) (name:ByteArray) (lo hi cv body:AV) (array:ByteArray) (subs:AV) (ex:List AV) (es:List (List AV)) (nb:Nat) (fs:List Wb.Form):Prop where
 hlen:len=es.length+1
 at_:h gl=some (.row 15 ((.int kind::.str name::lo::hi::cv::body::.str array::subs::ex)::es) .live none)
 mem:F gl
 lt:nb<n
 exl:ex.length=7
 cells:lo.cell=true∧hi.cell=true∧subs.cell=true∧ex.all AV.cell=true∧cv.cell=true∧body.cell=true
 conds:fs.length≤B
 cond:cv=.sl (fs.map Form.cells) true∨∃ g,F g∧g≠gl∧cv=.row g 2 0 fs.length∧h g=some (.row 2 (fs.map Form.cells) .live none)
 down:∃ F2:Nat→Prop,(∀ k,F2 k→F k∧k≠gl)∧BT B h F2 body nb∧∀ (h':Heap) (E:Nat→Prop),(∀ k,E k→¬F k)→(∀ k,F k→¬F2 k→h' k=h k)→BT (B+1) h' (fun k=>F2 k∨E k) body nb→BT (B+1) h' (fun k=>F k∨E k) (.row gl 15 0 len) n
 updA:∀ (h':Heap) (kind':Int) (name':ByteArray) (lo':AV) (array':ByteArray) (ex':List AV) (los':List Wb.Bound) (e':Wb.Expr),(lo'=lo∨(norm lo'=row (los'.map Bound.cells)∧lo'.cell=true))→(ex'=ex∨(aQ ex'=e'.cells∧ex'.all AV.cell=true)) →
  h' gl=some (.row 15 ((.int kind'::.str name'::lo'::hi::cv::body::.str array'::subs::ex')::es) .live none)→(∀ k,F k→k≠gl→h' k=h k)→BT (B+1) h' F (.row gl 15 0 len) n
 updB:∀ (h':Heap) (E:Nat→Prop) (gn:Nat) (fs':List Wb.Form),fs'.length≤B+1→E gn→(∀ k,E k→¬F k)→h' gn=some (.row 2 (fs'.map Form.cells) .live none) →
  h' gl=some (.row 15 ((.int kind::.str name::lo::hi::.row gn 2 0 fs'.length::body::.str array::subs::ex)::es) .live none)→(∀ k,F k→k≠gl→(∀ m,cv≠.row k 2 0 m)→h' k=h k)→BT (B+1) h' (fun k=>F k∨E k) (.row gl 15 0 len) n
theorem BT.focus {B:Nat} {h:Heap} {F:Nat→Prop} {gl len n:Nat} (b:BT B h F (.row gl 15 0 len) n) (hl:0<len):∃ kind name lo hi cv body array subs ex es nb fs,Head B h F gl len n kind name lo hi cv body array subs ex es nb fs:=by
 obtain ⟨es,So,St,h1,h2,h3,h4,h5⟩:=b
 rcases h1 with ⟨_,h1,_⟩ | ⟨g,hg,h1,h6⟩
 ·cases h1
 injection h1 with e1 e2 e3 e4
 subst e1
 have hok:=h2.len
 cases h2 with
 | nil S=>simp at e4; omega
 | cons S So' Sb Sr kind name lo hi cv body array subs ex los his fs ss e bes es n m hlo hhi hsub hex hlc hc hb ht hr k1 k2 k3 d1 d2 d3=>
  have hok1:=hok _ (List.mem_cons_self)
  simp only [aB,List.length_cons,Bool.and_eq_true,beq_iff_eq,List.all_cons] at hok1
  refine ⟨kind,name,lo,hi,cv,body,array,subs,ex,es,n,fs,⟨by simpa using e4,h6,h3 _ hg,by omega,by omega,⟨hlc.1,hlc.2.1,hlc.2.2.1,hlc.2.2.2.1,hok1.2.2.2.2.2.1,hok1.2.2.2.2.2.2.1⟩,hlc.2.2.2.2,?_,?_,?_,?_⟩⟩
  ·rcases hc with hc | ⟨g2,q1,q2,q3⟩
   ·exact .inl hc
   ·exact .inr ⟨g2,h4 _ (k1 _ q1),fun e=>h5 gl hg (e▸k1 _ q1),q2,q3⟩
  ·
   refine ⟨fun k=>(So' k∧∃ m,body=.row k 15 0 m)∨Sb k,?_,⟨bes,fun k=>So' k∧∃ m,body=.row k 15 0 m,Sb,?_,ht,fun k hk=>.inl hk,fun k hk=>.inr hk,fun k hk hk2=>d1 k hk.1 hk2⟩,?_⟩
   ·intro k hk
    have hk':St k:=hk.elim (fun q=>k1 k q.1) (k2 k)
    exact ⟨h4 k hk',fun e=>h5 k (e▸hg) hk'⟩
   ·rcases hb with hb | ⟨g2,q1,q2,q3⟩
    ·exact .inl hb
    ·exact .inr ⟨g2,⟨q1,_,q2⟩,q2,q3⟩
   ·intro h' E hE hh hb'
    obtain ⟨bes',So2,St2,b1,b2,b3,b4,b5⟩:=hb'
    have hgl:h' gl=h gl:=hh gl (h3 _ hg) fun hk=>by
     rcases hk with hk | hk
     ·exact h5 gl hg (k1 _ hk.1)
     ·exact h5 gl hg (k2 _ hk)
    have hnF2:∀ k,So' k→(∀ m,body≠.row k 15 0 m)→h' k=h k:=fun k hk hne=>hh k (h4 _ (k1 _ hk)) fun hk2=>by
     rcases hk2 with ⟨_,m,hm⟩ | hk2
     ·exact hne m hm
     ·exact d1 k hk hk2
    have hcv':CondAt h' (fun k=>So' k∧∀ m,body≠.row k 15 0 m) cv fs:=by
     rcases hc with hc | ⟨g2,q1,q2,q3⟩
     ·exact .inl hc
     ·have hnb:∀ m,body≠.row g2 15 0 m:=fun m hm=>by
       rcases hb with ⟨b,hb,_⟩ | ⟨g3,r1,r2,r3⟩
       ·rw [hb] at hm; cases hm
       ·rw [r2] at hm; injection hm with hm; subst hm; rw [q3] at r3; cases r3
      exact .inr ⟨g2,⟨q1,hnb⟩,q2,(hnF2 g2 q1 hnb).trans q3⟩
    refine ⟨(.int kind::.str name::lo::hi::cv::body::.str array::subs::ex)::es,fun k=>k=gl,fun k=>(St k∧k≠gl)∨E k,.inr ⟨gl,rfl,by rw [e4],hgl.trans h6⟩,?_,fun k hk=>.inl (hk▸h3 _ hg),fun k hk=>hk.imp (fun q=>h4 _ q.1) id,fun k hk hk2=>?_⟩
    ·have hSo2:∀ k,So2 k→((So' k∧∃ m,body=.row k 15 0 m)∨Sb k)∨E k:=b3
     refine Tr.cons _ (fun k=>(So' k∧∀ m,body≠.row k 15 0 m)∨So2 k) St2 Sr kind name lo hi cv body array subs ex los his fs ss e bes' es n m hlo hhi hsub hex ⟨hlc.1,hlc.2.1,hlc.2.2.1,hlc.2.2.2.1,Nat.le_succ_of_le hlc.2.2.2.2⟩ (hcv'.frame (fun _ h=>.inl h) fun _ _=>rfl) (b1.frame (fun _ h=>.inr h) fun _ _=>rfl) b2 ((hr.more (Nat.le_succ B)).frame fun k hk=>hh k (h4 _ (k3 _ hk)) fun hk2=>?_) ?_ ?_ ?_ ?_ ?_ ?_
     ·rcases hk2 with hk2 | hk2
      ·exact d2 k hk2.1 hk
      ·exact d3 k hk2 hk
     ·intro k hk
      rcases hk with hk | hk
      ·exact .inl ⟨k1 _ hk.1,fun e=>h5 gl hg (e▸k1 _ hk.1)⟩
      ·rcases b3 k hk with (hk | hk) | hk
       ·exact .inl ⟨k1 _ hk.1,fun e=>h5 gl hg (e▸k1 _ hk.1)⟩
       ·exact .inl ⟨k2 _ hk,fun e=>h5 gl hg (e▸k2 _ hk)⟩
       ·exact .inr hk
     ·intro k hk
      rcases b4 k hk with (hk | hk) | hk
      ·exact .inl ⟨k1 _ hk.1,fun e=>h5 gl hg (e▸k1 _ hk.1)⟩
      ·exact .inl ⟨k2 _ hk,fun e=>h5 gl hg (e▸k2 _ hk)⟩
      ·exact .inr hk
     ·intro k hk
      exact .inl ⟨k3 _ hk,fun e=>h5 gl hg (e▸k3 _ hk)⟩
     ·intro k hk hk2
      rcases hk with hk | hk
      ·rcases b4 k hk2 with (hk3 | hk3) | hk3
       ·obtain ⟨_,m',hm'⟩:=hk3; exact hk.2 m' hm'
       ·exact d1 k hk.1 hk3
       ·exact hE k hk3 (h4 _ (k1 _ hk.1))
      ·exact b5 k hk hk2
     ·intro k hk hk2
      rcases hk with hk | hk
      ·exact d2 k hk.1 hk2
      ·rcases b3 k hk with (hk | hk) | hk
       ·exact d2 k hk.1 hk2
       ·exact d3 k hk hk2
       ·exact hE k hk (h4 _ (k3 _ hk2))
     ·intro k hk hk2
      rcases b4 k hk with (hk | hk) | hk
      ·exact d2 k hk.1 hk2
      ·exact d3 k hk hk2
      ·exact hE k hk (h4 _ (k3 _ hk2))
    ·subst hk
     rcases hk2 with hk2 | hk2
     ·exact hk2.2 rfl
     ·exact hE _ hk2 (h3 _ hg)
  ·
   intro h' kind' name' lo' array' ex' los' e' hlo' hex' hgl hh
   have hne:∀ k,St k→k≠gl:=fun k hk e=>h5 gl hg (e▸hk)
   have hfr:∀ k,St k→h' k=h k:=fun k hk=>hh k (h4 _ hk) (hne k hk)
   refine ⟨(.int kind'::.str name'::lo'::hi::cv::body::.str array'::subs::ex')::es,fun k=>k=gl,St,.inr ⟨gl,rfl,by rw [e4]; rfl,hgl⟩,?_,fun k hk=>hk▸h3 _ hg,h4,fun k hk hk2=>hne k hk2 hk⟩
   have hlo2:∃ los2:List Wb.Bound,norm lo'=row (los2.map Bound.cells)∧lo'.cell=true:=by
    rcases hlo' with rfl | hq
    ·exact ⟨los,hlo,hlc.1⟩
    ·exact ⟨los',hq⟩
   obtain ⟨los2,hlo2⟩:=hlo2
   have hex2:∃ e2:Wb.Expr,aQ ex'=e2.cells∧ex'.all AV.cell=true:=by
    rcases hex' with rfl | hq
    ·exact ⟨e,hex,hlc.2.2.2.1⟩
    ·exact ⟨e',hq⟩
   obtain ⟨e2,he2,he3⟩:=hex2
   exact Tr.cons St So' Sb Sr kind' name' lo' hi cv body array' subs ex' _ his fs ss e2 bes es n m hlo2.1 hhi hsub he2 ⟨hlo2.2,hlc.2.1,hlc.2.2.1,he3,Nat.le_succ_of_le hlc.2.2.2.2⟩ (hc.frame (fun _ h=>h) fun k hk=>hfr k (k1 k hk)) (hb.frame (fun _ h=>h) fun k hk=>hfr k (k1 k hk)) ((ht.more (Nat.le_succ B)).frame fun k hk=>hfr k (k2 k hk)) ((hr.more (Nat.le_succ B)).frame fun k hk=>hfr k (k3 k hk)) k1 k2 k3 d1 d2 d3
  ·
   intro h' E gn fs' hfs' hgn hE hgn2 hgl hh
   have hne:∀ k,St k→k≠gl:=fun k hk e=>h5 gl hg (e▸hk)
   have hncv:∀ k,St k→(∀ m,cv≠.row k 2 0 m)→h' k=h k:=fun k hk hc=>hh k (h4 _ hk) (hne k hk) hc
   have hcS:∀ k m',cv=.row k 2 0 m'→So' k∧∃ es',h k=some (.row 2 es' .live none):=fun k m' hm=>by
    rcases hc with hc | ⟨g2,q1,q2,q3⟩
    ·rw [hc] at hm; cases hm
    ·rw [q2] at hm; injection hm with hm; subst hm; exact ⟨q1,_,q3⟩
   have hSb:∀ k,Sb k→h' k=h k:=fun k hk=>hncv k (k2 k hk) fun m' hm=>d1 k (hcS k m' hm).1 hk
   have hSr:∀ k,Sr k→h' k=h k:=fun k hk=>hncv k (k3 k hk) fun m' hm=>d2 k (hcS k m' hm).1 hk
   refine ⟨(.int kind::.str name::lo::hi::.row gn 2 0 fs'.length::body::.str array::subs::ex)::es,fun k=>k=gl,fun k=>(St k∧k≠gl)∨E k,.inr ⟨gl,rfl,by rw [e4]; rfl,hgl⟩,?_,fun k hk=>.inl (hk▸h3 _ hg),fun k hk=>hk.imp (fun q=>h4 _ q.1) id,fun k hk hk2=>?_⟩
   ·refine Tr.cons _ (fun k=>(So' k∧∃ m,body=.row k 15 0 m)∨k=gn) Sb Sr kind name lo hi (.row gn 2 0 fs'.length) body array subs ex los his fs' ss e bes es n m hlo hhi hsub hex ⟨hlc.1,hlc.2.1,hlc.2.2.1,hlc.2.2.2.1,hfs'⟩ (.inr ⟨gn,.inr rfl,rfl,hgn2⟩) ?_ ((ht.more (Nat.le_succ B)).frame hSb) ((hr.more (Nat.le_succ B)).frame hSr) ?_ ?_ ?_ ?_ ?_ d3
    ·rcases hb with hb | ⟨g3,r1,r2,r3⟩
     ·exact .inl hb
     ·refine .inr ⟨g3,.inl ⟨r1,_,r2⟩,r2,(hncv g3 (k1 _ r1) fun m' hm=>?_).trans r3⟩
      obtain ⟨_,es',hes'⟩:=hcS g3 m' hm
      rw [r3] at hes'; cases hes'
    ·intro k hk
     rcases hk with hk | rfl
     ·exact .inl ⟨k1 _ hk.1,hne k (k1 _ hk.1)⟩
     ·exact .inr hgn
    ·exact fun k hk=>.inl ⟨k2 _ hk,hne k (k2 _ hk)⟩
    ·exact fun k hk=>.inl ⟨k3 _ hk,hne k (k3 _ hk)⟩
    ·intro k hk hk2
     rcases hk with hk | rfl
     ·exact d1 k hk.1 hk2
     ·exact hE _ hgn (h4 _ (k2 _ hk2))
    ·intro k hk hk2
     rcases hk with hk | rfl
     ·exact d2 k hk.1 hk2
     ·exact hE _ hgn (h4 _ (k3 _ hk2))
   ·subst hk
    rcases hk2 with hk2 | hk2
    ·exact hk2.2 rfl
    ·exact hE _ hk2 (h3 _ hg)
def pa (h:Heap) (ga:Nat) (A:List Wb.Array):Prop:=∃ (k0 k1 k2:ByteArray) (s0 s1 s2:AV) (z0 z1 z2:List Int),A=[⟨k0,z0⟩,⟨k1,z1⟩,⟨k2,z2⟩]∧h ga=some (.row 2 [[.str k0,s0],[.str k1,s1],[.str k2,s2]] .live none)∧norm s0=row (ak z0)∧norm s1=row (ak z1)∧norm s2=row (ak z2)∧s0.cell=true∧s1.cell=true∧s2.cell=true
def SmallA (A:List Wb.Array):Prop:=∀ a∈A,a.sizes.length≤5∧∀ k∈a.sizes,0≤k∧k≤20000
end Go.Proofs.YtjhogglgkjcacaaGreat
set_option maxRecDepth 20000
set_option maxHeartbeats 4000000
namespace Go.Proofs.YtjhogglgkjcacaaGreat
open Go.AM Go.Wb
theorem _root_.Go.AM.stI_c {g e o sz:Nat} {v:AV} {es:List (List AV)} {cs:List AV} {s:St} (hv:v.cell=true) (hg:s.h g=some (.row sz es .live none)) (he:es[e]?=some cs) (ho:o+1≤cs.length) :
  stI 1 (.ptr g e o) v s=some { s with h:=upd s.h g (some (.row sz (es.set e (cs.take o++[v]++cs.drop (o+1))) .live none)) }:=by
 have hc:v.cells=[v]:=by cases v <;> first | rfl | cases hv
 simp only [stI,hg,he,hc,List.length_cons,List.length_nil,List.all_cons,List.all_nil,hv,ho,Bool.and_true,and_self,if_true,di,Nat.zero_add]
theorem _root_.Go.AM.lp_cut {P:Program} {a:AC} {Q:Ex→Slots→St→Prop} {sl:Slots} {s:St} (id:Nat) (W:List Nat) (hW:gS a.wr W=true) (Post:Slots→St→Prop) (h:acW P (.loop a) (fun e sl' s'=>e=.exit id∧Post sl' s') sl s)
  (hk:∀ v s',Post (ov W sl v) s'→Q (.exit id) (ov W sl v) s'):acW P (.loop a) Q sl s:=by
 refine bL _ (gJ _ h) fun e sl' s' hp=>?_
 obtain ⟨⟨rfl,hp⟩,hf⟩:=hp
 have e:ov W sl sl'=sl':=rR fun t ht=>hf t (ll hW ht)
 have:=hk sl' s' (by rw [e]; exact hp)
 rwa [e] at this
theorem BT.len {B:Nat} {h:Heap} {F:Nat→Prop} {x:AV} {n:Nat} (b:BT B h F x n) (s:St):∃ (len:Int),ee 1 x s=some (.int len)∧(0<len→∃ gl l,x=.row gl 15 0 l∧0<l∧len=l)∧(¬0<len→len=0):=by
 obtain ⟨es,So,St,hb,_⟩:=b
 rcases hb with ⟨b,rfl,_⟩ | ⟨g,_,rfl,_⟩
 ·exact ⟨0,rfl,fun h=>by omega,fun _=>rfl⟩
 ·exact ⟨es.length,rfl,fun h=>⟨_,_,rfl,by omega,rfl⟩,fun h=>by omega⟩
structure PgAt (B:Nat) (h:Heap) (cp ga:Nat) (A:List Wb.Array) (F:Nat→Prop) (x:AV) (n:Nat):Prop where
 at_:h cp=some (.row 2 [[.row ga 2 0 3,x]] .live none)
 arr:pa h ga A
 small:SmallA A
 bt:BT B h F x n
 ne:cp≠ga
 fcp:¬F cp
 fga:¬F ga
def mO (L:List Int) (g:Nat) (h0:Heap) (c0 cp ga:Nat) (F:Nat→Prop) (n:Nat) (a:Int) (h:Heap) (c:Nat):Prop:=
 ∃ (A:List Wb.Array) (F':Nat→Prop) (x':AV) (n':Nat) (a':Int),PgAt 3 h cp ga A F' x' n'∧n'≤n+2∧(∀ k,F' k→F k∨(c0≤k∧k<c))∧SM h g L a'∧a≤a'∧a'≤a+100∧∀ k,k<c0→k≠g→k≠cp→k≠ga→¬F k→h k=h0 k
theorem SmallA.one {k0 k1 k2:ByteArray} {z0 z1 z2:List Int} (h:SmallA [⟨k0,z0⟩,⟨k1,z1⟩,⟨k2,z2⟩]) (y:List Int) (hy:y.length≤5∧∀ k∈y,0≤k∧k≤20000) (k':ByteArray):SmallA [⟨k0,y⟩,⟨k1,z1⟩,⟨k2,z2⟩]∧SmallA [⟨k0,z0⟩,⟨k',z1⟩,⟨k2,z2⟩]:=by
 refine ⟨fun a ha=>?_,fun a ha=>?_⟩
 ·simp at ha
  rcases ha with rfl | rfl | rfl
  ·exact hy
  ·exact h _ (by simp)
  ·exact h _ (by simp)
 ·simp at ha
  rcases ha with rfl | rfl | rfl
  ·exact h ⟨k0,z0⟩ (by simp)
  ·exact h ⟨k1,z1⟩ (by simp)
  ·exact h ⟨k2,z2⟩ (by simp)
theorem vD (L:List Int) (hL:L.length≤1048576) (a:Int) (g cp ga:Nat) (A:List Wb.Array) (F:Nat→Prop) (x:AV) (n:Nat) (hn:n≤50) (h0:Heap) (c0:Nat) (hs:SM h0 g L a) (ha:0≤a) (ha':a<700000000) (hg:g<c0) (hcp:cp<c0) (hga:ga<c0) (hgcp:g≠cp) (hgga:g≠ga) (hF:∀ k,F k→k<c0∧k≠g) (hp:PgAt 2 h0 cp ga A F x n) :
  ACalls Pg Fn55.n [.ptr g 0 0,.ptr cp 0 0] ⟨h0,c0⟩ fun av s'=>mO L g h0 c0 cp ga F n a s'.h s'.c:=by
 obtain ⟨p1,p2,p3,p4,p5,p6,p7⟩:=hp
 refine Fn55.calls .keep ?_
 unfold Fn55.ac
 simp
 refine ACalls.draw (cu L a 4 g h0 c0 (by omega) hs ha (by omega) hL (by omega)) fun v h1 c1 a1 hv hc1 q1 q2 q3 q4=>?_
 obtain ⟨k1,rfl,hk1,hk2,_⟩:=hv
 obtain ⟨b0,b1,b2,s0,s1,s2,z0,z1,z2,rfl,r1,r2,r3,r4,r5,r6,r7⟩:=p2
 have hp1:h1 cp=some (.row 2 [[.row ga 2 0 3,x]] .live none):=(q4 cp (Ne.symm hgcp)).trans p1
 have ha1:h1 ga=some (.row 2 [[.str b0,s0],[.str b1,s1],[.str b2,s2]] .live none):=(q4 ga (Ne.symm hgga)).trans r1
 have hbt1:BT 2 h1 F x n:=p4.frame fun k hk=>q4 k (hF k hk).2
 have hxc:x.cell=true:=by
  obtain ⟨es,So,St,hb,_⟩:=p4
  rcases hb with ⟨b,rfl,_⟩ | ⟨g,_,rfl,_⟩ <;> rfl
 by_cases e0:k1=0
 ·subst e0
  simp [hp1,bsI,aw]
  refine ACalls.draw (cu L a1 5 g h1 c1 (by omega) q3 (by omega) (by omega) hL (by omega)) fun v h2 c2 a2 hv hc2 t1 t2 t3 t4=>?_
  obtain ⟨k2,rfl,hk3,hk4,_⟩:=hv
  have hp2:=(t4 cp (Ne.symm hgcp)).trans hp1
  have ha2:=(t4 ga (Ne.symm hgga)).trans ha1
  have hk5:∃ (y:List Int) (sv:AV),(y.length≤5∧∀ k∈y,0≤k∧k≤20000)∧([[AV.nil],[.sl [[.int 0]] true],[.sl [[.int 3]] true],[.sl [[.int 20000]] true],[.sl [[.int 2],[.int 2],[.int 2],[.int 2],[.int 2]] true]]:List (List AV))[k2.toNat]?=some [sv]∧norm sv=row (ak y)∧sv.cell=true:=by
   have:k2=0∨k2=1∨k2=2∨k2=3∨k2=4:=by omega
   rcases this with rfl | rfl | rfl | rfl | rfl
   ·exact ⟨[],_,by simp,rfl,rfl,rfl⟩
   ·exact ⟨[0],_,by simp,rfl,rfl,rfl⟩
   ·exact ⟨[3],_,by simp,rfl,rfl,rfl⟩
   ·exact ⟨[20000],_,by simp,rfl,rfl,rfl⟩
   ·exact ⟨[2,2,2,2,2],_,by simp,rfl,rfl,rfl⟩
  obtain ⟨y,sv,hy1,hy2,hy3,hy4⟩:=hk5
  have hst:=stI_c (o:=1) (s:=⟨h2,c2⟩) hy4 ha2 (e:=0) rfl (by simp)
  simp [hp2,hy2,hk3,hst,-wi]
  refine ⟨_,F,x,n,a2,⟨?_,⟨b0,b1,b2,sv,s1,s2,y,z1,z2,rfl,ah,hy3,r3,r4,hy4,r6,r7⟩,(p3.one y hy1 b0).1,?_,p5,p6,p7⟩,by omega,fun k hk=>.inl hk,?_,by omega,by omega,?_⟩
  ·show upd h2 ga _ cp=_
   rw [ad p5]; exact hp2
  ·refine (hbt1.more (by omega)).frame fun k hk=>?_
   show upd h2 ga _ k=_
   rw [ad (show k≠ga from fun e=>p7 (e▸hk)),t4 k (hF k hk).2]
  ·show SM (upd h2 ga _) g L a2
   unfold SM; rw [ad hgga]; exact t3
  ·intro k hk hkg hkp hka hkF
   show upd h2 ga _ k=_
   rw [ad hka,t4 k hkg,q4 k hkg]
 by_cases e1:k1=1
 ·subst e1
  simp [hp1,bsI,aw]
  refine ACalls.draw (R:=fun v=>∃ k,v=.str k∧k∈([⟨#[97]⟩,⟨#[]⟩,⟨#[105]⟩,⟨#[102,111,114]⟩]:List ByteArray)) (ip [⟨#[97]⟩,⟨#[]⟩,⟨#[105]⟩,⟨#[102,111,114]⟩] L a1 g h1 c1 (by simp) (by simp) q3 (by omega) (by omega) hL (by omega)) fun v h2 c2 a2 hv hc2 t1 t2 t3 t4=>?_
  obtain ⟨nm,rfl,_⟩:=hv
  have hp2:=(t4 cp (Ne.symm hgcp)).trans hp1
  have ha2:=(t4 ga (Ne.symm hgga)).trans ha1
  simp [hp2,ha2]
  refine ⟨_,F,x,n,a2,⟨?_,⟨b0,nm,b2,s0,s1,s2,z0,z1,z2,rfl,ah,r2,r3,r4,r5,r6,r7⟩,(p3.one z0 (p3 ⟨b0,z0⟩ (by simp)) nm).2,?_,p5,p6,p7⟩,by omega,fun k hk=>.inl hk,?_,by omega,by omega,?_⟩
  ·show upd h2 ga _ cp=_
   rw [ad p5]; exact hp2
  ·refine (hbt1.more (by omega)).frame fun k hk=>?_
   show upd h2 ga _ k=_
   rw [ad (show k≠ga from fun e=>p7 (e▸hk)),t4 k (hF k hk).2]
  ·show SM (upd h2 ga _) g L a2
   unfold SM; rw [ad hgga]; exact t3
  ·intro k hk hkg hkp hka hkF
   show upd h2 ga _ k=_
   rw [ad hka,t4 k hkg,q4 k hkg]
 by_cases e2:k1=2
 ·subst e2
  simp [hp1]
  obtain ⟨Inv,hInv⟩:∃ Inv:Int→Nat→Slots→St→Prop,Inv=fun d m sl s'=>∃ (x':AV) (F2:Nat→Prop) (a':Int),sl 4=x'∧(∀ k,F2 k→F k)∧BT 2 s'.h F2 x' m∧m≤n∧SM s'.h g L a'∧a1≤a'∧a'+m≤a1+n+d∧c1≤s'.c∧(∀ k,k≠g→s'.h k=h1 k) ∧
    ∀ (h':Heap) (E:Nat→Prop),(∀ k,E k→¬F k)→(∀ k,F k→¬F2 k→h' k=h1 k)→BT 3 h' (fun k=>F2 k∨E k) x' m→BT 3 h' (fun k=>F k∨E k) x n:=⟨_,rfl⟩
  obtain ⟨Post,hPost⟩:∃ Post:Slots→St→Prop,Post=fun sl s'=>∃ m,Inv 1 m sl s':=⟨_,rfl⟩
  refine lp_cut 1 Fn55.W0 (by rfl) Post ?_ ?_
  ·refine co Fn55.W0 (by rfl) (Inv 0) n ?_ ?_
   ·rw [hInv]; exact ⟨x,F,a1,by simp,fun _ h=>h,hbt1,Nat.le_refl _,q3,Int.le_refl _,by omega,Nat.le_refl _,fun _ _=>rfl,fun _ _ _ _ h=>h⟩
   ·intro m v s' hI
    have hI':=hI
    rw [hInv] at hI
    obtain ⟨x',F2,a2,h4,i1,i2,i3,i4,i5,i6,i7,i8,i9⟩:=hI
    obtain ⟨h,c⟩:=s'
    simp at h4
    simp only at i2 i4 i7 i8
    obtain ⟨len,hlen,hpos,_⟩:=i2.len ⟨h,c⟩
    have hfin:∀ (h':Heap) (a':Int) (c':Nat),c≤c'→SM h' g L a'→a2≤a'→(∀ k,k≠g→h' k=h k)→∀ sl':Slots,sl' 4=x'→a'+m≤a1+n+1→Post sl' ⟨h',c'⟩:=by
     intro h' a' c' hc hsm hle hfr sl' hsl hle2
     rw [hPost,hInv]
     exact ⟨m,x',F2,a',hsl,i1,i2.frame fun k hk=>hfr k (hF k (i1 k hk)).2,i3,hsm,by omega,by omega,by show c1≤c'; omega,fun k hk=>(hfr k hk).trans (i8 k hk),i9⟩
    by_cases hl:0<len
    case neg=>
     simp [h4,hlen,hl]
     exact hfin h a2 c (by omega) i4 (by omega) (fun _ _=>rfl) _ (by simp [h4]) (by omega)
    obtain ⟨gl,l,rfl,hl1,hl2⟩:=hpos hl
    obtain ⟨kind,name,lo,hi,cv,body,array,subs,ex,es,nb,fs,H⟩:=i2.focus hl1
    have hHa:=H.at_
    obtain ⟨F3,j1,j2,j3⟩:=H.down
    obtain ⟨len2,hlen2,hpos2,_⟩:=j2.len ⟨h,c⟩
    have hl1':(0:Int)<l:=by omega
    simp [h4,hlen,hl,hHa,hl1,hlen2]
    by_cases hb:0<len2
    case neg=>
     simp [hb]
     exact hfin h a2 c (by omega) i4 (by omega) (fun _ _=>rfl) _ (by simp [h4]) (by omega)
    simp [hb]
    refine ACalls.draw (eo L a2 2 g h c (by omega) i4 (by omega) (by omega) hL (by omega)) fun v h2 c2 a3 hv hc2 t1 t2 t3 t4=>?_
    obtain ⟨b,rfl⟩:=hv
    have hH2:=(t4 gl (hF gl (i1 gl H.mem)).2).trans hHa
    have hlt:=H.lt
    cases b
    case false=>
     simp
     exact hfin h2 a3 c2 hc2 t3 t1 t4 _ (by simp [h4]) (by omega)
    simp [h4,hl1,hH2]
    refine ⟨nb,hlt,?_⟩
    rw [hInv]
    have hle:a3+nb≤a1+n+0:=by omega
    refine ⟨body,F3,a3,by simp,fun k hk=>i1 k (j1 k hk).1,j2.frame fun k hk=>t4 k (hF k (i1 k (j1 k hk).1)).2,by omega,t3,by omega,by omega,by show c1≤c2; omega,fun k hk=>(t4 k hk).trans (i8 k hk),?_⟩
    intro h' E hE hh hb'
    refine i9 h' E hE (fun k hk hk2=>hh k hk fun hk3=>hk2 (j1 k hk3).1) ?_
    refine j3 h' E (fun k hk hk2=>hE k hk (i1 k hk2)) (fun k hk hk2=>?_) hb'
    rw [hh k (i1 k hk) hk2,i8 k (hF k (i1 k hk)).2]
  ·intro v s' hP
   rw [hPost] at hP
   obtain ⟨m,hI⟩:=hP
   rw [hInv] at hI
   obtain ⟨x',F2,a2,h4,i1,i2,i3,i4,i5,i6,i7,i8,i9⟩:=hI
   obtain ⟨h,c⟩:=s'
   simp at h4
   simp only at i2 i4 i7 i8
   have hdone:∀ (h':Heap) (c':Nat) (a':Int) (E:Nat→Prop),(∀ k,E k→c0≤k∧k<c')→BT 3 h' (fun k=>F k∨E k) x n→SM h' g L a'→a1≤a'→a'≤a1+n+40→(∀ k,¬F k→k<c0→k≠g→h' k=h1 k)→mO L g h0 c0 cp ga F n a h' c':=by
    intro h' c' a' E hE hb hsm hle hle2 hfr
    refine ⟨_,fun k=>F k∨E k,x,n,a',⟨(hfr cp p6 hcp (Ne.symm hgcp)).trans hp1,⟨b0,b1,b2,s0,s1,s2,z0,z1,z2,rfl,(hfr ga p7 hga (Ne.symm hgga)).trans ha1,r2,r3,r4,r5,r6,r7⟩,p3,hb,p5,fun hk=>?_,fun hk=>?_⟩,by omega,fun k hk=>hk.imp id (hE k),hsm,by omega,by omega,fun k hk hkg hkp hka hkF=>(hfr k hkF hk hkg).trans (q4 k hkg)⟩
    ·rcases hk with hk | hk
     ·exact p6 hk
     ·have:=hE _ hk; omega
    ·rcases hk with hk | hk
     ·exact p7 hk
     ·have:=hE _ hk; omega
   obtain ⟨len,hlen,hpos,hzero⟩:=i2.len ⟨h,c⟩
   by_cases hl:0<len
   case neg=>
    have hz:=hzero hl
    subst hz
    simp [h4,hlen]
    exact hdone h c a2 (fun _=>False) (fun k hk=>hk.elim) ((hbt1.more (by omega)).frame (fun k hk=>i8 k (hF k hk).2) |>.mono fun k hk=>.inl hk) i4 (by omega) (by omega) (fun k _ _ hkg=>i8 k hkg)
   obtain ⟨gl,l,rfl,hl1,hl2⟩:=hpos hl
   obtain ⟨kind,name,lo,hi,cv,body,array,subs,ex,es,nb,fs,H⟩:=i2.focus hl1
   have hHa:=H.at_
   have hglF:=i1 gl H.mem
   have hglg:gl≠g:=(hF gl hglF).2
   have hglc:gl<c0:=(hF gl hglF).1
   have hl1':(0:Int)<l:=by omega
   have hl1'':¬(l:Int)=0:=by omega
   have hl0:l≠0:=by omega
   have hdoneA:∀ (h':Heap) (c':Nat) (a':Int),BT 3 h' F2 (.row gl 15 0 l) m→SM h' g L a'→a1≤a'→a'≤a1+n+40→(∀ k,k≠gl→k≠g→h' k=h1 k)→mO L g h0 c0 cp ga F n a h' c':=by
    intro h' c' a' hb hsm hle hle2 hfr
    refine hdone h' c' a' (fun _=>False) (fun k hk=>hk.elim) (i9 h' _ (fun k hk=>hk.elim) (fun k hk hk2=>hfr k (fun e=>hk2 (e▸H.mem)) (hF k hk).2) (hb.mono fun k hk=>.inl hk)) hsm hle hle2 fun k hk _ hkg=>hfr k (fun e=>hk (e▸hglF)) hkg
   obtain ⟨hcl,hch,hcs,hcx,hcc,hcb⟩:=H.cells
   have hlz:¬len=0:=by omega
   simp [h4,hlen,hl1,hl1',hl1'',hl0,hlz]
   refine ACalls.draw (cu L a2 5 g h c (by omega) i4 (by omega) (by omega) hL (by omega)) fun v h2 c2 a3 hv hc2 t1 t2 t3 t4=>?_
   obtain ⟨k5,rfl,hk5,hk6,_⟩:=hv
   have hH2:=(t4 gl hglg).trans hHa
   have hF2':∀ k,F2 k→k≠g:=fun k hk=>(hF k (i1 k hk)).2
   have hfr2:∀ k,k≠g→h2 k=h1 k:=fun k hk=>(t4 k hk).trans (i8 k hk)
   by_cases f0:k5=0
   ·subst f0
    simp [h4]
    refine ACalls.draw (mb L a3 1 3 g h2 c2 (by omega) (by omega) (by omega) (by omega) t3 (by omega) (by omega) hL (by omega)) fun v h3 c3 a4 hv hc3 u1 u2 u3 u4=>?_
    obtain ⟨kd,rfl⟩:=hv
    have hH3:=(u4 gl hglg).trans hH2
    simp [hH3]
    refine hdoneA _ _ a4 (H.updA _ kd name lo array ex [] (.mk 0 0 ⟨0,[]⟩ ⟨#[]⟩ [] []) (.inl rfl) (.inl rfl) ah fun k hk hkl=>?_) ?_ (by omega) (by omega) fun k hk hkg=>?_
    ·show upd h3 gl _ k=_
     rw [ad hkl,u4 k (hF2' k hk),t4 k (hF2' k hk)]
    ·show SM (upd h3 gl _) g L a4
     unfold SM; rw [ad (Ne.symm hglg)]; exact u3
    ·show upd h3 gl _ k=_
     rw [ad hk,u4 k hkg,hfr2 k hkg]
   by_cases f1:k5=1
   ·subst f1
    simp [h4,bsI,aw,hH2]
    refine ACalls.draw (R:=fun v=>∃ k,v=.str k∧k∈([⟨#[]⟩,⟨#[97]⟩,⟨#[105]⟩,⟨#[115,48]⟩]:List ByteArray)) (ip [⟨#[]⟩,⟨#[97]⟩,⟨#[105]⟩,⟨#[115,48]⟩] L a3 g h2 c2 (by simp) (by simp) t3 (by omega) (by omega) hL (by omega)) fun v h3 c3 a4 hv hc3 u1 u2 u3 u4=>?_
    obtain ⟨nm,rfl,_⟩:=hv
    have hH3:=(u4 gl hglg).trans hH2
    simp [hH3,bsI,aw]
    refine ACalls.draw (R:=fun v=>∃ k,v=.str k∧k∈([array,⟨#[122,122]⟩,⟨#[]⟩]:List ByteArray)) (ip [array,⟨#[122,122]⟩,⟨#[]⟩] L a4 g h3 c3 (by simp) (by simp) u3 (by omega) (by omega) hL (by omega)) fun v h5 c5 a5 hv hc5 w1 w2 w3 w4=>?_
    obtain ⟨ar,rfl,_⟩:=hv
    have hH5:=(w4 gl hglg).trans hH3
    simp [hH5,bsI,aw]
    refine hdoneA _ _ a5 (H.updA _ kind nm lo ar ex [] (.mk 0 0 ⟨0,[]⟩ ⟨#[]⟩ [] []) (.inl rfl) (.inl rfl) ah fun k hk hkl=>?_) ?_ (by omega) (by omega) fun k hk hkg=>?_
    ·show upd h5 gl _ k=_
     rw [ad hkl,w4 k (hF2' k hk),u4 k (hF2' k hk),t4 k (hF2' k hk)]
    ·show SM (upd h5 gl _) g L a5
     unfold SM; rw [ad (Ne.symm hglg)]; exact w3
    ·show upd h5 gl _ k=_
     rw [ad hk,w4 k hkg,u4 k hkg,hfr2 k hkg]
   by_cases f2:k5=2
   ·subst f2
    simp [h4,bsI,aw,hH2]
    refine ACalls.draw (R:=fun v=>∃ k,v=.str k∧k∈([⟨#[105]⟩,⟨#[106]⟩,⟨#[113]⟩]:List ByteArray)) (ip [⟨#[105]⟩,⟨#[106]⟩,⟨#[113]⟩] L a3 g h2 c2 (by simp) (by simp) t3 (by omega) (by omega) hL (by omega)) fun v h3 c3 a4 hv hc3 u1 u2 u3 u4=>?_
    obtain ⟨nm,rfl,_⟩:=hv
    have hH3:=(u4 gl hglg).trans hH2
    simp [hH3,bsI,aw]
    refine ACalls.draw (R:=fun v=>∃ k,v=.int k∧k∈[1,1001]) (cm [1,1001] L a4 g h3 c3 (by simp) (by simp) u3 (by omega) (by omega) hL (by omega)) fun v h5 c5 a5 hv hc5 w1 w2 w3 w4=>?_
    obtain ⟨pk,rfl,hpk⟩:=hv
    have hpk0:pk≠0:=by simp at hpk; omega
    have hH5:=(w4 gl hglg).trans hH3
    simp [hH5,bsI,aw,aM]
    refine ACalls.quiet (R:=fun av=>∃ f:Wb.Form,av=f.av) (bA 0 [⟨nm,pk⟩] (by simp) (by simp [hpk0]) ⟨h5,c5⟩) fun w c6 hw hc6=>?_
    obtain ⟨f,rfl⟩:=hw
    simp [bsI,aw,aM]
    refine ACalls.draw (R:=fun v=>∃ k,v=.int k∧k∈[1,0,3]) (cm [1,0,3] L a5 g h5 c6 (by simp) (by simp) w3 (by omega) (by omega) hL (by omega)) fun v h7 c7 a7 hv hc7 x1 x2 x3 x4=>?_
    obtain ⟨pd,rfl,_⟩:=hv
    have hH7:=(x4 gl hglg).trans hH5
    simp [hH7,bsI,aw,aM,Form.av,Form.cells]
    refine hdoneA _ _ a7 (H.updA _ kind name (.sl [[.int f.const,row (f.terms.map Term.cells),.int pd]] true) array ex [⟨f,pd⟩] (.mk 0 0 ⟨0,[]⟩ ⟨#[]⟩ [] []) (.inr ⟨by simp [Bound.cells],rfl⟩) (.inl rfl) ah fun k hk hkl=>?_) ?_ (by omega) (by omega) fun k hk hkg=>?_
    ·show upd h7 gl _ k=_
     rw [ad hkl,x4 k (hF2' k hk),w4 k (hF2' k hk),u4 k (hF2' k hk),t4 k (hF2' k hk)]
    ·show SM (upd h7 gl _) g L a7
     unfold SM; rw [ad (Ne.symm hglg)]; exact x3
    ·show upd h7 gl _ k=_
     rw [ad hk,x4 k hkg,w4 k hkg,u4 k hkg,hfr2 k hkg]
   by_cases f3:k5=3
   ·subst f3
    simp [h4,bsI,aw,aM,hH2]
    refine ACalls.quiet (R:=fun av=>∃ f:Wb.Form,av=f.av) (bA 0 [⟨⟨#[113]⟩,1⟩] (by simp) (by simp) ⟨h2,c2⟩) fun w c6 hw hc6=>?_
    obtain ⟨f,rfl⟩:=hw
    have hokf:∀ e∈([[.int f.const,row (f.terms.map Term.cells)]]:List (List AV)),aB 2 e=true:=fun e he=>by simp at he; subst he; rfl
    have hokfs:∀ e∈fs.map Form.cells,aB 2 e=true:=fun e he=>by obtain ⟨t,_,rfl⟩:=List.mem_map.1 he; rfl
    have hfs:(fs++[f]).map Form.cells=fs.map Form.cells++[[.int f.const,row (f.terms.map Term.cells)]]:=by simp [Form.cells]
    have hEc:∀ k,k=c6→¬F2 k:=fun k hk hk2=>by have:=hF k (i1 k hk2); omega
    have hEc':∀ k,k=c6→¬F k:=fun k hk hk2=>by have:=hF k hk2; omega
    have hgl6:gl≠c6:=by omega
    have hg6:g≠c6:=by omega
    have hfsl:(fs++[f]).length=fs.length+1:=by simp
    have hsm:=fs.length
    have hfs2:=H.conds
    rcases H.cond with hcv | ⟨gc,hgc1,hgc2,hcv,hgc3⟩
    ·have hap:=cZ (sz:=2) (bytes:=32) (md:=.plain) (es:=fs.map Form.cells) (xs:=[[.int f.const,row (f.terms.map Term.cells)]]) (b:=true) (s:=⟨h2,c6⟩) (by decide) (by decide) (by decide) hokfs hokf (by simp; omega) (.inl (by simp))
     rw [hcv] at hH2
     simp [Form.av,Form.cells,bsI,aw,hcv,hH2,hap,hgl6]
     refine hdone _ (c6+1) a3 (fun k=>k=c6) (fun k hk=>by omega) (i9 _ _ hEc' (fun k hk hk2=>?_) (H.updB _ (fun k=>k=c6) c6 (fs++[f]) (by simp; omega) rfl hEc ?_ (by rw [hfsl]; exact ah) (fun k hk hkl hkc=>?_))) ?_ (by omega) (by omega) fun k hk hkc hkg=>?_
     ·have hkl:k≠gl:=fun e=>hk2 (e▸H.mem)
      have hk6:k≠c6:=fun e=>hEc' k e hk
      show upd (upd h2 c6 _) gl _ k=_
      rw [ad hkl,ad hk6,hfr2 k (hF k hk).2]
     ·show upd (upd h2 c6 _) gl _ c6=_
      rw [ad (Ne.symm hgl6),ah,hfs]
     ·have hk6:k≠c6:=fun e=>hEc k e hk
      show upd (upd h2 c6 _) gl _ k=_
      rw [ad hkl,ad hk6,t4 k (hF2' k hk)]
     ·show SM (upd (upd h2 c6 _) gl _) g L a3
      unfold SM; rw [ad (Ne.symm hglg),ad hg6]; exact t3
     ·have hkl:k≠gl:=fun e=>hk (e▸hglF)
      show upd (upd h2 c6 _) gl _ k=_
      rw [ad hkl,ad (by omega),hfr2 k hkg]
    ·have hgcg:gc≠g:=(hF gc (i1 gc hgc1)).2
     have hgcc:gc<c0:=(hF gc (i1 gc hgc1)).1
     have hgch:=(t4 gc hgcg).trans hgc3
     have hap:=jo (sz:=2) (bytes:=32) (md:=.plain) (es:=fs.map Form.cells) (xs:=[[.int f.const,row (f.terms.map Term.cells)]]) (b:=true) (len:=fs.length) (s:=⟨h2,c6⟩) (by simp) hgch (by simp) (by decide) (by decide) (by decide) hokf (by simp; omega)
     rw [hcv] at hH2
     have hgcl:¬gl=gc:=Ne.symm hgc2
     simp [Form.av,Form.cells,bsI,aw,hcv,hH2,hap,hgl6,hgcl]
     refine hdone _ (c6+1) a3 (fun k=>k=c6) (fun k hk=>by omega) (i9 _ _ hEc' (fun k hk hk2=>?_) (H.updB _ (fun k=>k=c6) c6 (fs++[f]) (by simp; omega) rfl hEc ?_ (by rw [hfsl]; exact ah) (fun k hk hkl hkc=>?_))) ?_ (by omega) (by omega) fun k hk hkc hkg=>?_
     ·have hkl:k≠gl:=fun e=>hk2 (e▸H.mem)
      have hk6:k≠c6:=fun e=>hEc' k e hk
      have hkg2:k≠gc:=fun e=>hk2 (e▸hgc1)
      show upd (upd (upd h2 gc _) c6 _) gl _ k=_
      rw [ad hkl,ad hk6,ad hkg2,hfr2 k (hF k hk).2]
     ·show upd (upd (upd h2 gc _) c6 _) gl _ c6=_
      rw [ad (Ne.symm hgl6),ah,hfs]
     ·have hk6:k≠c6:=fun e=>hEc k e hk
      have hkg2:k≠gc:=fun e=>by subst e; exact hkc _ hcv
      show upd (upd (upd h2 gc _) c6 _) gl _ k=_
      rw [ad hkl,ad hk6,ad hkg2,t4 k (hF2' k hk)]
     ·show SM (upd (upd (upd h2 gc _) c6 _) gl _) g L a3
      unfold SM; rw [ad (Ne.symm hglg),ad hg6,ad (Ne.symm hgcg)]; exact t3
     ·have hkl:k≠gl:=fun e=>hk (e▸hglF)
      have hkg2:k≠gc:=fun e=>hk (e▸i1 gc hgc1)
      show upd (upd (upd h2 gc _) c6 _) gl _ k=_
      rw [ad hkl,ad (by omega),ad hkg2,hfr2 k hkg]
   simp [f0,f1,f2,f3,h4]
   refine ACalls.draw (mb L a3 1 6 g h2 c2 (by omega) (by omega) (by omega) (by omega) t3 (by omega) (by omega) hL (by omega)) fun v h3 c3 a4 hv hc3 u1 u2 u3 u4=>?_
   obtain ⟨o1,rfl⟩:=hv
   simp
   refine ACalls.draw (mb L a4 0 1000002 g h3 c3 (by omega) (by omega) (by omega) (by omega) u3 (by omega) (by omega) hL (by omega)) fun v h5 c5 a5 hv hc5 w1 w2 w3 w4=>?_
   obtain ⟨o2,rfl⟩:=hv
   simp [bsI,aw]
   refine ACalls.draw (R:=fun v=>∃ k,v=.str k∧k∈([⟨#[]⟩,⟨#[97]⟩]:List ByteArray)) (ip [⟨#[]⟩,⟨#[97]⟩] L a5 g h5 c5 (by simp) (by simp) w3 (by omega) (by omega) hL (by omega)) fun v h7 c7 a7 hv hc7 x1 x2 x3 x4=>?_
   obtain ⟨nm,rfl,_⟩:=hv
   have hH7:=(x4 gl hglg).trans ((w4 gl hglg).trans ((u4 gl hglg).trans hH2))
   have hexl:=H.exl
   simp [hH7,aM,hexl]
   refine hdoneA _ _ a7 (H.updA _ kind name lo array [.int o1,.int o2,.int 0,.nil,.str nm,.nil,.nil] [] (.mk o1 o2 ⟨0,[]⟩ nm [] []) (.inl rfl) (.inr ⟨by simp [Expr.cells_mk,aQ],rfl⟩) (by simp [hexl]) fun k hk hkl=>?_) ?_ (by omega) (by omega) fun k hk hkg=>?_
   ·show upd h7 gl _ k=_
    rw [ad hkl,x4 k (hF2' k hk),w4 k (hF2' k hk),u4 k (hF2' k hk),t4 k (hF2' k hk)]
   ·show SM (upd h7 gl _) g L a7
    unfold SM; rw [ad (Ne.symm hglg)]; exact x3
   ·show upd h7 gl _ k=_
    rw [ad hk,x4 k hkg,w4 k hkg,u4 k hkg,hfr2 k hkg]
 simp [e0,e1,e2]
 refine ACalls.quiet (R:=fun av=>∃ f:Wb.Form,av=f.av) (bA 0 [] (by simp) (by simp) ⟨h1,c1⟩) fun w c2 hw hc2=>?_
 obtain ⟨f1,rfl⟩:=hw
 simp
 refine ACalls.pure (dK f1 1) fun c3 hc3=>?_
 simp [bsI,aw,Bound.av,Bound.cells]
 refine ACalls.draw (R:=fun v=>∃ k,v=.int k∧k∈[2,300,1000000]) (cm [2,300,1000000] L a1 g h1 c3 (by simp) (by simp) q3 (by omega) (by omega) hL (by omega)) fun v h4 c4 a4 hv hc4 t1 t2 t3 t4=>?_
 obtain ⟨pk,rfl,_⟩:=hv
 simp
 refine ACalls.quiet (R:=fun av=>∃ f:Wb.Form,av=f.av) (bA pk [] (by simp) (by simp) ⟨h4,c4⟩) fun w c5 hw hc5=>?_
 obtain ⟨f2,rfl⟩:=hw
 simp
 refine ACalls.pure (dK f2 1) fun c6 hc6=>?_
 have hp4:=(t4 cp (Ne.symm hgcp)).trans hp1
 have hcp6:¬cp=c6:=by omega
 simp [bsI,aw,Bound.av,Bound.cells,aM,hp4,hcp6]
 have hg6:¬g=c6:=by omega
 have h6g:¬c6=g:=by omega
 refine ACalls.draw (R:=fun v=>∃ k,v=.int k∧k∈[1,1000]) (cm [1,1000] L a4 g _ _ (by simp) (by simp) (by unfold SM; rw [ad hg6]; exact t3) (by omega) (by omega) hL (by omega)) fun v h7 c7 a7 hv hc7 u1 u2 u3 u4=>?_
 obtain ⟨pk2,rfl,hpk2⟩:=hv
 have hpk0:pk2≠0:=by simp at hpk2; omega
 have hp7:h7 cp=some (.row 2 [[.row ga 2 0 3,x]] .live none):=by rw [u4 cp (Ne.symm hgcp),ad hcp6]; exact hp4
 have hx7:=(u4 c6 h6g).trans ah
 simp [hp7,bsI,aw,aM]
 refine ACalls.quiet (R:=fun av=>∃ f:Wb.Form,av=f.av) (bA 0 [⟨⟨#[105]⟩,pk2⟩] (by simp) (by simp [hpk0]) ⟨h7,c7⟩) fun w c8 hw hc8=>?_
 obtain ⟨f3,rfl⟩:=hw
 simp [hp7]
 refine ACalls.pure (dK f3 1) fun c9 hc9=>?_
 simp [bsI,aw,Bound.av,Bound.cells,hp7]
 refine ACalls.quiet (R:=fun av=>∃ f:Wb.Form,av=f.av) (bA 900 [] (by simp) (by simp) ⟨h7,c9⟩) fun w c10 hw hc10=>?_
 obtain ⟨f4,rfl⟩:=hw
 simp [hp7]
 refine ACalls.pure (dK f4 1) fun c11 hc11=>?_
 have h611:¬c6=c11:=by omega
 have hcp11:¬cp=c11:=by omega
 have hcp12:¬cp=c11+1:=by omega
 have hc11:c0≤c6∧c6+1≤c11:=by omega
 have hfin:∀ h',h' cp=some (.row 2 [[.row ga 2 0 3,.row (c11+1) 15 0 1]] .live none)→(∀ k,k≠cp→h' k=upd (upd (upd (upd h7 c11 (some (.row 15 [[.int 1,.str ⟨#[106]⟩,.sl [[.int f3.const,row (f3.terms.map Term.cells),.int 1]] true,.sl [[.int f4.const,row (f4.terms.map Term.cells),.int 1]] true,.nil,x,.str ⟨#[]⟩,.nil,.int 0,.int 0,.int 0,.nil,.str ⟨#[]⟩,.nil,.nil]] .live none))) c6 (some (.row 15 [[.int 1,.str ⟨#[105]⟩,.sl [[.int f1.const,row (f1.terms.map Term.cells),.int 1]] true,.sl [[.int f2.const,row (f2.terms.map Term.cells),.int 1]] true,.nil,.row c11 15 0 1,.str ⟨#[]⟩,.nil,.int 0,.int 0,.int 0,.nil,.str ⟨#[]⟩,.nil,.nil]] .live none))) (c11+1) (some (.row 15 [[.int 1,.str ⟨#[105]⟩,.sl [[.int f1.const,row (f1.terms.map Term.cells),.int 1]] true,.sl [[.int f2.const,row (f2.terms.map Term.cells),.int 1]] true,.nil,.row c11 15 0 1,.str ⟨#[]⟩,.nil,.int 0,.int 0,.int 0,.nil,.str ⟨#[]⟩,.nil,.nil]] .live none))) cp none k)→mO L g h0 c0 cp ga F n a h' (c11+1+1):=by
  intro h' hc1' hc2'
  have e1:h' c11=some (.row 15 [[.int 1,.str ⟨#[106]⟩,.sl [[.int f3.const,row (f3.terms.map Term.cells),.int 1]] true,.sl [[.int f4.const,row (f4.terms.map Term.cells),.int 1]] true,.nil,x,.str ⟨#[]⟩,.nil,.int 0,.int 0,.int 0,.nil,.str ⟨#[]⟩,.nil,.nil]] .live none):=by
   rw [hc2' _ (Ne.symm hcp11),ad (Ne.symm hcp11),ad (by omega),ad (Ne.symm h611),ah]
  have e2:h' (c11+1)=some (.row 15 [[.int 1,.str ⟨#[105]⟩,.sl [[.int f1.const,row (f1.terms.map Term.cells),.int 1]] true,.sl [[.int f2.const,row (f2.terms.map Term.cells),.int 1]] true,.nil,.row c11 15 0 1,.str ⟨#[]⟩,.nil,.int 0,.int 0,.int 0,.nil,.str ⟨#[]⟩,.nil,.nil]] .live none):=by
   rw [hc2' _ (Ne.symm hcp12),ad (Ne.symm hcp12),ah]
  have e3:∀ k,k<c0→k≠cp→h' k=h7 k:=fun k hk hkc=>by
   rw [hc2' _ hkc,ad hkc,ad (by omega),ad (by omega),ad (by omega)]
  have e4:∀ k,k<c0→k≠cp→k≠g→h' k=h1 k:=fun k hk hkc hkg=>by rw [e3 k hk hkc,u4 k hkg,ad (by omega),t4 k hkg]
  have hbx:BT 3 h' F x n:=(hbt1.more (by omega)).frame fun k hk=>e4 k (hF k hk).1 (fun e=>p6 (e▸hk)) (hF k hk).2
  obtain ⟨es,So,St,y1,y2,y3,y4,y5⟩:=hbx
  have tj:Tr 3 h' F [[.int 1,.str ⟨#[106]⟩,.sl [[.int f3.const,row (f3.terms.map Term.cells),.int 1]] true,.sl [[.int f4.const,row (f4.terms.map Term.cells),.int 1]] true,.nil,x,.str ⟨#[]⟩,.nil,.int 0,.int 0,.int 0,.nil,.str ⟨#[]⟩,.nil,.nil]] (1+n+0):=
   Tr.cons F So St (fun _=>False) 1 _ _ _ .nil x _ .nil _ [⟨f3,1⟩] [⟨f4,1⟩] [] [] (.mk 0 0 ⟨0,[]⟩ ⟨#[]⟩ [] []) es [] n 0 (by simp [Bound.cells]) (by simp [Bound.cells]) (by rfl) (by simp [Expr.cells_mk,aQ]) ⟨rfl,rfl,rfl,rfl,by simp⟩ (.inl rfl) y1 y2 (.nil _) y3 y4 (fun _ h=>h.elim) y5 (fun _ _ h=>h) (fun _ _ h=>h)
  have tx:Tr 3 h' (fun k=>F k∨k=c11) [[.int 1,.str ⟨#[105]⟩,.sl [[.int f1.const,row (f1.terms.map Term.cells),.int 1]] true,.sl [[.int f2.const,row (f2.terms.map Term.cells),.int 1]] true,.nil,.row c11 15 0 1,.str ⟨#[]⟩,.nil,.int 0,.int 0,.int 0,.nil,.str ⟨#[]⟩,.nil,.nil]] (1+(1+n+0)+0):=
   Tr.cons _ (fun k=>k=c11) F (fun _=>False) 1 _ _ _ .nil (.row c11 15 0 1) _ .nil _ [⟨f1,1⟩] [⟨f2,1⟩] [] [] (.mk 0 0 ⟨0,[]⟩ ⟨#[]⟩ [] []) _ [] _ 0 (by simp [Bound.cells]) (by simp [Bound.cells]) (by rfl) (by simp [Expr.cells_mk,aQ]) ⟨rfl,rfl,rfl,rfl,by simp⟩ (.inl rfl) (.inr ⟨c11,rfl,rfl,e1⟩) tj (.nil _) (fun _ h=>.inr h) (fun _ h=>.inl h) (fun _ h=>h.elim) (fun k h1 h2=>by have:=hF k h2; omega) (fun _ _ h=>h) (fun _ _ h=>h)
  refine ⟨_,fun k=>(F k∨k=c11)∨k=c11+1,.row (c11+1) 15 0 1,1+(1+n+0)+0,a7,⟨hc1',⟨b0,b1,b2,s0,s1,s2,z0,z1,z2,rfl,(e4 ga hga (Ne.symm p5) (Ne.symm hgga)).trans ha1,r2,r3,r4,r5,r6,r7⟩,p3,⟨_,fun k=>k=c11+1,_,.inr ⟨c11+1,rfl,rfl,e2⟩,tx,fun k hk=>.inr hk,fun k hk=>.inl hk,fun k hk hk2=>?_⟩,p5,?_,?_⟩,by omega,?_,?_,by omega,by omega,?_⟩
  ·rcases hk2 with hk2 | hk2
   ·have:=hF k hk2; omega
   ·omega
  ·rintro ((hk | hk) | hk)
   ·exact p6 hk
   ·omega
   ·omega
  ·rintro ((hk | hk) | hk)
   ·exact p7 hk
   ·omega
   ·omega
  ·rintro k ((hk | hk) | hk)
   ·exact .inl hk
   ·exact .inr (by omega)
   ·exact .inr (by omega)
  ·unfold SM; rw [e3 g hg hgcp]; exact u3
  ·intro k hk hkg hkp hka hkF
   rw [e4 k hk hkp hkg,q4 k hkg]
 have hxs:(∃ b,x=.sl [] b)∨∃ gx lx,x=.row gx 15 0 lx:=by
  obtain ⟨es,So,St,hb,_⟩:=p4
  rcases hb with ⟨b,e,_⟩ | ⟨gx,_,e,_⟩
  ·exact .inl ⟨b,e⟩
  ·exact .inr ⟨gx,_,e⟩
 rcases hxs with ⟨b,hxs⟩ | ⟨gx,lx,hxs⟩
 all_goals
  rw [hxs] at hp7 hfin
  simp [bsI,aw,aM,Bound.av,Bound.cells,hp7,hx7,h611,hcp11,hcp12,hcp6,hxs]
  refine hfin _ (by simp [hp7]) fun k hk=>?_
  show upd _ cp _ k=_
  rw [ad hk,ad hk]
end Go.Proofs.YtjhogglgkjcacaaGreat
set_option maxRecDepth 20000
set_option maxHeartbeats 4000000
namespace Go.Proofs.YtjhogglgkjcacaaGreat
open Go.AM Go.Wb
theorem stC1 (L:List Int) (hL:L.length≤1048576) (g gn:Nat) (hgn:g≠gn):StC L g gn 4 16 30 3615:=by
 have s1:=cN L hL g gn hgn 1 (by omega) (by omega) 1 0 0 (by omega) (by omega) (by omega) (fun h=>by omega)
 have s2:=cN L hL g gn hgn 2 (by omega) (by omega) 2 2 241 (by omega) (by omega) (by omega) (fun _=>s1)
 have s3:=cN L hL g gn hgn 3 (by omega) (by omega) 4 6 723 (by omega) (by omega) (by omega) (fun _=>s2)
 exact cN L hL g gn hgn 4 (by omega) (by omega) 8 14 1687 (by omega) (by omega) (by omega) (fun _=>s3)
structure GenP (p:Wb.Prog):Prop where
 arrays:p.arrays.length=3
 small:SmallA p.arrays
 steps:az p.steps≤32
theorem wo (L:List Int) (hL:L.length≤1048576) (a:Int) (g:Nat) (h0:Heap) (c0:Nat) (hs:SM h0 g L a) (ha:0≤a) (ha':a<100000000) (hg:g<c0) :
  ACalls Pg Fn6.n [.ptr g 0 0] ⟨h0,c0⟩ fun av s'=>(∃ p:Wb.Prog,av=p.av∧GenP p)∧∃ a',a≤a'∧a'≤a+4000∧SM s'.h g L a'∧∀ k,k<c0→k≠g→s'.h k=h0 k:=by
 refine ACalls.deep (fun k=>c0≤k) (R:=fun av s'=>∃ (A:List Wb.Array) (F:Nat→Prop) (x:AV) (n:Nat) (ga:Nat) (a':Int),av=.agg [.row ga 2 0 3,x]∧pa s'.h ga A∧SmallA A∧BT 3 s'.h F x n∧c0≤ga∧(∀ k,F k→c0≤k)∧n≤32∧a≤a'∧a'≤a+4000∧SM s'.h g L a'∧∀ k,k<c0→k≠g→s'.h k=h0 k) ?_ ?_
 ·refine Fn6.calls .keep ?_
  unfold Fn6.ac
  have e1:¬c0=c0+1:=by omega
  have e2:¬c0=c0+2:=by omega
  simp [bsI,aw,aM]
  obtain ⟨h1,hh1⟩:∃ h1,h1=upd (upd (upd h0 c0 (some (.row 2 [[.nil,.nil]] .live none))) (c0+1) (some (.row 1 [[.int 0]] .live none))) (c0+1+1) (some (.row 2 [[.str ⟨#[97]⟩,.sl [[.int 12]] true],[.str ⟨#[98]⟩,.sl [[.int 12],[.int 12]] true],[.str ⟨#[99]⟩,.sl [[.int 2]] true]] .live none)):=⟨_,rfl⟩
  have q0:h1 c0=some (.row 2 [[.nil,.nil]] .live none):=by rw [hh1,ad (by omega),ad (by omega),ah]
  have q1:h1 (c0+1)=some (.row 1 [[.int 0]] .live none):=by rw [hh1,ad (by omega),ah]
  have q2:h1 (c0+2)=some (.row 2 [[.str ⟨#[97]⟩,.sl [[.int 12]] true],[.str ⟨#[98]⟩,.sl [[.int 12],[.int 12]] true],[.str ⟨#[99]⟩,.sl [[.int 2]] true]] .live none):=by rw [hh1,ah]
  have q3:∀ k,k<c0→h1 k=h0 k:=fun k hk=>by rw [hh1,ad (by omega),ad (by omega),ad (by omega)]
  rw [←hh1]
  refine (stC1 L hL g (c0+1) (by omega) [] 2 0 a h1 (c0+1+1+1) (by simp) (by omega) (by omega) (by unfold SM; rw [q3 g hg]; exact hs) ha (by omega) q1 (by omega) (by omega) (by omega) (by omega)).mono ?_
  rintro av ⟨h2,c2⟩ hc2 ⟨es,gr,hes,rfl,m,n',a2,S,t1,t2,t3,t4,t5,t6,t7,t8,t9,t10,t11,t12,t13⟩
  simp only at hc2 t2 t3 t4 t5 t7 t10 t13
  have u0:=(t13 c0 (by omega) (by omega) (by omega)).trans q0
  have u2:=(t13 (c0+2) (by omega) (by omega) (by omega)).trans q2
  have u3:∀ k,k<c0→k≠g→h2 k=h0 k:=fun k hk hkg=>(t13 k (by omega) hkg (by omega)).trans (q3 k hk)
  have n0:¬c0=c2:=by omega
  have n0':¬c2=c0:=by omega
  have n2:¬c2=g:=by omega
  have n3:¬g=c2:=by omega
  simp [aM,n0]
  refine ACalls.draw (eo L a2 14 g _ _ (by omega) (by unfold SM; rw [ad n3]; exact t10) (by omega) (by omega) hL (by omega)) fun w h3 c3 a3 hw hc3 s1 s2 s3 s4=>?_
  obtain ⟨b,rfl⟩:=hw
  have v0:h3 c0=some (.row 2 [[.nil,.nil]] .live none):=by rw [s4 c0 (by omega),ad n0]; exact u0
  have v1:h3 c2=some (.row 2 [[.row (c0+1+1) 2 0 3,.row gr 15 0 es.length]] .live none):=by rw [s4 c2 n2,ah]
  have v2:h3 (c0+2)=some (.row 2 [[.str ⟨#[97]⟩,.sl [[.int 12]] true],[.str ⟨#[98]⟩,.sl [[.int 12],[.int 12]] true],[.str ⟨#[99]⟩,.sl [[.int 2]] true]] .live none):=by rw [s4 _ (by omega),ad (by omega)]; exact u2
  have v3:h3 gr=some (.row 15 es .live none):=by rw [s4 _ (by omega),ad (by omega)]; exact t3
  have vb:BT 2 h3 (fun k=>S k∨k=gr) (.row gr 15 0 es.length) m:=⟨es,fun k=>k=gr,S,.inr ⟨gr,rfl,rfl,v3⟩,t4.frame fun k hk=>by have:=t5 k hk; rw [s4 _ (by omega),ad (by omega)],fun k hk=>.inr hk,fun k hk=>.inl hk,fun k h1 h2=>(t5 k h2).2.2 h1⟩
  have v4:∀ k,k<c0→k≠g→h3 k=h0 k:=fun k hk hkg=>by rw [s4 k hkg,ad (by omega)]; exact u3 k hk hkg
  have hA3:pa h3 (c0+2) [⟨⟨#[97]⟩,[12]⟩,⟨⟨#[98]⟩,[12,12]⟩,⟨⟨#[99]⟩,[2]⟩]:=⟨_,_,_,_,_,_,_,_,_,rfl,v2,rfl,rfl,rfl,rfl,rfl,rfl⟩
  have hS3:SmallA [⟨⟨#[97]⟩,[12]⟩,⟨⟨#[98]⟩,[12,12]⟩,⟨⟨#[99]⟩,[2]⟩]:=by
   intro x hx
   simp at hx
   rcases hx with rfl | rfl | rfl <;> simp
  cases b
  case false=>
   simp [v1,v0,n0']
   refine ⟨_,fun k=>S k∨k=gr,_,m,c0+2,⟨rfl,rfl⟩,?_,hS3,(vb.more (by omega)).frame fun k hk=>?_,by omega,fun k hk=>?_,by omega,a3,by omega,by omega,?_,fun k hk hkg=>?_⟩
   ·obtain ⟨k0,k1,k2,s0,s1,s2,z0,z1,z2,r0,r1,r⟩:=hA3
    exact ⟨k0,k1,k2,s0,s1,s2,z0,z1,z2,r0,by rw [ad (by omega)]; exact r1,r⟩
   ·rw [ad]
    rcases hk with hk | hk
    ·have:=t5 k hk; omega
    ·omega
   ·rcases hk with hk | hk
    ·have:=t5 k hk; omega
    ·omega
   ·unfold SM; rw [ad (by omega)]; exact s3
   ·rw [ad (by omega)]; exact v4 k hk hkg
  simp
  refine (vD L hL a3 g c2 (c0+2) _ (fun k=>S k∨k=gr) _ m (by omega) h3 c3 s3 (by omega) (by omega) (by omega) (by omega) (by omega) n3 (by omega) (fun k hk=>?_) ⟨v1,hA3,hS3,vb,by omega,fun hk=>?_,fun hk=>?_⟩).mono ?_
  ·rcases hk with hk | hk
   ·have:=t5 k hk; omega
   ·omega
  ·rcases hk with hk | hk
   ·have:=t5 _ hk; omega
   ·omega
  ·rcases hk with hk | hk
   ·have:=t5 _ hk; omega
   ·omega
  rintro av ⟨h4,c4⟩ hc4 ⟨A',F',x',n2',a4,⟨w1,w2,w3,w4,w5,w6,w7⟩,w8,w9,w10,w11,w12,w13⟩
  simp only at hc4 w1 w2 w4 w9 w10 w13
  have hg4:¬(S c0∨c0=gr):=fun hk=>by
   rcases hk with hk | hk
   ·have:=t5 _ hk; omega
   ·omega
  have x0:=(w13 c0 (by omega) (by omega) n0 (by omega) hg4).trans v0
  have hF'0:∀ k,F' k→c0<k:=fun k hk=>by
   rcases w9 k hk with (hk | hk) | hk
   ·have:=t5 _ hk; omega
   ·omega
   ·omega
  have hxc:(∃ b,x'=.sl [] b)∨∃ gx lx,x'=.row gx 15 0 lx:=by
   obtain ⟨es,So,St,hb,_⟩:=w4
   rcases hb with ⟨b,e,_⟩ | ⟨gx,_,e,_⟩
   ·exact .inl ⟨b,e⟩
   ·exact .inr ⟨gx,_,e⟩
  have hfin:∀ h5:Heap,(∀ k,k≠c0→h5 k=h4 k)→∃ (A:List Wb.Array) (F:Nat→Prop) (x:AV) (n:Nat) (ga:Nat) (a':Int),AV.agg [.row (c0+2) 2 0 3,x']=.agg [.row ga 2 0 3,x]∧pa h5 ga A∧SmallA A∧BT 3 h5 F x n∧c0≤ga∧(∀ k,F k→c0≤k)∧n≤32∧a≤a'∧a'≤a+4000∧SM h5 g L a'∧∀ k,k<c0→k≠g→h5 k=h0 k:=by
   intro h5 hh
   refine ⟨A',F',x',n2',c0+2,a4,rfl,?_,w3,w4.frame fun k hk=>hh k (by have:=hF'0 k hk; omega),by omega,fun k hk=>by have:=hF'0 k hk; omega,by omega,by omega,by omega,?_,fun k hk hkg=>?_⟩
   ·obtain ⟨k0,k1,k2,s0,s1,s2,z0,z1,z2,r0,r1,r⟩:=w2
    exact ⟨k0,k1,k2,s0,s1,s2,z0,z1,z2,r0,(hh _ (by omega)).trans r1,r⟩
   ·unfold SM; rw [hh g (by omega)]; exact w10
   ·rw [hh k (by omega),w13 k (by omega) hkg (by omega) (by omega) ?_]
    ·exact v4 k hk hkg
    ·intro hk'
     rcases hk' with hk' | hk'
     ·have:=t5 _ hk'; omega
     ·omega
  rcases hxc with ⟨b,hxc⟩ | ⟨gx,lx,hxc⟩
  all_goals
   subst hxc
   simp [w1,x0,n0']
   simpa using hfin _ fun k hk=>ad hk
 ·rintro av s' ⟨A,F,x,n,ga,a',rfl,hA,hsm,hb,hga,hF,hn,h1,h2,h3,h4⟩
  obtain ⟨es,So,St,b1,b2,b3,b4,b5⟩:=hb
  obtain ⟨l,l1,l2,l3⟩:=b2.frz (D:=fun k=>c0≤k) fun k hk=>hF k (b4 k hk)
  obtain ⟨k0,k1,k2,s0,s1,s2,z0,z1,z2,rfl,r1,r2,r3,r4,r5,r6,r7⟩:=hA
  refine ⟨(Wb.Prog.mk [⟨k0,z0⟩,⟨k1,z1⟩,⟨k2,z2⟩] l).av,?_,fun h'' hh=>⟨⟨_,rfl,rfl,hsm,by show az l≤32; omega⟩,a',h1,h2,?_,fun k hk hkg=>?_⟩⟩
  ·refine .agg _ _ (by simp [Prog.av]) ?_
   intro j c y hc hy
   match j with
   | 0=>
    simp at hc hy; subst hc; subst hy
    refine .row ga 2 0 3 _ .live _ r1 (.inl rfl) hga (by simp) (by simp) ?_ ?_
    ·intro i e y he hy
     match i with
     | 0=>simp [Array.cells] at he hy; subst he; subst hy; rfl
     | 1=>simp [Array.cells] at he hy; subst he; subst hy; rfl
     | 2=>simp [Array.cells] at he hy; subst he; subst hy; rfl
     | i+3=>simp at hy
    ·intro i j e y c d he hy hc hd
     match i with
     | 0=>
      simp [Array.cells] at he hy; subst he; subst hy
      match j with
      | 0=>simp at hc hd; subst hc; subst hd; exact .leaf _
      | 1=>simp at hc hd; subst hc; subst hd; exact .of_norm r2
      | j+2=>simp at hc
     | 1=>
      simp [Array.cells] at he hy; subst he; subst hy
      match j with
      | 0=>simp at hc hd; subst hc; subst hd; exact .leaf _
      | 1=>simp at hc hd; subst hc; subst hd; exact .of_norm r3
      | j+2=>simp at hc
     | 2=>
      simp [Array.cells] at he hy; subst he; subst hy
      match j with
      | 0=>simp at hc hd; subst hc; subst hd; exact .leaf _
      | 1=>simp at hc hd; subst hc; subst hd; exact .of_norm r4
      | j+2=>simp at hc
     | i+3=>simp at hy
   | 1=>
    simp at hc hy; subst hc; subst hy
    have hl:(l.map Step.cells).length=es.length:=by simpa using l2
    rcases b1 with ⟨b,rfl,rfl⟩ | ⟨gs,g1,rfl,g2⟩
    ·have:l=[]:=List.length_eq_zero_iff.1 l2
     rw [this]; exact .of_norm rfl
    ·refine .row gs 15 0 es.length _ .live _ g2 (.inl rfl) (hF gs (b3 gs g1)) (by simp) hl ?_ ?_
     ·intro i e y he hy
      rw [Nat.zero_add] at he
      rw [←Step.list_map] at hy
      exact (l3 i e y he hy).1
     ·intro i j e y c d he hy hc hd
      rw [Nat.zero_add] at he
      rw [←Step.list_map] at hy
      exact (l3 i e y he hy).2 j c d hc hd
   | j+2=>simp at hc
  ·have:h'' g=s'.h g:=by
    rcases hh g with q | ⟨q,_⟩
    ·exact q
    ·omega
   show SM h'' g L a'
   unfold SM; rw [this]; exact h3
  ·have:h'' k=s'.h k:=by
    rcases hh k with q | ⟨q,_⟩
    ·exact q
    ·omega
   exact this.trans (h4 k hk hkg)
end Go.Proofs.YtjhogglgkjcacaaGreat
namespace Go.Proofs.YtjhogglgkjcacaaGreat
section
variable {α:Type} (lt:α→α→Bool)
theorem oR:∀ (l:List α) (j:Nat) (a b:α),l[j+1]?=some a→l[j]?=some b→((l.set (j+1) b).set j a).Perm l
 | [],j,a,b,h,_=>by simp at h
 | x::xs,0,a,b,h,h'=>by
  cases xs with
  | nil=>simp at h
  | cons y ys=>
   simp at h h'
   subst h; subst h'
   simpa using List.Perm.swap x y ys
 | x::xs,j+1,a,b,h,h'=>by
  simp only [List.set_cons_succ]
  exact (oR xs j a b (by simpa using h) (by simpa using h')).cons x
theorem pK:∀ (j:Nat) (l:List α),(bub lt l j).Perm l
 | 0,l=>List.Perm.refl l
 | j+1,l=>by
  simp only [bub]
  split
  ·rename_i a b ha hb
   split
   ·exact (pK j _).trans (oR l j a b ha hb)
   ·exact List.Perm.refl l
  ·exact List.Perm.refl l
theorem lR (l:List α):∀ i,(dq lt l i).Perm l
 | 0=>List.Perm.refl l
 | i+1=>(pK lt _ _).trans (lR l i)
theorem nf (l:List α):(fm lt l).Perm l:=lR lt l _
variable (htr:∀ a b c:α,lt b a=false→lt c b=false→lt c a=false) (has:∀ a b:α,lt a b=true→lt b a=false)
include htr has
omit htr has
end
end Go.Proofs.YtjhogglgkjcacaaGreat
set_option maxRecDepth 20000
set_option maxHeartbeats 4000000
namespace Go.Proofs.YtjhogglgkjcacaaGreat
open Go.AM Go.Wb
theorem mD {l:List Int} {i:Nat} (h:i<l.length):(ak l)[i]?=some [.int l[i]]:=by simp [ak,h]
end Go.Proofs.YtjhogglgkjcacaaGreat
set_option maxRecDepth 20000
set_option maxHeartbeats 4000000
namespace Go.Proofs.YtjhogglgkjcacaaGreat
open Go.AM Go.Wb
def mC (e:List AV):Nat:=match e with
 | [_,.row g _ _ _]=>g
 | _=>0
structure GLs (B:Nat) (h:Heap) (c0 c:Nat) (es:List (List AV)):Prop where
 el:∀ e∈es,∃ (key:ByteArray) (gv:Nat) (l:List Int),e=[.str key,.row gv 1 0 l.length]∧c0≤gv∧gv<c∧h gv=some (.row 1 (ak l) .live none)∧l.length≤B
 nd:(es.map mC).Nodup
theorem GLs.ok {B:Nat} {h:Heap} {c0 c:Nat} {es:List (List AV)} (H:GLs B h c0 c es):∀ e∈es,aB 2 e=true:=fun e he=>by
 obtain ⟨key,gv,l,rfl,_⟩:=H.el e he; rfl
theorem GLs.frame {B:Nat} {h h':Heap} {c0 c c':Nat} {es:List (List AV)} (H:GLs B h c0 c es) (hc:c≤c') (hh:∀ e∈es,h' (mC e)=h (mC e)):GLs B h' c0 c' es:=
 ⟨fun e he=>by
  obtain ⟨key,gv,l,rfl,h1,h2,h3,h4⟩:=H.el e he
  exact ⟨key,gv,l,rfl,h1,by omega,(hh _ he).trans h3,h4⟩,H.nd⟩
theorem GLs.more {B B':Nat} {h:Heap} {c0 c:Nat} {es:List (List AV)} (H:GLs B h c0 c es) (hB:B≤B'):GLs B' h c0 c es:=
 ⟨fun e he=>by
  obtain ⟨key,gv,l,h0,h1,h2,h3,h4⟩:=H.el e he
  exact ⟨key,gv,l,h0,h1,h2,h3,by omega⟩,H.nd⟩
theorem GLs.inj {B:Nat} {h:Heap} {c0 c:Nat} {es:List (List AV)} (H:GLs B h c0 c es) {i j:Nat} (hi:i<es.length) (hj:j<es.length) (e:mC es[i]=mC es[j]):i=j:=by
 have:=List.pairwise_iff_getElem.1 H.nd
 rcases Nat.lt_trichotomy i j with h1 | h1 | h1
 ·have:=this i j (by simpa using hi) (by simpa using hj) h1
  simp at this; exact absurd e this
 ·exact h1
 ·have:=this j i (by simpa using hj) (by simpa using hi) h1
  simp at this; exact absurd e.symm this
end Go.Proofs.YtjhogglgkjcacaaGreat
set_option maxRecDepth 20000
set_option maxHeartbeats 4000000
namespace Go.Proofs.YtjhogglgkjcacaaGreat
open Go.AM Go.Wb
abbrev Env:=List (ByteArray×Int)
def aA (e:Env) (n:ByteArray):Int:=(bS e n).getD 0
def d6 (e:Env):Prop:=∀ p∈e,-1000000≤p.2∧p.2≤1000000
def dQ (φ:ByteArray→Int):List Wb.Term→Int→Int
 | [],n=>n
 | t::ts,n=>dQ φ ts (n+t.coef*φ t.name)
def aH (φ:ByteArray→Int) (f:Wb.Form):Int:=dQ φ f.terms f.const
structure OkForm (f:Wb.Form):Prop where
 const:-1000000≤f.const∧f.const≤1000000
 len:f.terms.length≤12
 coef:∀ t∈f.terms,-1000≤t.coef∧t.coef≤1000
def cw (b:Wb.Bound):Prop:=OkForm b.form∧1≤b.div∧b.div≤1000
theorem iY:∀ {l:List Wb.Term} {last:ByteArray},bo last l=0→∀ t∈l,-1000≤t.coef∧t.coef≤1000
 | [],last,_=>by simp
 | t::ts,last,h=>by
  simp only [bo] at h
  split at h
  ·cases h
  ·split at h
   ·cases h
   ·rename_i h2
    split at h
    ·cases h
    ·intro x hx
     rcases List.mem_cons.1 hx with rfl | hx
     ·exact Classical.byContradiction fun h3=>h2 (.inr h3)
     ·exact iY h x hx
theorem pX {f:Wb.Form} (h:bp f=0):OkForm f:=by
 simp only [bp] at h
 split at h
 ·cases h
 ·rename_i h1
  split at h
  ·cases h
  ·rename_i h2
   exact ⟨Classical.byContradiction h1,by omega,iY h⟩
theorem kM {f:Wb.Form} {L:List ByteArray} (h:bU f L=0):OkForm f:=by
 simp only [bU] at h
 split at h
 ·exact pX ‹_›
 ·exact absurd h ‹_›
theorem jT {L:List ByteArray}:∀ {l:List Wb.Form},bG L l=0→∀ f∈l,OkForm f
 | [],_=>by simp
 | f::fs,h=>by
  simp only [bG] at h
  split at h
  ·intro x hx
   rcases List.mem_cons.1 hx with rfl | hx
   ·exact kM ‹_›
   ·exact jT h x hx
  ·exact absurd h ‹_›
theorem lI {L:List ByteArray}:∀ {l:List Wb.Bound},bw L l=0→∀ b∈l,cw b
 | [],_=>by simp
 | b::bs,h=>by
  simp only [bw] at h
  split at h
  ·split at h
   ·intro x hx
    rcases List.mem_cons.1 hx with rfl | hx
    ·exact ⟨kM ‹_›,‹_›⟩
    ·exact lI h x hx
   ·cases h
  ·exact absurd h ‹_›
theorem kQ {a b:Int} (ha:-1000≤a∧a≤1000) (hb:-1000000≤b∧b≤1000000):-1000000000≤a*b∧a*b≤1000000000:=by
 have h:=Int.natAbs_mul a b
 have h1:a.natAbs≤1000:=by omega
 have h2:b.natAbs≤1000000:=by omega
 have h3:=Nat.mul_le_mul h1 h2
 omega
theorem jD {φ:ByteArray→Int} (hφ:∀ n,-1000000≤φ n∧φ n≤1000000):∀ (l:List Wb.Term) (n B:Int),(∀ t∈l,-1000≤t.coef∧t.coef≤1000) → -B≤n∧n≤B → -(B+l.length*1000000000)≤dQ φ l n∧dQ φ l n≤B+l.length*1000000000
 | [],n,B,_,hn=>by simpa [dQ] using hn
 | t::ts,n,B,ht,hn=>by
  have h1:=kQ (ht t (List.mem_cons_self)) (hφ t.name)
  have:=jD hφ ts (n+t.coef*φ t.name) (B+1000000000) (fun x hx=>ht x (List.mem_cons_of_mem _ hx)) (by omega)
  simp only [dQ,List.length_cons]
  omega
theorem ct {φ:ByteArray→Int} (hφ:∀ n,-1000000≤φ n∧φ n≤1000000) {f:Wb.Form} (hf:OkForm f):-12001000000≤aH φ f∧aH φ f≤12001000000:=by
 have:=jD hφ f.terms f.const 1000000 hf.coef hf.const
 have h2:=hf.len
 unfold aH
 omega
theorem cB {e:Env} (he:d6 e) (n:ByteArray):-1000000≤aA e n∧aA e n≤1000000:=by
 unfold aA
 induction e with
 | nil=>simp [bS]
 | cons p e ih=>
  simp only [bS]
  split
  ·exact he p (List.mem_cons_self)
  ·exact ih fun q hq=>he q (List.mem_cons_of_mem _ hq)
def mxI (a b:Int):Int:=if a<b then b else a
def mnI (a b:Int):Int:=if b<a then b else a
def dF (φ:ByteArray→Int):List Wb.Bound→Int→Int
 | [],n=>n
 | b::bs,n=>dF φ bs (mxI n (upI (aH φ b.form) b.div))
def eg (φ:ByteArray→Int):List Wb.Bound→Int
 | []=>0
 | b::bs=>dF φ bs (upI (aH φ b.form) b.div)
def dm (φ:ByteArray→Int):List Wb.Bound→Int→Int
 | [],n=>n
 | b::bs,n=>dm φ bs (mnI n (aH φ b.form / b.div))
def ei (φ:ByteArray→Int):List Wb.Bound→Int
 | []=>0
 | b::bs=>dm φ bs (aH φ b.form / b.div)
theorem fC {a d:Int} (hd:1≤d) (B:Int) (ha:-B≤a∧a≤B):-B≤a / d∧a / d≤B:=by
 have h:=Int.natAbs_ediv_le_natAbs a d
 omega
theorem kj {a d:Int} (hd:1≤d) (B:Int) (ha:-B≤a∧a≤B):-B≤upI a d∧upI a d≤B:=by
 have:=fC (a:=-a) hd B (by omega)
 unfold upI
 omega
theorem kq {φ:ByteArray→Int} (hφ:∀ n,-1000000≤φ n∧φ n≤1000000):∀ (l:List Wb.Bound) (n:Int),(∀ b∈l,cw b) → -12001000000≤n∧n≤12001000000 → -12001000000≤dF φ l n∧dF φ l n≤12001000000
 | [],n,_,hn=>hn
 | b::bs,n,hb,hn=>by
  have h1:=hb b (List.mem_cons_self)
  have h2:=kj h1.2.1 12001000000 (ct hφ h1.1)
  refine kq hφ bs _ (fun x hx=>hb x (List.mem_cons_of_mem _ hx)) ?_
  unfold mxI; split <;> omega
theorem lT {φ:ByteArray→Int} (hφ:∀ n,-1000000≤φ n∧φ n≤1000000) {l:List Wb.Bound} (hb:∀ b∈l,cw b):-12001000000≤eg φ l∧eg φ l≤12001000000:=by
 cases l with
 | nil=>simp [eg]
 | cons b bs=>exact kq hφ bs _ (fun x hx=>hb x (List.mem_cons_of_mem _ hx)) (kj (hb b (List.mem_cons_self)).2.1 _ (ct hφ (hb b (List.mem_cons_self)).1))
theorem ju {φ:ByteArray→Int} (hφ:∀ n,-1000000≤φ n∧φ n≤1000000):∀ (l:List Wb.Bound) (n:Int),(∀ b∈l,cw b) → -12001000000≤n∧n≤12001000000 → -12001000000≤dm φ l n∧dm φ l n≤12001000000
 | [],n,_,hn=>hn
 | b::bs,n,hb,hn=>by
  have h1:=hb b (List.mem_cons_self)
  have h2:=fC h1.2.1 12001000000 (ct hφ h1.1)
  refine ju hφ bs _ (fun x hx=>hb x (List.mem_cons_of_mem _ hx)) ?_
  unfold mnI; split <;> omega
theorem kN {φ:ByteArray→Int} (hφ:∀ n,-1000000≤φ n∧φ n≤1000000) {l:List Wb.Bound} (hb:∀ b∈l,cw b):-12001000000≤ei φ l∧ei φ l≤12001000000:=by
 cases l with
 | nil=>simp [ei]
 | cons b bs=>exact ju hφ bs _ (fun x hx=>hb x (List.mem_cons_of_mem _ hx)) (fC (hb b (List.mem_cons_self)).2.1 _ (ct hφ (hb b (List.mem_cons_self)).1))
theorem rK {φ:ByteArray→Int} (hφ:∀ n,-1000000≤φ n∧φ n≤1000000) {l:List Wb.Bound} (hb:∀ b∈l,cw b) (hne:l≠[]):dF φ l (-1099511627776)=eg φ l:=by
 cases l with
 | nil=>exact absurd rfl hne
 | cons b bs=>
  have h2:=kj (hb b (List.mem_cons_self)).2.1 12001000000 (ct hφ (hb b (List.mem_cons_self)).1)
  simp only [dF,eg,mxI]
  rw [if_pos (by omega)]
theorem qN {φ:ByteArray→Int} (hφ:∀ n,-1000000≤φ n∧φ n≤1000000) {l:List Wb.Bound} (hb:∀ b∈l,cw b) (hne:l≠[]):dm φ l 1099511627776=ei φ l:=by
 cases l with
 | nil=>exact absurd rfl hne
 | cons b bs=>
  have h2:=fC (hb b (List.mem_cons_self)).2.1 12001000000 (ct hφ (hb b (List.mem_cons_self)).1)
  simp only [dm,ei,mnI]
  rw [if_pos (by omega)]
def ej (A:List Wb.Array) (key:ByteArray) (subs:List Wb.Form):Prop:=∃ (i:Nat) (a:Wb.Array),A[i]?=some a∧bh A key=i∧a.key=key∧a.sizes.length=subs.length∧∀ f∈subs,OkForm f
mutual
def eG (A:List Wb.Array):Wb.Expr→Prop
 | .mk op n form array subs args=>(op=1∧args=[]∧0≤n∧n≤1000002)∨(op=2∧args=[]∧OkForm form)∨(op=3∧args=[]∧ej A array subs)∨(4≤op∧op≤6∧args.length=2∧fH A args)
def fH (A:List Wb.Array):List Wb.Expr→Prop
 | []=>True
 | e::es=>eG A e∧fH A es
end
mutual
def cr:Wb.Expr→Nat
 | .mk op _ _ _ _ args=>if op=3 then 1 else bM args
def bM:List Wb.Expr→Nat
 | []=>0
 | e::es=>cr e+bM es
end
mutual
def dV (A:List Wb.Array) (L:List ByteArray):Wb.Step→Prop
 | .mk kind name low high conds body array subs expr=>
  (kind=1∧inL name L=false∧low≠[]∧high≠[]∧(∀ b∈low,cw b)∧(∀ b∈high,cw b)∧cP A (L++[name]) body) ∨
  (kind=2∧(∀ f∈conds,OkForm f)∧cP A L body) ∨
  (kind=3∧body=[]∧ej A array subs∧eG A expr∧cr expr≤4096)
def cP (A:List Wb.Array) (L:List ByteArray):List Wb.Step→Prop
 | []=>True
 | s::ss=>dV A L s∧cP A L ss
end
theorem jd {A:List Wb.Array} {L:List ByteArray}:∀ {l:List Wb.Step},cP A L l→∀ s∈l,dV A L s
 | [],_=>by simp
 | s::ss,h=>by
  intro x hx
  simp only [cP] at h
  rcases List.mem_cons.1 hx with rfl | hx
  ·exact h.1
  ·exact jd h.2 x hx
theorem kD {A:List Wb.Array} {key:ByteArray} {subs:List Wb.Form} {L:List ByteArray} (h:bH A key subs L=0):ej A key subs:=by
 simp only [bH] at h
 split at h
 ·cases h
 ·rename_i h1
  split at h
  ·cases h
  ·rename_i h2
   obtain ⟨i,a,hi,h3,h4,h5,h6⟩:=eE h1
   exact ⟨i,a,by rw [List.getElem?_eq_getElem hi,h4],h3,h5,by rw [←h6]; exact Classical.byContradiction h2,jT h⟩
mutual
theorem kJ {A:List Wb.Array} {L:List ByteArray}:∀ {e:Wb.Expr} {d:Int},aF A L d e=0→eG A e
 | .mk op n form array subs args,d,h=>by
  simp only [aF] at h
  split at h
  ·cases h
  ·split at h
   ·cases h
   ·rename_i h1
    split at h
    ·cases h
    ·rename_i h2
     have h2:aP op n form array subs args=true:=by simpa using h2
     split at h
     ·cases h
     ·rename_i h3
      split at h
      ·rename_i h4
       exact .inr (.inl ⟨h4,db h2 (.inr (.inl h4)),kM h⟩)
      ·rename_i h4
       split at h
       ·rename_i h5
        exact .inr (.inr (.inl ⟨h5,db h2 (.inr (.inr h5)),kD h⟩))
       ·rename_i h5
        by_cases h6:op=1
        ·exact .inl ⟨h6,db h2 (.inl h6),by omega⟩
        ·refine .inr (.inr (.inr ⟨by omega,by omega,?_,ko h⟩))
         simp [aP,h4,h5,h6] at h2
         omega
theorem ko {A:List Wb.Array} {L:List ByteArray}:∀ {l:List Wb.Expr} {d:Int},bg A L d l=0→fH A l
 | [],_,_=>trivial
 | e::es,d,h=>by
  simp only [bg] at h
  split at h
  ·exact ⟨kJ ‹_›,ko h⟩
  ·exact absurd h ‹_›
end
mutual
theorem ja {A:List Wb.Array} {L:List ByteArray}:∀ {e:Wb.Expr} {d:Int} {k:Nat},aF A L d e=0→12≤d+k→cr e≤2 ^ k
 | .mk op n form array subs args,d,k,h,hk=>by
  simp only [aF] at h
  split at h
  ·cases h
  ·rename_i hd
   split at h
   ·cases h
   ·split at h
    ·cases h
    ·rename_i h2
     have h2:aP op n form array subs args=true:=by simpa using h2
     split at h
     ·cases h
     ·split at h
      ·rename_i h4
       have:=db h2 (.inr (.inl h4))
       subst this
       simp [cr,h4,bM]
      ·rename_i h4
       split at h
       ·rename_i h5
        simp only [cr,h5,if_true]
        exact Nat.one_le_two_pow
       ·rename_i h5
        simp only [cr,h5,if_false]
        by_cases h6:op=1
        ·have:=db h2 (.inl h6)
         subst this
         simp [bM]
        ·simp [aP,h4,h5,h6] at h2
         have hl:args.length=2:=by omega
         match args,hl,h with
         | [a,b],_,h=>
          simp only [bg] at h
          split at h
          ·rename_i ha
           split at h
           ·rename_i hb
            cases k with
            | zero=>
             exfalso
             have:(12:Int)<d+1:=by omega
             obtain ⟨_,_,_,_,_,_⟩:=a
             simp [aF,this] at ha
            | succ k=>
             have h1:=ja ha (k:=k) (by omega)
             have h2:=ja hb (k:=k) (by omega)
             simp only [bM]
             rw [Nat.pow_succ]; omega
           ·exact absurd h ‹_›
          ·exact absurd h ‹_›
end
theorem mX {A:List Wb.Array} {L:List ByteArray} {e:Wb.Expr} {d:Int} (h:aF A L d e=0) (hd:1≤d):cr e≤4096:=by
 have:=ja h (k:=12) (by omega)
 simpa using this
mutual
theorem qy {A:List Wb.Array}:∀ {s:Wb.Step} {L N:List ByteArray} {d:Int},(aI A L d N s).1=0→dV A L s
 | .mk kind name low high conds body array subs expr,L,N,d,h=>by
  simp only [aI] at h
  split at h
  ·cases h
  ·split at h
   ·cases h
   ·rename_i h1
    split at h
    ·cases h
    ·rename_i h2
     split at h
     ·cases h
     ·split at h
      ·rename_i h3
       split at h
       ·rename_i h4
        simp only [bz] at h4
        split at h4
        ·cases h4
        ·rename_i h5
         split at h4
         ·cases h4
         ·rename_i h6
          split at h4
          ·cases h4
          ·have hb:=lI h4
           refine .inl ⟨h3,by simpa using fun e=>h5 (.inl e),fun e=>h6 (.inl e),fun e=>h6 (.inr e),fun b hm=>hb b (List.mem_append_left _ hm),fun b hm=>hb b (List.mem_append_right _ hm),fp h⟩
       ·exact absurd h ‹_›
      ·rename_i h3
       split at h
       ·rename_i h4
        split at h
        ·rename_i h5
         simp only [bI] at h5
         split at h5
         ·cases h5
         ·split at h5
          ·cases h5
          ·exact .inr (.inl ⟨h4,jT h5,fp h⟩)
        ·exact absurd h ‹_›
       ·rename_i h4
        have h2':bO kind name low high conds body array subs expr=true:=by simpa using h2
        simp [bO,h3,h4] at h2'
        simp only [cG] at h
        split at h
        ·cases h
        ·split at h
         ·exact .inr (.inr ⟨by omega,h2'.2,kD ‹_›,kJ h,mX h (by omega)⟩)
         ·exact absurd h ‹_›
theorem fp {A:List Wb.Array}:∀ {l:List Wb.Step} {L N:List ByteArray} {d:Int},(aG A L d N l).1=0→cP A L l
 | [],_,_,_,_=>trivial
 | s::ss,L,N,d,h=>by
  simp only [aG] at h
  split at h
  ·exact ⟨qy ‹_›,fp h⟩
  ·exact absurd h ‹_›
end
def ba (l:List Int):Int:=l.foldl (·*·) 1
structure OkArray (a:Wb.Array):Prop where
 name:bP a.key=true
 some_:a.sizes≠[]
 len:a.sizes.length≤4
 sizes:∀ n∈a.sizes,1≤n∧n≤20000
 cells:ba a.sizes≤20000
theorem m7:∀ {l:List Int} {n:Int},(∀ s∈l,1≤s∧s≤20000)→1≤n→n≤l.foldl (·*·) n
 | [],n,_,hn=>Int.le_refl _
 | s::ss,n,h,hn=>by
  rw [List.foldl_cons]
  have h1:n≤n*s:=by have:=Int.mul_le_mul_of_nonneg_left (h s (List.mem_cons_self)).1 (show 0≤n by omega); simpa using this
  exact Int.le_trans h1 (m7 (fun x hx=>h x (List.mem_cons_of_mem _ hx)) (by omega))
theorem la:∀ {l:List Int} {n m:Int},cD l n=some m→1≤n→n≤20001→(∀ s∈l,1≤s∧s≤20000)∧(m≤20000→l.foldl (·*·) n≤m)
 | [],n,m,h,_,_=>by
  simp only [cD,Option.some.injEq] at h
  subst h
  exact ⟨by simp,fun _=>Int.le_refl _⟩
 | s::ss,n,m,h,h1,h1'=>by
  simp only [cD] at h
  split at h
  ·rename_i hs
   have hp:1≤n*s:=by have:=Int.mul_le_mul h1 hs.1 (by omega) (by omega); simpa using this
   by_cases h2:20001<n*s
   ·rw [if_pos h2] at h
    obtain ⟨h3,h4⟩:=la h (by omega) (by omega)
    refine ⟨fun x hx=>?_,fun hm=>?_⟩
    ·rcases List.mem_cons.1 hx with rfl | hx
     ·exact hs
     ·exact h3 x hx
    ·have:=m7 (n:=20001) h3 (by omega)
     have:=h4 hm
     omega
   ·rw [if_neg h2] at h
    obtain ⟨h3,h4⟩:=la h hp (by omega)
    refine ⟨fun x hx=>?_,h4⟩
    rcases List.mem_cons.1 hx with rfl | hx
    ·exact hs
    ·exact h3 x hx
  ·cases h
theorem jq:∀ {l before:List Wb.Array} {cells:Int},bF before l cells=0→0≤cells→cells≤20000→(∀ a∈l,OkArray a)∧(∀ (i:Nat) (a b:Wb.Array),l[i]?=some a→b∈before++l.take i→b.key≠a.key)
 | [],_,_,_,_,_=>⟨by simp,by simp⟩
 | a::l,before,cells,h,hc,hc2=>by
  simp only [bF] at h
  split at h
  ·rename_i h0
   have h0':=h0
   simp only [aV] at h0
   split at h0
   ·cases h0
   ·rename_i h1
    split at h0
    ·cases h0
    ·rename_i h2
     split at h0
     ·cases h0
     ·rename_i h3
      split at h0
      ·cases h0
      ·rename_i h4
       cases hs:cD a.sizes 1 with
       | none=>rw [hs] at h0; cases h0
       | some n=>
        rw [hs] at h0
        simp only at h0
        split at h0
        ·cases h0
        ·rename_i h5
         have he:(aV a before cells).2=cells+n:=by simp [aV,h1,h2,h3,h4,hs,h5]
         have hn:=ke hs (by omega)
         rw [he] at h
         obtain ⟨h6,h7⟩:=jq h (by omega) (by omega)
         obtain ⟨h8,h9⟩:=la hs (by omega) (by omega)
         refine ⟨fun x hx=>?_,fun i x b hi hb=>?_⟩
         ·rcases List.mem_cons.1 hx with rfl | hx
          ·exact ⟨by simpa using h1,h3,by omega,h8,by have:=h9 (by omega); unfold ba; omega⟩
          ·exact h6 x hx
         ·cases i with
          | zero=>
           simp at hi hb
           subst hi
           intro e
           exact h2 (List.any_eq_true.2 ⟨b,hb,by simp [e]⟩)
          | succ i=>exact h7 i x b (by simpa using hi) (by simpa using hb)
  ·exact absurd h ‹_›
structure Right (p:Wb.Prog):Prop where
 arrays:∀ a∈p.arrays,OkArray a
 apart:∀ (i j:Nat) (a b:Wb.Array),p.arrays[i]?=some a→p.arrays[j]?=some b→j<i→b.key≠a.key
 steps:cP p.arrays [] p.steps
theorem dO {p:Wb.Prog} (h:bB p=0):Right p:=by
 simp only [bB] at h
 split at h
 ·cases h
 ·split at h
  ·rename_i h1
   obtain ⟨h2,h3⟩:=jq h1 (by omega) (by omega)
   split at h
   ·rename_i h4
    refine ⟨h2,fun i j a b hi hj hij=>h3 i a b hi ?_,fp h4⟩
    rw [List.nil_append]
    exact List.mem_of_getElem? (show (p.arrays.take i)[j]?=some b by rw [List.getElem?_take_of_lt hij]; exact hj)
   ·exact absurd h ‹_›
  ·exact absurd h ‹_›
structure Inst where
 num:Nat
 step:Wb.Step
 env:Env
 way:List Int
structure RS where
 rounds:Int
 l:List Inst
mutual
def cW:Wb.Step→Nat
 | .mk kind _ _ _ _ body _ _ _=>(if kind=3 then 1 else 0)+fT body
def fT:List Wb.Step→Nat
 | []=>0
 | s::ss=>cW s+fT ss
end
def cj (f:Int→RS→Int×RS):Nat→Int→RS→Int×RS
 | 0,_,s=>(0,s)
 | k+1,v,s=>if ¬(-1000000≤v∧v≤1000000) then (1,s) else if 200000<s.rounds+1 then (12,{ s with rounds:=s.rounds+1 }) else
  if (f v { s with rounds:=s.rounds+1 }).1=0 then cj f k (v+1) (f v { s with rounds:=s.rounds+1 }).2 else f v { s with rounds:=s.rounds+1 }
mutual
def bD (num:Nat) (e:Env) (way:List Int):Wb.Step→RS→Int×RS
 | .mk kind name low high conds body array subs expr,s=>
  if kind=1 then cj (fun v s=>aU num (e++[(name,v)]) way 0 body s) (ei (aA e) high-eg (aA e) low+1).toNat (eg (aA e) low) s
  else if kind=2 then if conds.all (fun f=>decide (0≤aH (aA e) f))=true then aU num e way 0 body s else (0,s)
  else if s.l.length=50000 then (12,s) else (0,{ s with l:=s.l++[⟨num,.mk kind name low high conds body array subs expr,e,way⟩] })
def aU (num:Nat) (e:Env) (way:List Int) (i:Nat):List Wb.Step→RS→Int×RS
 | [],s=>(0,s)
 | x::xs,s=>if (bD num e (way++[(i:Int)]) x s).1=0 then aU (num+cW x) e way (i+1) xs (bD num e (way++[(i:Int)]) x s).2 else bD num e (way++[(i:Int)]) x s
end
def aE (p:Wb.Prog):Int×RS:=aU 0 [] [] 0 p.steps ⟨0,[]⟩
def cE (φ:ByteArray→Int):List Int→List Wb.Form→Int→Bool→Int×Bool
 | z::zs,f::fs,n,ok=>cE φ zs fs (IntKind.i64.wrap (IntKind.i64.wrap (n*z)+aH φ f)) (ok&&decide (0≤aH φ f∧aH φ f≤z-1))
 | _,_,n,ok=>(n,ok)
def bQ (A:List Wb.Array) (φ:ByteArray→Int) (key:ByteArray) (subs:List Wb.Form):Wb.Spot×Bool:=(⟨key,(cE φ (fK A key) subs 0 true).1⟩,(cE φ (fK A key) subs 0 true).2)
mutual
def cC (A:List Wb.Array) (φ:ByteArray→Int):Wb.Expr→List Wb.Spot×Bool
 | .mk op n form array subs args=>if op=3 then ([(bQ A φ array subs).1],(bQ A φ array subs).2) else cy A φ args
def cy (A:List Wb.Array) (φ:ByteArray→Int):List Wb.Expr→List Wb.Spot×Bool
 | []=>([],true)
 | e::es=>((cC A φ e).1++(cy A φ es).1,(cC A φ e).2&&(cy A φ es).2)
end
mutual
theorem ii (A:List Wb.Array) (φ:ByteArray→Int):∀ e:Wb.Expr,(cC A φ e).1.length=cr e
 | .mk op n form array subs args=>by
  simp only [cC,cr]
  split
  ·rfl
  ·exact jZ A φ args
theorem jZ (A:List Wb.Array) (φ:ByteArray→Int):∀ l:List Wb.Expr,(cy A φ l).1.length=bM l
 | []=>rfl
 | e::es=>by simp [cy,bM,ii A φ e,jZ A φ es]
end
theorem jc:∀ (a b:List Wb.Expr),bM (a++b)=bM a+bM b
 | [],b=>by simp [bM]
 | x::a,b=>by simp [bM,jc a b]; omega
def Step.array:Wb.Step→ByteArray | .mk _ _ _ _ _ _ array _ _=>array
def Step.subs:Wb.Step→List Wb.Form | .mk _ _ _ _ _ _ _ subs _=>subs
def Step.expr:Wb.Step→Wb.Expr | .mk _ _ _ _ _ _ _ _ expr=>expr
def Step.name:Wb.Step→ByteArray | .mk _ name _ _ _ _ _ _ _=>name
def Step.body:Wb.Step→List Wb.Step | .mk _ _ _ _ _ body _ _ _=>body
def Step.kind:Wb.Step→Int | .mk kind _ _ _ _ _ _ _ _=>kind
def Inst.reads (A:List Wb.Array) (i:Inst):List Wb.Spot:=(cC A (aA i.env) (Step.expr i.step)).1
def Inst.sets (A:List Wb.Array) (i:Inst):Wb.Spot:=(bQ A (aA i.env) (Step.array i.step) (Step.subs i.step)).1
def Inst.ok (A:List Wb.Array) (i:Inst):Bool:=(cC A (aA i.env) (Step.expr i.step)).2&&(bQ A (aA i.env) (Step.array i.step) (Step.subs i.step)).2
end Go.Proofs.YtjhogglgkjcacaaGreat
set_option maxRecDepth 20000
set_option maxHeartbeats 4000000
namespace Go.Proofs.YtjhogglgkjcacaaGreat
open Go.AM Go.Wb
def wD (t:Nat):Nat:=match t with
 | 23=>220
 | 25=>9
 | t=>t
def wC (f:Nat):Nat:=match f with
 | 5=>Fn210.n
 | _=>Fn283.n
def uA:Go.Shelf.Ren:=⟨wC,wD,fun g=>g⟩
theorem sD:SlLaysW.n5 Tryz.prog uA where
 mixed:=by kernel_rfl
 f5 := ⟨ "maps.Clone[warpbeam/wbref2.env,string,int]", by decide, Tryz.func210.trans (congrArg some (by kernel_rfl))⟩
 f7:=Tryz.func283.trans (congrArg some (by kernel_rfl))
 t4:=Tryz.underlying4
 a4:=Tryz.isAgg4
 z4:=Tryz.sizeOf4
 v4:=Tryz.zeroValue4
 t20:=Tryz.underlying20
 a20:=Tryz.isAgg20
 z20:=Tryz.sizeOf20
 v20:=Tryz.zeroValue20
 t23:=Tryz.underlying220
 a23:=Tryz.isAgg220
 z23:=Tryz.sizeOf220
 v23:=Tryz.zeroValue220
theorem oV (g:Nat) (kv:List (AV×AV)) (ver:Nat) (h0:Heap) (c0:Nat) (hg:h0 g=some (.map kv ver)) :
  ACalls Pg Fn210.n [.map g] ⟨h0,c0⟩ fun av s'=>av=.map c0∧s'=⟨upd h0 c0 (some (.map kv c0)),c0+1⟩:=by
 intro G w vs hS hv
 obtain ⟨hv1,hv2⟩:=hv
 match vs,hv1,hv2 with
 | [x],_,hv2=>
  have hx:=hv2 0 _ x rfl rfl
  cases hx with
  | map _ l hl=>
   obtain ⟨hcap,hver,es,clock,h1,h2,h3,h4⟩:=hS.map hg hl
   have hcall:=AnyW.maps_Clone sD l.b es clock w h1
   unfold CallOk
   rw [show [Value.map (some l.b)].toArray=#[.map (some l.b)] from rfl,Tryz.call210]
   refine hcall.mono fun e w' he=>?_
   obtain ⟨rfl,rfl⟩:=he
   have hold:∀ b,b<w.heap.size→(w.alloc (.map es clock)).heap[b]?=w.heap[b]?:=fun b hb=>heap_alloc_old w _ hb
   have hle:G.Le (G.addLoc c0 ⟨w.heap.size,1,0⟩):=Gh.le_addLoc hS.fresh
   have hs:=Sim.add (b':=.map kv c0) (l':=⟨w.heap.size,1,0⟩) (c':=c0+1) (w':=w.alloc (.map es clock)) hS (Nat.lt_succ_self _) hold (fun _=>Nat.le_refl _) (by intro kv0 ver0 e; injection e with _ e; subst e; exact Nat.le_refl _)
    ⟨⟨by simp,es,clock,heap_alloc_new w _,h2,fun i e p he hp=>by
     obtain ⟨a,b,c⟩:=h3 i e p he hp
     exact ⟨a.mono hle,b.mono hle,c⟩,h4⟩,Nat.lt_succ_self _⟩
   have ht:=Stp.add (b':=.map kv c0) (l':=⟨w.heap.size,1,0⟩) (c':=c0+1) (w':=w.alloc (.map es clock)) hS (Nat.lt_succ_self _) hold (fun _=>Nat.le_refl _) (by simp) rfl rfl rfl
   exact ⟨_,_,_,ht,hs,.map c0 ⟨w.heap.size,1,0⟩ (bX _ _ _),rfl,rfl⟩
end Go.Proofs.YtjhogglgkjcacaaGreat
set_option maxRecDepth 20000
set_option maxHeartbeats 4000000
namespace Go.Proofs.YtjhogglgkjcacaaGreat
open Go.AM Go.Wb
def dd (h:Heap) (g:Nat) (e:Env):Prop:=∃ ver,h g=some (.map (kvs AV.str AV.int e) ver)
theorem uC {h:Heap} {g:Nat} {e:Env} (he:dd h g e) (x:ByteArray) (c:Nat):lkI (.one .str) (.int 0) false (.map g) (.str x) ⟨h,c⟩=some (.int (aA e x)):=by
 obtain ⟨ver,he⟩:=he
 rw [jw ew (f:=AV.int) he x]
 unfold aA
 cases bS e x <;> rfl
theorem jG (f:Wb.Form) (hf:OkForm f) (e:Env) (he:d6 e) (g:Nat) (h0:Heap) (c0:Nat) (hg:dd h0 g e) (hgc:g<c0) :
  ACalls Pg Fn208.n [.map g,f.av] ⟨h0,c0⟩ fun av s'=>av=.int (aH (aA e) f)∧s'.h=h0:=by
 refine Fn208.calls .frz ?_
 unfold Fn208.ac
 have hφ:=cB he
 have hlen:=hf.len
 simp [Form.av,Form.cells]
 refine aX 13 Fn208.W0 f.terms (fun i r sl s'=>∃ n:Int,sl 5=.int n∧dQ (aA e) r n=aH (aA e) f ∧ -(1000000+(i:Int)*1000000000)≤n∧n≤1000000+(i:Int)*1000000000) (by rfl) (by rfl) ?_ ?_ ?_
 ·simp
  exact ⟨rfl,hf.const⟩
 ·intro v h c hv hF hI
  obtain ⟨n,h5,hI,_⟩:=hI
  simp at h5
  simp [hv,h5]
  refine ⟨by simpa [dQ] using hI,?_⟩
  exact aC fun k hk=>by rw [hF.h k (by omega),ad (by omega)]
 ·intro i t ts v h c hi hx hl hv hF hI
  obtain ⟨n,h5,hI,hn1,hn2⟩:=hI
  simp at h5
  have hw:=ae (x:=(i:Int)+1) (by omega) (by omega)
  have hcc:=hF.c
  have hm:=kQ (hf.coef t (aR hl)) (hφ t.name)
  have hw1:=ae (x:=t.coef*aA e t.name) (by omega) (by omega)
  have hw2:=ae (x:=n+t.coef*aA e t.name) (by omega) (by omega)
  have hgh:dd (upd h c (some (.row 2 [[.str t.name,.int t.coef]] .live none))) g e:=by
   obtain ⟨ver,hg⟩:=hg
   exact ⟨ver,by rw [ad (by omega),hF.h g (by omega),ad (by omega)]; exact hg⟩
  have hlk:=uC hgh t.name (c+1)
  simp [hv,hi,hx,Term.cells,h5,hlk,hw1,hw2,hw]
  refine ⟨hF.upd hcc (by omega),hI,by omega,by omega⟩
theorem tN (st:Wb.Step) (low high:List Wb.Bound) (hst:∃ kind name conds body array subs expr,st=.mk kind name low high conds body array subs expr) (hl:∀ b∈low,cw b) (hh:∀ b∈high,cw b) (hl0:low≠[]) (hh0:high≠[]) (e:Env) (he:d6 e) (g:Nat) (h0:Heap) (c0:Nat) (hg:dd h0 g e) (hgc:g<c0) :
  ACalls Pg Fn209.n [.map g,st.av] ⟨h0,c0⟩ fun av s'=>av=.tup [.int (eg (aA e) low),.int (ei (aA e) high)]∧s'.h=h0:=by
 refine ACalls.small fun hsm=>?_
 obtain ⟨kind,name,conds,body,array,subs,⟨op,n,form,ea,es,args⟩,rfl⟩:=hst
 have hφ:=cB he
 rw [Step.av_mk] at hsm ⊢
 have hlen:low.length≤68719476736∧high.length≤68719476736:=by simp at hsm; omega
 refine Fn209.calls .frz ?_
 unfold Fn209.ac
 simp
 refine aX 15 Fn209.W0 low (fun i r sl s'=>∃ n:Int,sl 6=.int n∧dF (aA e) r n=eg (aA e) low ∧ -1099511627776≤n∧n≤12001000000) (by rfl) (by rfl) ?_ ?_ ?_
 ·simp
  exact rK hφ hl hl0
 ·intro v h c hv hF hI
  obtain ⟨nl,h6,hI,_⟩:=hI
  simp at h6
  simp only [dF] at hI
  have hbox:h c0=_:=(hF.h c0 (by omega)).trans ah
  have hcc:=hF.c
  simp [hv,hbox]
  refine aX 34 Fn209.W1 high (fun i r sl s'=>∃ n:Int,sl 7=.int n∧sl 6=.int (eg (aA e) low)∧dm (aA e) r n=ei (aA e) high ∧ -12001000000≤n∧n≤1099511627776) (by rfl) (by rfl) ?_ ?_ ?_
  ·simp [h6,hI]
   exact qN hφ hh hh0
  ·intro v2 h2 c2 hv2 hF2 hI2
   obtain ⟨nh,h7,h6',hI2,_⟩:=hI2
   simp at h7 h6'
   simp only [dm] at hI2
   simp [hv2,h7,h6',hI2]
   exact aC fun k hk=>by rw [hF2.h k (by omega),hF.h k (by omega),ad (by omega)]
  ·intro i b bs v2 h2 c2 hi hx hl2 hv2 hF2 hI2
   obtain ⟨nh,h7,h6',hI2,hn1,hn2⟩:=hI2
   simp at h7 h6'
   have hw:=ae (x:=(i:Int)+1) (by omega) (by omega)
   have hcc2:=hF2.c
   obtain ⟨bf,bd⟩:=b
   have hb:=hh _ (aR hl2)
   have hfb:-12001000000≤aH (aA e) bf∧aH (aA e) bf≤12001000000:=ct hφ hb.1
   have hbd:1≤bd:=hb.2.1
   have hdv:=fC (a:=aH (aA e) bf) hbd 12001000000 hfb
   have hgh:dd (upd h2 c2 (some (.row 3 [[.int bf.const,row (bf.terms.map Term.cells),.int bd]] .live none))) g e:=by
    obtain ⟨ver,hg⟩:=hg
    exact ⟨ver,by rw [ad (by omega),hF2.h g (by omega),hF.h g (by omega),ad (by omega)]; exact hg⟩
   simp [hv2,hi,hx,Bound.cells,h7]
   refine ACalls.at (jG bf hb.1 e he g _ _ hgh (by omega)) fun c3 hc3=>?_
   simp
   refine ACalls.pure (pp _ bd (by omega) (by omega) (by omega)) fun c4 hc4=>?_
   simp [hw,hv2,h6']
   refine ⟨hF2.upd hcc2 (by omega),?_,?_,?_⟩
   ·exact hI2
   ·show _≤mnI nh (_ / _); unfold mnI; split <;> omega
   ·show mnI nh (_ / _)≤_; unfold mnI; split <;> omega
 ·intro i b bs v h c hi hx hl2 hv hF hI
  obtain ⟨nl,h6,hI,hn1,hn2⟩:=hI
  simp at h6
  have hw:=ae (x:=(i:Int)+1) (by omega) (by omega)
  have hcc:=hF.c
  obtain ⟨bf,bd⟩:=b
  have hb:=hl _ (aR hl2)
  have hfb:-12001000000≤aH (aA e) bf∧aH (aA e) bf≤12001000000:=ct hφ hb.1
  have hbd:1≤bd:=hb.2.1
  have hub:=kj hbd 12001000000 hfb
  have hw1:=ae (x:=-aH (aA e) bf) (by omega) (by omega)
  have hw2:=ae (x:=upI (aH (aA e) bf) bd) (by omega) (by omega)
  have hdv:=fC (a:=-aH (aA e) bf) hbd 12001000000 (by omega)
  have hgh:dd (upd h c (some (.row 3 [[.int bf.const,row (bf.terms.map Term.cells),.int bd]] .live none))) g e:=by
   obtain ⟨ver,hg⟩:=hg
   exact ⟨ver,by rw [ad (by omega),hF.h g (by omega),ad (by omega)]; exact hg⟩
  simp [hv,hi,hx,Bound.cells,h6]
  refine ACalls.at (jG bf hb.1 e he g _ _ hgh (by omega)) fun c2 hc2=>?_
  simp [hw1]
  refine ACalls.pure (pp _ bd (by omega) (by omega) (by omega)) fun c3 hc3=>?_
  simp only [upI] at hw2 hub
  simp [hw2,hw,hv]
  refine ⟨hF.upd hcc (by omega),?_,?_,?_⟩
  ·exact hI
  ·show _≤mxI nl (-(-aH (aA e) bf / bd)); unfold mxI; split <;> omega
  ·show mxI nl (-(-aH (aA e) bf / bd))≤_; unfold mxI; split <;> omega
def dj (h:Heap) (g:Nat) (A:List Wb.Array) (S:List Wb.Step) (rounds:Int) (l:AV) (out:Bool) (fault:Int):Prop:=h g=some (.row 6 [[row (A.map Array.cells),row (S.map Step.cells),.int rounds,l,.bool out,.int fault]] .live none)
theorem kc {A:List Wb.Array} {key:ByteArray} {i:Nat} {a:Wb.Array} (h:A[i]?=some a) (hk:bh A key=i):fK A key=a.sizes:=by
 unfold fK
 rw [hk,show ((i:Int)).toNat=i by omega,h]
theorem pr (A:List Wb.Array) (hA:∀ a∈A,OkArray a) (S:List Wb.Step) (rounds:Int) (l:AV) (out:Bool) (fault:Int) (g:Nat) (key:ByteArray) (subs:List Wb.Form) (hs:ej A key subs) (e:Env) (he:d6 e) (ge:Nat) (h0:Heap) (c0:Nat) (hg:dj h0 g A S rounds l out fault) (hgc:g<c0) (hge:dd h0 ge e) (hgec:ge<c0) :
  ACalls Pg Fn212.n [.ptr g 0 0,.str key,row (subs.map Form.cells),.map ge] ⟨h0,c0⟩ fun av s'=>av=.tup [.agg (Spot.cells (bQ A (aA e) key subs).1),.bool (bQ A (aA e) key subs).2]∧s'.h=h0:=by
 refine ACalls.small fun hsm=>?_
 have hφ:=cB he
 obtain ⟨i,a,hi,hk,hak,hlen,hsub⟩:=hs
 have ha:=hA a (List.mem_of_getElem? hi)
 have hlen4:=ha.len
 have hsz:=kc hi hk
 have hil:i<A.length:=(List.getElem?_eq_some_iff.1 hi).1
 have hAi:A[i]=a:=(List.getElem?_eq_some_iff.1 hi).2
 have hAg:(A.map Array.cells)[i]?=some [.str a.key,row (ak a.sizes)]:=by simp [hi,Array.cells]
 refine Fn212.calls .frz ?_
 unfold Fn212.ac
 unfold dj at hg
 have hgc0:¬g=c0:=by omega
 simp
 obtain ⟨Post,hPost⟩:∃ Post:Slots→St→Prop,Post=fun sl' s'=>∃ gx,sl' 10=.ptr gx 0 0∧c0+1≤gx∧gx<s'.c∧s'.h gx=some (.row 2 [[.str a.key,row (ak a.sizes)]] .live none)∧s'.h c0=some (.row 2 [[.str ⟨#[]⟩,.int 0]] .live none)∧∀ k,k<c0→s'.h k=h0 k:=⟨_,rfl⟩
 have hgc1:¬g=c0+1:=by omega
 refine roamW_cut [10,16,17,18,19,20,21,22,23,24,25,26,27,28] (by rfl) Post ?_ ?_
 ·simp [roamW_t,roamW_f,roamW_n,hg,hgc0,hgc1]
  refine ⟨?_,?_⟩
  ·refine ACalls.pure (fZ ⟨A,S⟩ key) fun c1 hc1=>?_
   simp [hk,hAg,hgc1,hgc0,hg]
   rw [hPost]
   refine ⟨c0+1,by simp,by omega,by show c0+1<c1; omega,ah,?_,fun k hk=>?_⟩
   ·show upd (upd h0 c0 _) (c0+1) _ c0=_
    rw [ad (by omega),ah]
   ·show upd (upd h0 c0 _) (c0+1) _ k=_
    rw [ad (by omega),ad (by omega)]
  ·refine ACalls.pure (fZ ⟨A,S⟩ key) fun c1 hc1=>?_
   have hgc2:¬g=c1:=by omega
   simp [roamW_t,roamW_f,roamW_n,hk,hAg,hgc2,hg,hgc0]
   rw [hPost]
   refine ⟨c1,by simp,by omega,by show c1<c1+1; omega,ah,?_,fun k hk=>?_⟩
   ·show upd (upd h0 c0 _) c1 _ c0=_
    rw [ad (by omega),ah]
   ·show upd (upd h0 c0 _) c1 _ k=_
    rw [ad (by omega),ad (by omega)]
 ·intro v5 s5 hP
  rw [hPost] at hP
  obtain ⟨gx,hs10,hx1,hx2,hx3,hx4,hx5⟩:=hP
  obtain ⟨h5,c5⟩:=s5
  simp at hs10
  simp only at hx2 hx3 hx4 hx5
  have hlz:a.sizes.length≤4:=hlen4
  simp [hs10]
  obtain ⟨Inv,hInv⟩:∃ Inv:Nat→List Wb.Form→Slots→St→Prop,Inv=fun i r sl s'=>∃ (n:Int) (ok:Bool),sl 11=.int n∧sl 12=.bool ok∧cE (aA e) (a.sizes.drop i) r n ok=cE (aA e) a.sizes subs 0 true:=⟨_,rfl⟩
  refine aX 31 Fn212.W0 subs Inv (by rfl) (by rfl) ?_ ?_ ?_
  ·rw [hInv]; exact ⟨by simp,0,true,by simp,by simp,rfl⟩
  ·intro v h c hv hF hI
   rw [hInv] at hI
   obtain ⟨n,ok,h11,h12,hI⟩:=hI
   simp at h11 h12
   have hz:a.sizes.drop subs.length=[]:=by rw [←hlen,List.drop_length]
   rw [hz] at hI
   simp only [cE] at hI
   have hb:h c0=some (.row 2 [[.str ⟨#[]⟩,.int 0]] .live none):=(hF.h c0 (by omega)).trans hx4
   simp [hv,h11,h12,hb,aM,Spot.cells,bQ,hsz,←hI]
   exact aC fun k hk=>by rw [hF.h k (by omega)]; exact hx5 k hk
  ·intro j f fs v h c hj hx hl hv hF hI
   rw [hInv] at hI
   obtain ⟨n,ok,h11,h12,hI⟩:=hI
   simp at h11 h12
   have hw:=ae (x:=(j:Int)+1) (by omega) (by omega)
   have hcc:=hF.c
   have hjz:j<a.sizes.length:=by omega
   have hzj:=ha.sizes a.sizes[j] (List.getElem_mem hjz)
   have hw1:=ae (x:=a.sizes[j]-1) (by omega) (by omega)
   have hof:=hsub f (aR hl)
   have hbx:∀ B,upd h c B gx=some (.row 2 [[.str a.key,row (ak a.sizes)]] .live none):=fun B=>by rw [ad (by omega),hF.h gx (by omega)]; exact hx3
   have hgh:∀ B,dd (upd h c B) ge e:=fun B=>by
    obtain ⟨ver,hge⟩:=hge
    exact ⟨ver,by rw [ad (by omega),hF.h ge (by omega),hx5 ge (by omega)]; exact hge⟩
   rw [List.drop_eq_getElem_cons hjz] at hI
   simp only [cE] at hI
   have hjf:(subs.map Form.cells)[j]?=some [.int f.const,row (f.terms.map Term.cells)]:=by simp [hj,hx,Form.cells]
   simp [hv,hj,hx,Form.cells]
   refine ACalls.at (jG f hof e he ge _ _ (hgh _) (by omega)) fun c2 hc2=>?_
   cases ok
   ·simp [h12,h11,hs10,hbx,mD hjz,hw,hv]
    refine ⟨hF.upd hcc (by omega),?_⟩
    rw [hInv]
    exact ⟨_,_,by simp,by simp [h12],hI⟩
   ·simp [h12,h11,hs10,hbx,mD hjz,hw1]
    refine ACalls.pure (ce _ _ _) fun c3 hc3=>?_
    simp [h12,h11,hs10,hbx,mD hjz,hw,hv]
    refine ⟨hF.upd hcc (by omega),?_⟩
    rw [hInv]
    rw [Bool.true_and] at hI
    exact ⟨IntKind.i64.wrap (IntKind.i64.wrap (n*a.sizes[j])+aH (aA e) f),decide (0≤aH (aA e) f∧aH (aA e) f≤a.sizes[j]-1),by simp,by simp,hI⟩
theorem _root_.Go.AM.retH_at {c0 g:Nat} {h0 h:Heap} (hg:g<c0):retH c0 h0 h g=h g:=if_pos hg
theorem _root_.Go.AM.retH_out {c0 g:Nat} {h0 h:Heap} (hk:∀ k,k<c0→k≠g→h k=h0 k):∀ k,k≠g→retH c0 h0 h k=h0 k:=fun k hkg=>by
 unfold retH; split
 ·exact hk k ‹_› hkg
 ·rfl
theorem jY (A:List Wb.Array) (φ:ByteArray→Int):∀ (a b:List Wb.Expr),(cy A φ (a++b)).1=(cy A φ a).1++(cy A φ b).1∧(cy A φ (a++b)).2=((cy A φ a).2&&(cy A φ b).2)
 | [],b=>by simp [cy]
 | x::a,b=>by
  obtain ⟨h1,h2⟩:=jY A φ a b
  simp [cy,h1,h2,Bool.and_assoc]
theorem tO (A:List Wb.Array) (hA:∀ a∈A,OkArray a) (S:List Wb.Step) (rounds:Int) (l:AV) (hl:l.cell=true) (fault:Int) (g:Nat) (e:Env) (he:d6 e) (ge:Nat):∀ (N:Nat) (x:Wb.Expr),SizeOf.sizeOf x≤N→eG A x→cr x≤4096→∀ (out:Bool) (h0:Heap) (c0:Nat),dj h0 g A S rounds l out fault→g<c0→dd h0 ge e→ge<c0→ge≠g →
  ACalls Pg Fn211.n [.ptr g 0 0,x.av,.map ge] ⟨h0,c0⟩ fun av s'=>av=row ((cC A (aA e) x).1.map Spot.cells)∧dj s'.h g A S rounds l (out||!(cC A (aA e) x).2) fault∧∀ k,k≠g→s'.h k=h0 k:=by
 intro N
 induction N with
 | zero=>intro x hx; obtain ⟨_,_,_,_,_,_⟩:=x; simp at hx
 | succ N ih=>
  intro x hx hok hnr out h0 c0 hg hgc hge hgec hgg
  obtain ⟨op,n,form,array,subs,args⟩:=x
  refine ACalls.small fun hsm=>?_
  rw [Expr.av_mk] at hsm ⊢
  have hlen:args.length≤68719476736:=by simp at hsm; omega
  refine Fn211.calls .frz ?_
  unfold Fn211.ac
  have hgc0:¬g=c0:=by omega
  have hcg0:¬c0=g:=by omega
  unfold dj at hg
  by_cases h3:op=3
  ·subst h3
   have hs:ej A array subs:=by
    simp only [eG] at hok
    rcases hok with hok | hok | hok | hok
    ·omega
    ·omega
    ·exact hok.2.2
    ·omega
   simp
   have hgx:dj (upd h0 c0 (some (.row 7 [[.int 3,.int n,.int form.const,row (form.terms.map Term.cells),.str array,row (subs.map Form.cells),row (args.map Expr.cells)]] .live none))) g A S rounds l out fault:=by unfold dj; rw [ad hgc0]; exact hg
   have hgy:dd (upd h0 c0 (some (.row 7 [[.int 3,.int n,.int form.const,row (form.terms.map Term.cells),.str array,row (subs.map Form.cells),row (args.map Expr.cells)]] .live none))) ge e:=by
    obtain ⟨ver,hge⟩:=hge
    exact ⟨ver,by rw [ad (by omega)]; exact hge⟩
   refine ACalls.at (pr A hA S rounds l out fault g array subs hs e he ge _ _ hgx (by omega) hgy (by omega)) fun c1 hc1=>?_
   have hgc1:¬g=c1:=by omega
   have hc1g:¬c1=g:=by omega
   simp [Spot.cells,hgc0,hgc1,hg]
   have hfin:∀ h1:Heap,h1 g=some (.row 6 [[row (A.map Array.cells),row (S.map Step.cells),.int rounds,l,.bool (out||!(bQ A (aA e) array subs).2),.int fault]] .live none)→(∀ k,k<c0→k≠g→h1 k=h0 k)→[[AV.str (bQ A (aA e) array subs).1.array,.int (bQ A (aA e) array subs).1.cell]]=List.map Spot.cells (cC A (aA e) (.mk 3 n form array subs args)).1∧dj (retH c0 h0 h1) g A S rounds l (out||!(cC A (aA e) (.mk 3 n form array subs args)).2) fault∧∀ k,k≠g→retH c0 h0 h1 k=h0 k:=by
    intro h1 e1 e2
    refine ⟨by simp [cC,Spot.cells],?_,retH_out e2⟩
    unfold dj
    rw [retH_at hgc,e1]; simp [cC]
   cases out
   ·simp [hg,hgc0,hgc1,hc1g,bsI,aw]
    exact hfin _ (by simp) fun k hk hkg=>by rw [ad hkg,ad (by omega),ad (by omega)]
   ·simp [hg,hgc0,hgc1,hc1g,bsI,aw]
    exact hfin _ (by simp) fun k hk hkg=>by rw [ad hkg,ad (by omega),ad (by omega)]
  ·have hoks:fH A args:=by
    simp only [eG] at hok
    rcases hok with hok | hok | hok | hok
    ·rw [hok.2.1]; trivial
    ·rw [hok.2.1]; trivial
    ·exact absurd hok.1 h3
    ·exact hok.2.2.2
   have hmem:∀ {l:List Wb.Expr},fH A l→∀ y∈l,eG A y:=by
    intro l
    induction l with
    | nil=>simp
    | cons y ys ih2=>
     intro h z hz
     simp only [fH] at h
     rcases List.mem_cons.1 hz with rfl | hz
     ·exact h.1
     ·exact ih2 h.2 z hz
   have hspec:cC A (aA e) (.mk op n form array subs args)=cy A (aA e) args:=by simp [cC,h3]
   rw [hspec]
   simp [h3]
   obtain ⟨Inv,hInv⟩:∃ Inv:Nat→List Wb.Expr→Slots→St→Prop,Inv=fun i r sl s'=>∃ (go:Nat) (sp:List Wb.Spot) (o:Bool),sl 9=.row go 2 0 sp.length∧c0<go∧go<s'.c∧s'.h go=some (.row 2 (sp.map Spot.cells) .live none)∧dj s'.h g A S rounds l o fault∧(∀ k,k<c0→k≠g→s'.h k=h0 k)∧sp=(cy A (aA e) (args.take i)).1∧o=(out||!(cy A (aA e) (args.take i)).2):=⟨_,rfl⟩
   refine bq 41 Fn211.W0 args Inv (by rfl) (by rfl) ?_ ?_ ?_
   ·rw [hInv]
    refine ⟨by simp,c0+1,[],out,by simp,by omega,by show c0+1<c0+1+1; omega,ah,?_,fun k hk hkg=>?_,by simp [cy],by simp [cy]⟩
    ·show upd (upd h0 c0 _) (c0+1) _ g=_
     rw [ad (by omega),ad (by omega)]; exact hg
    ·show upd (upd h0 c0 _) (c0+1) _ k=_
     rw [ad (by omega),ad (by omega)]
   ·intro v s' hv hI
    rw [hInv] at hI
    obtain ⟨go,sp,o,h9,i1,i2,i3,i4,i5,i6,i7⟩:=hI
    obtain ⟨h,c⟩:=s'
    simp at h9 i3 i6 i7
    simp only at i2 i4 i5
    have hgo:¬go=g:=by omega
    have htk:List.take sp.length (sp.map Spot.cells)=sp.map Spot.cells:=by rw [←List.length_map (f:=Spot.cells),List.take_length]
    simp [hv,h9,i3,htk]
    rw [←i6]
    refine ⟨?_,?_,?_⟩
    ·exact cI rP sp
    ·rw [i7] at i4
     unfold dj; rw [retH_at hgc,ad (Ne.symm hgo)]
     exact i4
    ·exact retH_out fun k hk hkg=>by rw [ad (by omega)]; exact i5 k hk hkg
   ·intro i x xs v s' hi hx2 hl2 hv hI
    rw [hInv] at hI
    obtain ⟨go,sp,o,h9,i1,i2,i3,i4,i5,i6,i7⟩:=hI
    obtain ⟨h,c⟩:=s'
    simp at h9
    simp only at i2 i3 i4 i5
    have hw:=ae (x:=(i:Int)+1) (by omega) (by omega)
    have hmx:x∈args:=aR hl2
    have hxok:=hmem hoks x hmx
    have hsz:SizeOf.sizeOf x≤N:=by
     have:=List.sizeOf_lt_of_mem hmx
     simp at hx; omega
    have hnr2:bM args=bM (args.take i)+(cr x+bM xs):=by
     conv=>lhs; rw [hl2]
     rw [jc]; rfl
    have hnr3:bM args≤4096:=by simpa [cr,h3] using hnr
    have hsl:sp.length=bM (args.take i):=by rw [i6,jZ]
    have htake:args.take (i+1)=args.take i++[x]:=by rw [List.take_add_one,List.getElem?_eq_getElem hi,hx2]; rfl
    have hc1:c0<c:=by omega
    have hwk:∀ B,dj (upd h c B) g A S rounds l o fault:=fun B=>by unfold dj; rw [ad (by omega)]; exact i4
    have hen:∀ B,dd (upd h c B) ge e:=fun B=>by
     obtain ⟨ver,hge⟩:=hge
     exact ⟨ver,by rw [ad (by omega),i5 ge hgec hgg]; exact hge⟩
    have hce:=fun B=>ih x hsz hxok (by omega) o (upd h c B) (c+1) (hwk B) (by omega) (hen B) (by omega) hgg
    obtain ⟨op2,n2,form2,array2,subs2,args2⟩:=x
    rw [Expr.av_mk] at hce
    simp [hv,hi,hx2,Expr.cells_mk]
    refine (hce _).mono ?_
    rintro av ⟨h2,c2⟩ hc2 ⟨rfl,j1,j2⟩
    simp only at hc2 j1 j2
    have hgo2:h2 go=some (.row 2 (sp.map Spot.cells) .live none):=by rw [j2 go (by omega),ad (by omega)]; exact i3
    have hap:=jo (sz:=2) (bytes:=24) (md:=.plain) (es:=sp.map Spot.cells) (xs:=(cC A (aA e) (.mk op2 n2 form2 array2 subs2 args2)).1.map Spot.cells) (b:=false) (len:=sp.length) (s:=⟨h2,c2⟩) (by simp) hgo2 (by simp) (by decide) (by decide) (by decide) (fun y hy=>by obtain ⟨t,_,rfl⟩:=List.mem_map.1 hy; rfl) (by simp [ii]; omega)
    simp only [row] at hap ⊢
    simp [h9,hap,hw,hv]
    rw [hInv]
    refine ⟨c2,sp++(cC A (aA e) (.mk op2 n2 form2 array2 subs2 args2)).1,o||!(cC A (aA e) (.mk op2 n2 form2 array2 subs2 args2)).2,by simp,by omega,by show c2<c2+1; omega,?_,?_,fun k hk hkg=>?_,?_,?_⟩
    ·show upd (upd h2 go _) c2 _ c2=_
     rw [ah,List.map_append]
    ·show upd (upd h2 go _) c2 _ g=_
     rw [ad (by omega),ad (by omega)]; exact j1
    ·show upd (upd h2 go _) c2 _ k=_
     rw [ad (by omega),ad (by omega),j2 k hkg,ad (by omega)]; exact i5 k hk hkg
    ·rw [htake,(jY A (aA e) _ _).1,←i6]; simp [cy]
    ·rw [htake,(jY A (aA e) _ _).2,i7]
     simp [cy,Bool.or_assoc]
end Go.Proofs.YtjhogglgkjcacaaGreat
set_option maxRecDepth 20000
set_option maxHeartbeats 4000000
namespace Go.Proofs.YtjhogglgkjcacaaGreat
open Go.AM Go.Wb
theorem uf (l:List Wb.Form) (f:Nat) (a b:List AV) (p:Wb.Form→Bool) (h:Heap) (c:Nat) (hp:ml f a b Wb.Form.av h c p l) :
  ACalls Pg Fn282.n [row (l.map Form.cells),.fn (.func f) a b] ⟨h,c⟩ fun av s'=>av=.int (aS p l 0)∧s'.h=h:=by
 refine ACalls.small fun hs=>?_
 have hlen:l.length≤68719476736:=by simpa using hs.1.1
 refine Fn282.calls .frz ?_
 unfold Fn282.ac
 simp
 refine bT 8 Fn282.W0 l (fun i r sl=>aS p l 0=aS p r i) (by rfl) (by rfl) ?_ ?_ ?_
 ·simp
 ·intro v c1 hv hc hI
  simp [hv,hI,aS]
 ·intro i x xs v c1 hi hx hl hv hc hI
  have hw:=ae (x:=(i:Int)+1) (by omega) (by omega)
  simp [hv,hi,hx,Form.cells]
  refine ACalls.at (hp x (aR hl) c1 hc) fun c2 hc2=>?_
  by_cases hpx:p x=true
  ·simp [hpx,hI,aS]
  ·simp [hpx,hv,hw,hI,aS]; omega
theorem tL (l:List Wb.Form) (f:Nat) (a b:List AV) (p:Wb.Form→Bool) (h:Heap) (c:Nat) (hp:ml f a b Wb.Form.av h c p l) :
  ACalls Pg Fn206.n [row (l.map Form.cells),.fn (.func f) a b] ⟨h,c⟩ fun av s'=>av=.bool (l.any p)∧s'.h=h:=by
 refine Fn206.calls .frz ?_
 unfold Fn206.ac
 simp
 refine ACalls.at (uf l f a b p h c hp) fun c2 hc2=>?_
 simp [ra]
def jQ (L:List Int) (c0:Nat) (h0:Heap) (av:AV) (s':St):Prop:=
 Fr c0 h0 s'.h s'.c∧((av=.sl [] true∧L=[])∨∃ g,c0≤g∧g<s'.c∧av=.row g 1 0 L.length∧s'.h g=some (.row 1 (ak L) .live none))
theorem pq (L:List Int) (h0:Heap) (c0:Nat):ACalls Pg Fn185.n [row (ak L)] ⟨h0,c0⟩ (jQ L c0 h0):=by
 refine ACalls.small fun hs=>?_
 have hlen:L.length≤68719476736:=by simpa [ak] using hs.1.1
 refine Fn185.calls .keep ?_
 unfold Fn185.ac
 simp
 refine lE (fun h=>?_) ?_
 ·have hL:L=[]:=by simpa [ak] using h
  simp [jQ,hL]
  exact Fr.refl _ _
 ·simp [bsI,aw]
  have hap:=cZ (sz:=1) (bytes:=8) (md:=.plain) (es:=[]) (xs:=ak L) (b:=false) (s:=⟨h0,c0⟩) (by decide) (by decide) (by decide) (by simp) (fun e he=>by
   obtain ⟨x,_,rfl⟩:=List.mem_map.1 he; rfl) (by simpa [ak] using hlen) (.inr rfl)
  have hsl:(ak L).length=L.length:=by simp [ak]
  simp [hap,jQ,hsl]
  exact ⟨(Fr.refl h0 c0).upd (Nat.le_refl _) (Nat.le_succ _),c0,Nat.le_refl _,Nat.lt_succ_self _,rfl,by simp⟩
theorem mW {L:List Int} {c4 c5:Nat} {h1 h2:Heap} {av:AV} (hF1:Fr c4 h1 h2 c5) (hav:(av=.sl [] true∧L=[])∨∃ g,c4≤g∧g<c5∧av=.row g 1 0 L.length∧h2 g=some (.row 1 (ak L) .live none)) (name:Int) (hL:(L.length:Int)≤1000000) :
  ∃ g2 c6 h3,apI 1 8 .fz av (.sl [[.int name]] true) ⟨h2,c5⟩=some (.row g2 1 0 (L.length+1),⟨h3,c6⟩)∧h3 g2=some (.row 1 (ak (L++[name])) .live none)∧Fr c4 h1 h3 c6∧c4≤g2:=by
 have hs:ak (L++[name])=ak L++[[.int name]]:=by simp [ak]
 have hcc:=hF1.c
 rcases hav with ⟨rfl,rfl⟩ | ⟨g,hg,hgc,rfl,hh⟩
 ·have:=cZ (sz:=1) (bytes:=8) (md:=.fz) (es:=[]) (xs:=[[.int name]]) (b:=true) (s:=⟨h2,c5⟩) (by decide) (by decide) (by decide) (by simp) (fun e he=>by simp at he; subst he; rfl) (by simp) (.inr rfl)
  exact ⟨c5,c5+1,_,this,by simp [ak],hF1.upd hcc (Nat.le_succ _),hcc⟩
 ·have:=bV (sz:=1) (bytes:=8) (len:=L.length) (md:=.fz) (x:=[.int name]) (b:=true) (s:=⟨h2,c5⟩) (by simp) hh (by simp [ak]) (by decide) (by decide) (by decide) rfl (by omega)
  exact ⟨c5,c5+1,_,this,by rw [hs]; simp,(hF1.upd hg (Nat.le_refl _)).upd hcc (Nat.le_succ _),hcc⟩
@[simp] theorem _root_.Go.AM.finW_fz_re {P:Program} {d:Option Nat} {q:Nat×Option (Nat×Bool)×I} {re:List (Nat×Option (Nat×Bool)×I)} {r:List AO} {K:Slots→St→Prop} {sl:Slots} {v:AV} {s:St} :
  aZ P d .fz (q::re) r K sl v s=@dr (fzI v s) ⟨fun v' s'=>(∀ x∈q::re,eA x sl s')∧aN P r K (put sl d v') s'⟩:=Eq.trans rfl rfl
theorem tM (f:Wb.Form) (hf:OkForm f) (e:Env) (he:d6 e) (g gb:Nat) (h0:Heap) (c0:Nat) (hb:h0 gb=some (.row 1 [[.map g]] .live none)) (hgb:gb<c0) (hg:dd h0 g e) (hgc:g<c0) :
  ACalls Pg Fn207.n [f.av,.ptr gb 0 0] ⟨h0,c0⟩ fun av s'=>av=.bool (decide (aH (aA e) f<0))∧s'.h=h0:=by
 refine Fn207.calls .frz ?_
 unfold Fn207.ac
 have h1:¬gb=c0:=by omega
 simp [Form.av,Form.cells,hb,h1]
 have hg':dd (upd h0 c0 (some (.row 2 [[.int f.const,row (f.terms.map Term.cells)]] .live none))) g e:=by
  obtain ⟨ver,hg⟩:=hg
  exact ⟨ver,by rw [ad (by omega)]; exact hg⟩
 refine ACalls.at (jG f hf e he g _ _ hg' (by omega)) fun c2 hc2=>?_
 simp
def eJ (A:List Wb.Array) (i:Inst) (ge:Nat):List AV:=
 [.str (Step.name i.step),row (ak (i.env.map (·.2)))]++i.step.cells++[.map ge,row ((i.reads A).map Spot.cells),.str (i.sets A).array,.int (i.sets A).cell,row (ak i.way)]
def UsesAt (h:Heap) (c:Nat) (A:List Wb.Array) (x:AV) (l:List Inst):Prop:=
 ∃ es,RowAt h 22 x es∧es.length=l.length∧∀ (k:Nat) (e:List AV) (i:Inst),es[k]?=some e→l[k]?=some i→∃ ge,ge<c∧dd h ge i.env∧e=eJ A i ge
structure WInv (h:Heap) (c g:Nat) (A:List Wb.Array) (S:List Wb.Step) (lx:AV) (fault:Int) (s:RS):Prop where
 at_:dj h g A S s.rounds lx (s.l.any fun i=>!i.ok A) fault
 uses:UsesAt h c A lx s.l
 row:∀ k,an lx k→k<c∧k≠g
 gc:g<c
 len:s.l.length≤50000
 rounds:0≤s.rounds∧s.rounds≤200001∧(fault=0→s.rounds≤200000)
theorem UsesAt.frame {h h':Heap} {c c':Nat} {A:List Wb.Array} {x:AV} {l:List Inst} (u:UsesAt h c A x l) (hc:c≤c') (hh:∀ k,(an x k∨(k<c∧∃ kv ver,h k=some (.map kv ver)))→h' k=h k):UsesAt h' c' A x l:=by
 obtain ⟨es,h1,h2,h3⟩:=u
 refine ⟨es,h1.frame fun k hk=>hh k (.inl hk),h2,fun k e i he hi=>?_⟩
 obtain ⟨ge,g1,⟨ver,g2⟩,g3⟩:=h3 k e i he hi
 exact ⟨ge,by omega,⟨ver,(hh ge (.inr ⟨g1,_,_,g2⟩)).trans g2⟩,g3⟩
theorem WInv.frame {h h':Heap} {c c' g:Nat} {A:List Wb.Array} {S:List Wb.Step} {lx:AV} {fault:Int} {s:RS} (w:WInv h c g A S lx fault s) (hc:c≤c') (hh:∀ k,k<c→h' k=h k):WInv h' c' g A S lx fault s:=
 ⟨by unfold dj; rw [hh g w.gc]; exact w.at_,w.uses.frame hc fun k hk=>hh k (hk.elim (fun h=>(w.row k h).1) fun h=>h.1),fun k hk=>⟨by have:=w.row k hk; omega,(w.row k hk).2⟩,by have:=w.gc; omega,w.len,w.rounds⟩
theorem WInv.cell {h:Heap} {c g:Nat} {A:List Wb.Array} {S:List Wb.Step} {lx:AV} {fault:Int} {s:RS} (w:WInv h c g A S lx fault s):lx.cell=true:=by
 obtain ⟨es,h1,_⟩:=w.uses; exact h1.cell
structure WFp (c0 g:Nat) (lx lx':AV) (h0 h:Heap):Prop where
 same:∀ k,k<c0→k≠g→¬an lx k→h k=h0 k
 rows:∀ k,an lx' k→an lx k∨c0≤k
theorem WFp.trans {c0 c1 g:Nat} {a b d:AV} {h0 h1 h2:Heap} (x:WFp c0 g a b h0 h1) (y:WFp c1 g b d h1 h2) (hc:c0≤c1):WFp c0 g a d h0 h2:=
 ⟨fun k hk hkg hka=>by
  rw [y.same k (by omega) hkg fun hb=>(x.rows k hb).elim hka fun h=>by omega]; exact x.same k hk hkg hka,
  fun k hk=>(y.rows k hk).elim (x.rows k) fun h=>.inr (by omega)⟩
theorem WFp.ext {c0 c1 g:Nat} {a b:AV} {h0 h1 h2:Heap} (x:WFp c0 g a b h0 h1) (hh:∀ k,k<c1→h2 k=h1 k) (hc:c0≤c1):WFp c0 g a b h0 h2:=
 ⟨fun k hk hkg hka=>by rw [hh k (by omega)]; exact x.same k hk hkg hka,x.rows⟩
theorem WFp.refl {c0 g:Nat} {a:AV} {h:Heap}:WFp c0 g a a h h:=⟨fun _ _ _ _=>rfl,fun _ h=>.inl h⟩
theorem WInv.set {h:Heap} {c g:Nat} {A:List Wb.Array} {S:List Wb.Step} {lx:AV} {fault:Int} {s:RS} (w:WInv h c g A S lx fault s) (r f:Int) (hr:0≤r∧r≤200001∧(f=0→r≤200000)) :
  WInv (upd h g (some (.row 6 [[.sl (A.map Array.cells) false,.sl (S.map Step.cells) false,.int r,lx,.bool (s.l.any fun i=>!i.ok A),.int f]] .live none))) c g A S lx f ⟨r,s.l⟩:=by
 have hat:=w.at_
 refine ⟨ah,w.uses.frame (Nat.le_refl _) fun k hk=>ad ?_,w.row,w.gc,w.len,hr⟩
 rintro rfl
 rcases hk with hk | ⟨_,kv,ver,hk⟩
 ·exact (w.row k hk).2 rfl
 ·unfold dj at hat; rw [hk] at hat; cases hat
theorem WFp.self {c0 g:Nat} {lx:AV} {h0 h:Heap} {b:Option Body} {lx':AV} (x:WFp c0 g lx lx' h0 h):WFp c0 g lx lx' h0 (AM.upd h g b):=
 ⟨fun k hk hkg hka=>by rw [ad hkg]; exact x.same k hk hkg hka,x.rows⟩
theorem uR {e:Env} {name:ByteArray} {v:Int} (h:inL name (e.map (·.1))=false):dC e name v=e++[(name,v)]:=by
 induction e with
 | nil=>rfl
 | cons p e ih=>
  simp [inL] at h
  simp only [dC,if_neg h.1]
  rw [ih (by simp [inL]; exact h.2)]; rfl
theorem tu (A:List Wb.Array) (hA:∀ a∈A,OkArray a) (S:List Wb.Step) (gw:Nat):∀ (N:Nat) (l:List Wb.Step),az l≤N→∀ (num:Nat) (e:Env) (way:List Int) (s:RS) (lx:AV) (ge:Nat) (h0:Heap) (c0:Nat),
  cP A (e.map (·.1)) l→d6 e→e.length+N≤100000→way.length+N≤100000→WInv h0 c0 gw A S lx 0 s→dd h0 ge e→ge<c0→ge≠gw →
  ACalls Pg Fn145.n [.ptr gw 0 0,row (l.map Step.cells),.map ge,row (ak (e.map (·.2))),row (ak way)] ⟨h0,c0⟩ fun av s'=>∃ lx',av=.bool (decide ((aU num e way 0 l s).1=0))∧WInv s'.h s'.c gw A S lx' (aU num e way 0 l s).1 (aU num e way 0 l s).2∧WFp c0 gw lx lx' h0 s'.h:=by
 intro N
 induction N with
 | zero=>
  intro l hl
  have:l=[]:=by
   cases l with
   | nil=>rfl
   | cons x xs=>obtain ⟨_,_,_,_,_,body,_,_,_⟩:=x; simp [az,count] at hl
  subst this
  intro num e way s lx ge h0 c0 hok he hel hwl hw hge hgec hgg
  refine Fn145.calls .keep ?_
  unfold Fn145.ac
  simp
  refine bq 23 Fn145.W0 ([]:List Wb.Step) (fun i r sl s'=>s'=⟨upd h0 c0 (some (.row 1 [[.map ge]] .live none)),c0+1⟩) (by rfl) (by rfl) ?_ ?_ ?_
  ·simp
  ·intro v s' hv hI
   simp at hv
   subst hI
   simp [hv,aU]
   exact ⟨lx,hw.frame (by omega) fun k hk=>ad (by omega),WFp.refl.ext (c1:=c0) (fun k hk=>ad (by omega)) (Nat.le_refl _)⟩
  ·intro i x xs v s' hi; simp at hi
 | succ N ih=>
  intro l hl num e way s lx ge h0 c0 hok he hel hwl hw hge hgec hgg
  refine ACalls.small fun hsm=>?_
  have hlen:l.length≤68719476736:=by simp at hsm; omega
  refine Fn145.calls .keep ?_
  unfold Fn145.ac
  simp
  have hgwc:=hw.gc
  obtain ⟨Inv,hInv⟩:∃ Inv:Nat→List Wb.Step→Slots→St→Prop,Inv=fun i r sl s'=>∃ (s1:RS) (lx1:AV) (num1:Nat),WInv s'.h s'.c gw A S lx1 0 s1∧WFp c0 gw lx lx1 h0 s'.h∧(∀ k,an lx1 k→an lx k∨c0<k)∧s'.h c0=some (.row 1 [[.map ge]] .live none)∧c0<s'.c∧aU num e way 0 l s=aU num1 e way i r s1:=⟨_,rfl⟩
  refine bq 23 Fn145.W0 l Inv (by rfl) (by rfl) ?_ ?_ ?_
  ·rw [hInv]
   exact ⟨by simp,s,lx,num,hw.frame (by show c0≤c0+1; omega) fun k hk=>ad (by omega),WFp.refl.ext (c1:=c0) (fun k hk=>ad (by omega)) (Nat.le_refl _),fun k hk=>.inl hk,ah,by show c0<c0+1; omega,rfl⟩
  ·intro v s' hv hI
   rw [hInv] at hI
   obtain ⟨s1,lx1,num1,i1,i2,i3,i4,i5,i6⟩:=hI
   have hr:aU num e way 0 l s=(0,s1):=by rw [i6]; rfl
   simp [hv,hr]
   exact ⟨lx1,i1,i2⟩
  ·intro i x xs v s' hi hx hl2 hv hI
   rw [hInv] at hI
   obtain ⟨s1,lx1,num1,i1,i2,i3,i4,i5,i6⟩:=hI
   obtain ⟨h,c⟩:=s'
   simp only at i1 i2 i4 i5
   have hwi:=ae (x:=(i:Int)+1) (by omega) (by omega)
   have hxok:=jd hok x (aR hl2)
   have hcut:=d9 hl2
   obtain ⟨kind,name,low,high,conds,body,array,subs,⟨op,n,form,ea,es,args⟩⟩:=x
   have hbody:az body≤N:=by simp [count] at hcut; omega
   have hlenw:(way.length:Int)≤1000000:=by omega
   obtain ⟨h1,hh1⟩:∃ h1,h1=upd h c (some (.row 15 [(Wb.Step.mk kind name low high conds body array subs (.mk op n form ea es args)).cells] .live none)):=⟨_,rfl⟩
   simp [hv,hi,hx,Step.cells_mk]
   rw [Step.cells_mk] at hh1
   rw [←hh1]
   refine (pq way h1 (c+1)).mono ?_
   rintro av ⟨h2,c2⟩ hc2 ⟨hF2,hav2⟩
   simp only at hc2 hF2 hav2
   obtain ⟨g3,c3,h3,hap3,hg3,hF3,hg3c⟩:=mW hF2 hav2 (i:Int) hlenw
   have hsl3:(ak (way++[(i:Int)])).length=way.length+1:=by simp [ak]
   have hfz3:=cQ (s:=⟨h3,c3⟩) (z:=1) hg3 hsl3
   obtain ⟨h4,hh4⟩:∃ h4,h4=upd h3 g3 (some (.row 1 (ak (way++[(i:Int)])) .frz none)):=⟨_,rfl⟩
   have hF4:Fr (c+1) h1 h4 c3:=by rw [hh4]; exact hF3.upd hg3c (Nat.le_refl _)
   have hcc:=hF4.c
   have hlow:∀ k,k<c→h4 k=h k:=fun k hk=>by rw [hF4.h k (by omega),hh1,ad (by omega)]
   have hbox:h4 c=some (.row 15 [[.int kind,.str name,row (low.map Bound.cells),row (high.map Bound.cells),row (conds.map Form.cells),row (body.map Step.cells),.str array,row (subs.map Form.cells),.int op,.int n,.int form.const,row (form.terms.map Term.cells),.str ea,row (es.map Form.cells),row (args.map Expr.cells)]] .live none):=by rw [hF4.h c (by omega),hh1,ah]
   have hbe:h4 c0=some (.row 1 [[.map ge]] .live none):=(hlow c0 (by omega)).trans i4
   have hw4:WInv h4 c3 gw A S lx1 0 s1:=i1.frame (by omega) hlow
   have hge4:dd h4 ge e:=by
    obtain ⟨ver,hge⟩:=hge
    refine ⟨ver,?_⟩
    rw [hlow ge (by omega),i2.same ge hgec hgg ?_]
    ·exact hge
    ·intro hr
     obtain ⟨es',h1',_⟩:=hw.uses
     rcases h1' with ⟨e1,_⟩ | ⟨g',e1,e2⟩
     ·rw [e1] at hr; exact aK hr
     ·rw [e1] at hr; have:=au.1 hr; subst this; rw [hge] at e2; cases e2
   have hfp4:WFp c0 gw lx lx1 h0 h4:=i2.ext hlow (by omega)
   simp [hbox,bsI,aw,hap3,hfz3,-dE,←hh4]
   obtain ⟨X,hX⟩:∃ X:Wb.Step,X=.mk kind name low high conds body array subs (.mk op n form ea es args):=⟨_,rfl⟩
   rw [←hX] at hxok i6 hl2
   have hnc0:∀ k,k<c3→k≠gw→¬an lx1 k→True:=fun _ _ _ _=>trivial
   have hc0r:¬an lx1 c0:=fun hr=>by
    rcases i3 c0 hr with hr | hr
    ·have:=(hw.row c0 hr).1; omega
    ·omega
   have hcont:∀ h5 c5 lx5 s5,c3≤c5→WInv h5 c5 gw A S lx5 0 s5→WFp c3 gw lx1 lx5 h4 h5→bD num1 e (way++[(i:Int)]) X s1=(0,s5)→∀ sl',Inv (i+1) xs sl' ⟨h5,c5⟩:=by
    intro h5 c5 lx5 s5 hc5 hw5 hf5 hr5 sl'
    rw [hInv]
    refine ⟨s5,lx5,num1+cW X,hw5,hfp4.trans hf5 (by omega),fun k hk=>?_,?_,by show c0<c5; omega,?_⟩
    ·rcases hf5.rows k hk with hk | hk
     ·exact i3 k hk
     ·exact .inr (by omega)
    ·exact (hf5.same c0 (by omega) (by omega) hc0r).trans hbe
    ·rw [i6]; simp only [aU,hr5,if_true]
   have hfail:∀ h5 c5 lx5 f s5,c3≤c5→f≠0→WInv h5 c5 gw A S lx5 f s5→WFp c3 gw lx1 lx5 h4 h5→bD num1 e (way++[(i:Int)]) X s1=(f,s5) →
     ¬(aU num e way 0 l s).1=0∧∃ lx',WInv h5 c5 gw A S lx' (aU num e way 0 l s).1 (aU num e way 0 l s).2∧WFp c0 gw lx lx' h0 h5:=by
    intro h5 c5 lx5 f s5 hc5 hf0 hw5 hf5 hr5
    have hr:aU num e way 0 l s=(f,s5):=by rw [i6]; simp [aU,hr5,hf0]
    rw [hr]
    exact ⟨hf0,lx5,hw5,hfp4.trans hf5 (by omega)⟩
   rw [hX] at hxok
   by_cases k2:kind=2
   ·subst k2
    have hok2:(∀ f∈conds,OkForm f)∧cP A (e.map (·.1)) body:=by
     simp only [dV] at hxok
     rcases hxok with hx | hx | hx
     ·exact absurd hx.1 (by decide)
     ·exact hx.2
     ·exact absurd hx.1 (by decide)
    have hrun:bD num1 e (way++[(i:Int)]) X s1=if conds.all (fun f=>decide (0≤aH (aA e) f))=true then aU num1 e (way++[(i:Int)]) 0 body s1 else (0,s1):=by rw [hX]; simp [bD]
    simp [hbox]
    have hcl:ml Fn207.n [] [.ptr c0 0 0] Wb.Form.av h4 c3 (fun f=>decide (aH (aA e) f<0)) conds:=fun f hf c' hc'=>tM f (hok2.1 f hf) e he ge c0 h4 c' hbe (by omega) hge4 (by omega)
    refine ACalls.at (tL conds _ _ _ _ h4 c3 hcl) fun c4 hc4=>?_
    by_cases hall:conds.all (fun f=>decide (0≤aH (aA e) f))=true
    ·have hany:conds.any (fun f=>decide (aH (aA e) f<0))=false:=by
      rw [List.any_eq_false]
      intro f hf
      have:=List.all_eq_true.1 hall f hf
      simp at this ⊢; omega
     rw [if_pos hall] at hrun
     simp [hany,hbox,hbe]
     have hstep:=ih body hbody num1 e (way++[(i:Int)]) s1 lx1 ge h4 c4 hok2.2 he (by omega) (by simp; omega) (hw4.frame (by omega) fun _ _=>rfl) hge4 (by omega) hgg
     refine hstep.mono ?_
     rintro av ⟨h5,c5⟩ hc5 ⟨lx5,rfl,j1,j2⟩
     simp only at hc5 j1 j2
     have j2':WFp c3 gw lx1 lx5 h4 h5:=⟨fun k hk a b=>j2.same k (by omega) a b,fun k hk=>(j2.rows k hk).imp id fun h=>by omega⟩
     by_cases hz:(aU num1 e (way++[(i:Int)]) 0 body s1).1=0
     ·simp [hz,hv,hwi]
      rw [hz] at j1
      exact hcont h5 c5 lx5 _ (by omega) j1 j2' (by rw [hrun]; exact Prod.ext hz rfl) _
     ·simp [hz]
      exact hfail h5 c5 lx5 _ _ (by omega) hz j1 j2' hrun
    ·have hany:conds.any (fun f=>decide (aH (aA e) f<0))=true:=by
      rw [List.any_eq_true]
      have:¬∀ f∈conds,decide (0≤aH (aA e) f)=true:=fun h=>hall (List.all_eq_true.2 h)
      refine Classical.byContradiction fun h=>this fun f hf=>?_
      refine Classical.byContradiction fun h2=>h ⟨f,hf,?_⟩
      simp at h2 ⊢; omega
     rw [if_neg hall] at hrun
     simp [hany,hv,hwi]
     exact hcont h4 c4 lx1 s1 (by omega) (hw4.frame (by omega) fun _ _=>rfl) WFp.refl hrun _
   by_cases k1:kind=1
   ·subst k1
    have hok1:inL name (e.map (·.1))=false∧low≠[]∧high≠[]∧(∀ b∈low,cw b)∧(∀ b∈high,cw b)∧cP A (e.map (·.1)++[name]) body:=by
     simp only [dV] at hxok
     rcases hxok with hx | hx | hx
     ·exact hx.2
     ·exact absurd hx.1 (by decide)
     ·exact absurd hx.1 (by decide)
    obtain ⟨hnm,hl0,hh0,hlb,hhb,hbd⟩:=hok1
    have hends:=tN (.mk 1 name low high conds body array subs (.mk op n form ea es args)) low high ⟨_,_,_,_,_,_,_,rfl⟩ hlb hhb hl0 hh0 e he ge h4 c3 hge4 (by omega)
    rw [Step.av_mk] at hends
    simp [hbox,hbe]
    refine ACalls.at hends fun c4 hc4=>?_
    have hlo:=lT (cB he) hlb
    have hhi:=kN (cB he) hhb
    obtain ⟨lo,hlo'⟩:∃ lo,lo=eg (aA e) low:=⟨_,rfl⟩
    obtain ⟨hi',hhi'⟩:∃ hi',hi'=ei (aA e) high:=⟨_,rfl⟩
    obtain ⟨F,hF⟩:∃ F:Int→RS→Int×RS,F=fun v s=>aU num1 (e++[(name,v)]) (way++[(i:Int)]) 0 body s:=⟨_,rfl⟩
    have hrun:bD num1 e (way++[(i:Int)]) X s1=cj F (hi'-lo+1).toNat lo s1:=by rw [hX,hlo',hhi',hF]; simp [bD]
    rw [←hlo'] at hlo
    rw [←hhi'] at hhi
    simp [←hlo',←hhi']
    have hcr:¬an lx1 c:=fun hr=>by have:=(i1.row c hr).1; omega
    obtain ⟨Inv2,hInv2⟩:∃ Inv:Nat→Slots→St→Prop,Inv=fun (m:Nat) sl s'=>∃ (v:Int) (s2:RS) (lx2:AV),sl 16=.int v∧m=(hi'-v+1).toNat ∧ -12001000000≤v∧v≤12001000001∧WInv s'.h s'.c gw A S lx2 0 s2∧WFp c3 gw lx1 lx2 h4 s'.h∧c3≤s'.c∧bD num1 e (way++[(i:Int)]) X s1=cj F m v s2:=⟨_,rfl⟩
    refine co Fn145.W1 (by rfl) Inv2 (hi'-lo+1).toNat ?_ ?_
    ·rw [hInv2]
     exact ⟨lo,s1,lx1,by simp,rfl,by omega,by omega,hw4.frame (by show c3≤c4; omega) fun _ _=>rfl,WFp.refl,by show c3≤c4; omega,hrun⟩
    ·intro m v' s' hI
     rw [hInv2] at hI
     obtain ⟨vv,s2,lx2,q1,q2,q3,q4,q5,q6,q7,q8⟩:=hI
     obtain ⟨h5,c5⟩:=s'
     simp at q1
     simp only at q5 q6 q7
     have hbe5:h5 c0=some (.row 1 [[.map ge]] .live none):=(q6.same c0 (by omega) (by omega) hc0r).trans hbe
     have hbox5:=(q6.same c (by omega) (by omega) hcr).trans hbox
     by_cases hle:vv≤hi'
     case neg=>
      have hm0:m=0:=by omega
      subst hm0
      simp [q1,hle,hv,hwi]
      exact hcont h5 c5 lx2 s2 q7 q5 q6 q8 _
     obtain ⟨m',rfl⟩:∃ m',m=m'+1:=⟨m-1,by omega⟩
     have hat5:=q5.at_
     unfold dj at hat5
     have hrd:=q5.rounds
     simp [q1,hle]
     refine ACalls.pure (ce _ _ _) fun c6 hc6=>?_
     by_cases hin:-1000000≤vv∧vv≤1000000
     case neg=>
      simp [hin,hat5]
      refine hfail _ c6 lx2 1 s2 (by omega) (by decide) ((q5.set s2.rounds 1 ⟨hrd.1,hrd.2.1,fun h=>by cases h⟩).frame hc6 fun _ _=>rfl) q6.self ?_
      rw [q8]; simp only [cj]; rw [if_pos hin]
     have hw1:=ae (x:=s2.rounds+1) (by omega) (by omega)
     simp [hin,hat5,hw1]
     have hrd3:=hrd.2.2 rfl
     have hgc0:¬c0=gw:=by omega
     by_cases hr2:200000<s2.rounds+1
     ·simp [hr2]
      refine hfail _ c6 lx2 12 ⟨s2.rounds+1,s2.l⟩ (by omega) (by decide) ((q5.set (s2.rounds+1) 12 ⟨by omega,by omega,fun h=>by cases h⟩).frame hc6 fun _ _=>rfl) q6.self ?_
      rw [q8]; simp only [cj]; rw [if_neg (not_not_intro hin),if_pos hr2]
     simp [hr2,hbe5,hgc0]
     obtain ⟨h6,hh6⟩:∃ h6,h6=upd h5 gw (some (.row 6 [[.sl (A.map Array.cells) false,.sl (S.map Step.cells) false,.int (s2.rounds+1),lx2,.bool (s2.l.any fun i=>!i.ok A),.int 0]] .live none)):=⟨_,rfl⟩
     have hw6:WInv h6 c6 gw A S lx2 0 ⟨s2.rounds+1,s2.l⟩:=by rw [hh6]; exact (q5.set (s2.rounds+1) 0 ⟨by omega,by omega,fun _=>by omega⟩).frame hc6 fun _ _=>rfl
     have hf6:WFp c3 gw lx1 lx2 h4 h6:=by rw [hh6]; exact q6.self
     have hgel:¬an lx1 ge:=fun hr=>by
      obtain ⟨es',h1',_⟩:=hw4.uses
      obtain ⟨ver,hge4⟩:=hge4
      rcases h1' with ⟨e1,_⟩ | ⟨g',e1,e2⟩
      ·rw [e1] at hr; exact aK hr
      ·rw [e1] at hr; have:=au.1 hr; subst this; rw [hge4] at e2; cases e2
     obtain ⟨ver,hgev⟩:=hge4
     have hge6:h6 ge=some (.map (kvs AV.str AV.int e) ver):=(hf6.same ge (by omega) hgg hgel).trans hgev
     have hbe6:h6 c0=some (.row 1 [[.map ge]] .live none):=(hf6.same c0 (by omega) (by omega) hc0r).trans hbe
     have hbox6:=(hf6.same c (by omega) (by omega) hcr).trans hbox
     rw [←hh6]
     refine (oV ge _ ver h6 c6 hge6).mono ?_
     rintro av s7 hc7 ⟨rfl,rfl⟩
     have hmu:=jx ew (f:=AV.int) (g:=c6) (ver:=c6) (m:=e) (s:=⟨upd h6 c6 (some (.map (kvs AV.str AV.int e) c6)),c6+1⟩) ah name vv
     rw [uR hnm] at hmu
     have hcc6:¬c=c6:=by omega
     simp [hbox6,hcc6,q1,hmu]
     obtain ⟨h7,hh7⟩:∃ h7,h7=upd h6 c6 (some (.map (kvs AV.str AV.int (e++[(name,vv)])) (c6+1))):=⟨_,rfl⟩
     have hlow7:∀ k,k<c6→h7 k=h6 k:=fun k hk=>by rw [hh7,ad (by omega)]
     rw [←hh7]
     have hlenv:((e.map (·.2)).length:Int)≤1000000:=by simp; omega
     have hbox7:=(hlow7 c (by omega)).trans hbox6
     simp [hbox7,bsI,aw,q1]
     refine (pq (e.map (·.2)) h7 (c6+1+1)).mono ?_
     rintro av ⟨h8,c8⟩ hc8 ⟨hF8,hav8⟩
     simp only at hc8 hF8 hav8
     obtain ⟨g9,c9,h9,hap9,hg9,hF9,hg9c⟩:=mW hF8 hav8 vv hlenv
     have hsl9:(ak (e.map (·.2)++[vv])).length=(e.map (·.2)).length+1:=by simp [ak]
     have hfz9:=cQ (s:=⟨h9,c9⟩) (z:=1) hg9 hsl9
     obtain ⟨h10,hh10⟩:∃ h10,h10=upd h9 g9 (some (.row 1 (ak (e.map (·.2)++[vv])) .frz none)):=⟨_,rfl⟩
     have hF10:Fr (c6+1+1) h7 h10 c9:=by rw [hh10]; exact hF9.upd hg9c (Nat.le_refl _)
     have hc9:=hF10.c
     have hbox8:=(hF8.h c (by omega)).trans hbox7
     have hbox10:=(hF10.h c (by omega)).trans hbox7
     have hlow10:∀ k,k<c6→h10 k=h6 k:=fun k hk=>(hF10.h k (by omega)).trans (hlow7 k hk)
     rw [List.length_map] at hap9 hfz9
     simp [hbox7,hbox8,q1,bsI,aw,hap9,hfz9,-dE,←hh10,hbox10]
     have hen10:dd h10 c6 (e++[(name,vv)]):=⟨_,by rw [hF10.h c6 (by omega),hh7,ah]⟩
     have hw10:WInv h10 c9 gw A S lx2 0 ⟨s2.rounds+1,s2.l⟩:=hw6.frame (by omega) hlow10
     have heok:d6 (e++[(name,vv)]):=fun p hp=>by
      rcases List.mem_append.1 hp with hp | hp
      ·exact he p hp
      ·simp at hp; subst hp; exact hin
     have hstep:=ih body hbody num1 (e++[(name,vv)]) (way++[(i:Int)]) ⟨s2.rounds+1,s2.l⟩ lx2 c6 h10 c9 (by rw [List.map_append]; exact hbd) heok (by simp; omega) (by simp; omega) hw10 hen10 (by omega) (by omega)
     rw [List.map_append] at hstep
     refine hstep.mono ?_
     rintro av ⟨h11,c11⟩ hc11 ⟨lx11,rfl,j1,j2⟩
     simp only at hc11 j1 j2
     have hFv:F vv ⟨s2.rounds+1,s2.l⟩=aU num1 (e++[(name,vv)]) (way++[(i:Int)]) 0 body ⟨s2.rounds+1,s2.l⟩:=by rw [hF]
     rw [←hFv] at j1 ⊢
     have hf11:WFp c3 gw lx1 lx11 h4 h11:=(hf6.ext hlow10 (by omega)).trans j2 (by omega)
     by_cases hz:(F vv ⟨s2.rounds+1,s2.l⟩).1=0
     ·have hwv:=ae (x:=vv+1) (by omega) (by omega)
      simp [hz,q1,hwv]
      refine ⟨m',by omega,?_⟩
      rw [hInv2]
      rw [hz] at j1
      refine ⟨vv+1,(F vv ⟨s2.rounds+1,s2.l⟩).2,lx11,by simp,by omega,by omega,by omega,j1,hf11,by show c3≤c11; omega,?_⟩
      rw [q8]; simp only [cj]; rw [if_neg (not_not_intro hin),if_neg hr2,if_pos hz]
     ·simp [hz]
      refine hfail h11 c11 lx11 _ (F vv ⟨s2.rounds+1,s2.l⟩).2 (by omega) hz j1 hf11 ?_
      rw [q8]; simp only [cj]; rw [if_neg (not_not_intro hin),if_neg hr2,if_neg hz]
   have hok3:kind=3∧body=[]∧ej A array subs∧eG A (.mk op n form ea es args)∧cr (.mk op n form ea es args)≤4096:=by
    simp only [dV] at hxok
    rcases hxok with hx | hx | hx
    ·exact absurd hx.1 k1
    ·exact absurd hx.1 k2
    ·exact hx
   obtain ⟨rfl,rfl,hsubs,hexpr,hnr⟩:=hok3
   have hat4:=hw4.at_
   have hxc:=hw4.cell
   obtain ⟨us,hu1,hu2,hu3⟩:=hw4.uses
   have hul:=hu1.len ⟨h4,c3⟩
   unfold dj at hat4
   have hrun:bD num1 e (way++[(i:Int)]) X s1=if s1.l.length=50000 then (12,s1) else (0,{ s1 with l:=s1.l++[⟨num1,X,e,way++[(i:Int)]⟩] }):=by rw [hX]; simp [bD]
   simp [hbox,hbe,hat4,hul]
   by_cases hfull:us.length=50000
   ·have hfi:(us.length:Int)=50000:=by omega
    simp [hfi,hat4]
    have hrd:=hw4.rounds
    refine hfail _ c3 lx1 12 s1 (by omega) (by decide) (hw4.set s1.rounds 12 ⟨hrd.1,hrd.2.1,fun h=>by cases h⟩) WFp.refl.self ?_
    rw [hrun,if_pos (by omega)]
   have hfi:¬(us.length:Int)=50000:=by omega
   have hcc3:¬c=c3:=by omega
   have hc03:¬c0=c3:=by omega
   have hgw3:¬gw=c3:=by omega
   simp [hfi,hbox,hbe,aM,hcc3,hc03]
   have hge4':=hge4
   obtain ⟨ver,hgev⟩:=hge4
   have hgel:¬an lx1 ge:=fun hr=>by
    rcases hu1 with ⟨e1,_⟩ | ⟨g',e1,e2⟩
    ·rw [e1] at hr; exact aK hr
    ·rw [e1] at hr; have:=au.1 hr; subst this; rw [hgev] at e2; cases e2
   have hre:=fun B=>tO A hA S s1.rounds lx1 hxc 0 gw e he ge _ (.mk op n form ea es args) (Nat.le_refl _) hexpr hnr (s1.l.any fun i=>!i.ok A) (upd h4 c3 B) (c3+1) (by unfold dj; rw [ad hgw3]; exact hat4) (by omega) ⟨ver,by rw [ad (by omega)]; exact hgev⟩ (by omega) hgg
   rw [Expr.av_mk] at hre
   refine (hre _).mono ?_
   rintro av ⟨h5,c5⟩ hc5 ⟨rfl,j1,j2⟩
   simp only at hc5 j1 j2
   have hb5:=(j2 c3 (by omega)).trans ah
   have hbox5:h5 c=_:=(j2 c (by omega)).trans ((ad hcc3).trans hbox)
   have hbe5:h5 c0=_:=(j2 c0 (by omega)).trans ((ad hc03).trans hbe)
   obtain ⟨rd,hrd⟩:∃ rd:List (List AV),rd=(cC A (aA e) (.mk op n form ea es args)).1.map Spot.cells:=⟨_,rfl⟩
   obtain ⟨ro,hro⟩:∃ ro:Bool,ro=(cC A (aA e) (.mk op n form ea es args)).2:=⟨_,rfl⟩
   rw [←hro] at j1
   rw [←hrd]
   simp [hb5,hbox5,hbe5,hcc3,hc03]
   obtain ⟨so,hso⟩:∃ so,so=bQ A (aA e) array subs:=⟨_,rfl⟩
   have hgwc:gw<c3:=hw4.gc
   have hsp:=fun B=>pr A hA S s1.rounds lx1 ((s1.l.any fun i=>!i.ok A)||!ro) 0 gw array subs hsubs e he ge (upd h5 c3 B) c5 (by unfold dj; rw [ad hgw3]; exact j1) (by omega) ⟨ver,by rw [ad (by omega),j2 ge hgg,ad (by omega)]; exact hgev⟩ (by omega)
   rw [←hso] at hsp
   refine ACalls.at (hsp _) fun c6 hc6=>?_
   unfold dj at j1
   have h36:¬c3=c6:=by omega
   have h63:¬c6=c3:=by omega
   have hgw6:¬gw=c6:=by omega
   have h6gw:¬c6=gw:=by omega
   have h3gw:¬c3=gw:=by omega
   have hxl:RowAt h5 22 lx1 us:=hu1.frame fun k hk=>by rw [j2 k (hw4.row k hk).2,ad (by have:=(hw4.row k hk).1; omega)]
   have huok:∀ y∈us,aB 22 y=true:=fun y hy=>by
    obtain ⟨k,hk,rfl⟩:=List.getElem_of_mem hy
    obtain ⟨gy,_,_,hy⟩:=hu3 k _ s1.l[k] (List.getElem?_eq_getElem hk) (List.getElem?_eq_getElem (by omega))
    rw [hy]
    obtain ⟨nu,st,en,wa⟩:=s1.l[k]
    obtain ⟨_,_,_,_,_,_,_,_,⟨_,_,_,_,_,_⟩⟩:=st
    rfl
   obtain ⟨uc,huc⟩:∃ uc:List AV,uc=[.str name,row (ak (e.map (·.2))),.int 3,.str name,row (low.map Bound.cells),row (high.map Bound.cells),row (conds.map Form.cells),row [],.str array,row (subs.map Form.cells),.int op,.int n,.int form.const,row (form.terms.map Term.cells),.str ea,row (es.map Form.cells),row (args.map Expr.cells),.map ge,row rd,.str so.1.array,.int so.1.cell,.sl (ak (way++[(i:Int)])) false]:=⟨_,rfl⟩
   have huc1:aB 22 uc=true:=by rw [huc]; rfl
   obtain ⟨inst,hinst⟩:∃ inst:Inst,inst=⟨num1,X,e,way++[(i:Int)]⟩:=⟨_,rfl⟩
   have huc2:uc=eJ A inst ge:=by
    rw [huc,hinst,hX,hrd,hso]; simp [eJ,Step.cells_mk,Step.name,Inst.reads,Inst.sets,Step.expr,Step.array,Step.subs]
   have hio:inst.ok A=(ro&&so.2):=by rw [hinst,hX,hro,hso]; simp [Inst.ok,Step.expr,Step.array,Step.subs]
   have hul5:us.length≤50000:=by have:=hw4.len; omega
   obtain ⟨o,ho⟩:∃ o:Bool,o=((s1.l.any fun i=>!i.ok A)||!ro):=⟨_,rfl⟩
   rw [←ho] at j1
   cases o
   case false=>
    have ho':(s1.l.any fun i=>!i.ok A)=false∧ro=true:=by
     have:=ho.symm
     simp only [Bool.or_eq_false_iff] at this
     exact ⟨this.1,by simpa using this.2⟩
    simp [Spot.cells,hb5,hbox5,hbe5,hcc3,hc03,h36,h63,hgw6,hgw3,h6gw,h3gw,j1]
    rw [←huc]
    obtain ⟨h9,hh9⟩:∃ h9,h9=upd (upd (upd (upd h5 c3 (some (.row 22 [[.str name,row (ak (e.map (·.2))),.int 3,.str name,row (low.map Bound.cells),row (high.map Bound.cells),row (conds.map Form.cells),row [],.str array,row (subs.map Form.cells),.int op,.int n,.int form.const,row (form.terms.map Term.cells),.str ea,row (es.map Form.cells),row (args.map Expr.cells),.map ge,row rd,.str ⟨#[]⟩,.int 0,.sl (ak (way++[(i:Int)])) false]] .live none))) c6 (some (.row 2 [[.str so.1.array,.int so.1.cell]] .live none))) c3 (some (.row 22 [uc] .live none))) gw (some (.row 6 [[row (A.map Array.cells),row (S.map Step.cells),.int s1.rounds,lx1,.bool (!so.2),.int 0]] .live none)):=⟨_,rfl⟩
    rw [←hh9]
    have hgw9:h9 gw=some (.row 6 [[row (A.map Array.cells),row (S.map Step.cells),.int s1.rounds,lx1,.bool (!so.2),.int 0]] .live none):=by rw [hh9,ah]
    have hlow9:∀ k,k<c3→k≠gw→h9 k=h4 k:=fun k hk hkg=>by rw [hh9,ad hkg,ad (by omega),ad (by omega),ad (by omega),j2 k hkg,ad (by omega)]
    have hxl9:RowAt h9 22 lx1 us:=hu1.frame fun k hk=>hlow9 k (hw4.row k hk).1 (hw4.row k hk).2
    obtain ⟨h10,hap,hp1,hp2,hp3⟩:=hxl9.push (bytes:=392) (md:=.plain) (c:=c6+1) (e:=uc) (b:=true) (by simp) (by decide) (by decide) (by decide) huc1 huok (by omega) (fun k hk=>by have:=(hw4.row k hk).1; omega)
    have hgwl:¬an lx1 gw:=fun hk=>(hw4.row gw hk).2 rfl
    have hgw10:=(hp3 gw (by omega) hgwl).trans hgw9
    have hbs:=dD (sz:=22) (zs:=[.str ⟨#[]⟩,.nil,.int 0,.str ⟨#[]⟩,.nil,.nil,.nil,.nil,.str ⟨#[]⟩,.nil,.int 0,.int 0,.int 0,.nil,.str ⟨#[]⟩,.nil,.nil,.sc (.map none),.nil,.str ⟨#[]⟩,.int 0,.nil]) (by rfl) (by decide) huc1 ⟨h9,c6+1⟩
    have hgwc6:¬gw=c6+1:=by omega
    simp [hbs,hap,hgw10,hv,hwi]
    refine hcont _ (c6+1+1) (.row (c6+1) 22 0 (us.length+1)) ⟨s1.rounds,s1.l++[inst]⟩ (by omega) ⟨?_,⟨us++[uc],?_,by simp [hu2],fun k y z hy hz=>?_⟩,fun k hk=>?_,by omega,?_,hw4.rounds⟩ ⟨fun k hk hkg hkl=>?_,fun k hk=>?_⟩ ?_ _
    ·unfold dj
     rw [ah]
     simp [List.any_append,hio,ho']
    ·exact hp2.frame fun k hk=>by rw [ad]; have:=au.1 hk; omega
    ·have hfr:∀ gx,gx<c3→gx≠gw→¬an lx1 gx→upd h10 gw (some (.row 6 [[row (A.map Array.cells),row (S.map Step.cells),.int s1.rounds,.row (c6+1) 22 0 (us.length+1),.bool (!so.2),.int 0]] .live none)) gx=h4 gx:=fun gx h1 h2 h3=>by rw [ad h2,hp3 gx (by omega) h3,hlow9 gx h1 h2]
     have hmap:∀ gx en,gx<c3→dd h4 gx en→gx≠gw∧¬an lx1 gx:=fun gx en hgx ⟨vr,hgx2⟩=>by
      refine ⟨fun e=>?_,fun hr=>?_⟩
      ·subst e; rw [hat4] at hgx2; cases hgx2
      ·rcases hu1 with ⟨e1,_⟩ | ⟨g',e1,e2⟩
       ·rw [e1] at hr; exact aK hr
       ·rw [e1] at hr; have:=au.1 hr; subst this; rw [hgx2] at e2; cases e2
     by_cases hkl:k<us.length
     ·rw [List.getElem?_append_left hkl] at hy
      rw [List.getElem?_append_left (by omega)] at hz
      obtain ⟨gx,g1,g2,g3⟩:=hu3 k y z hy hz
      obtain ⟨m1,m2⟩:=hmap gx _ g1 g2
      obtain ⟨vr,g2'⟩:=g2
      exact ⟨gx,by omega,⟨vr,(hfr gx g1 m1 m2).trans g2'⟩,g3⟩
     ·have hk2:k=us.length:=by
       have:=(List.getElem?_eq_some_iff.1 hy).1
       simp at this; omega
      subst hk2
      rw [List.getElem?_append_right (Nat.le_refl _),Nat.sub_self] at hy
      rw [hu2,List.getElem?_append_right (Nat.le_refl _),Nat.sub_self] at hz
      simp at hy hz
      subst hy; subst hz
      have hien:inst.env=e:=by rw [hinst]
      refine ⟨ge,by omega,⟨ver,?_⟩,huc2⟩
      rw [hien]
      exact (hfr ge (by omega) hgg hgel).trans hgev
    ·have:=au.1 hk; omega
    ·have:=hw4.len
     simp; omega
    ·rw [ad hkg,hp3 k (by omega) hkl,hlow9 k hk hkg]
    ·have:=au.1 hk; exact .inr (by omega)
    ·rw [hrun,if_neg (by omega),hinst]
   case true=>
    have ho':((s1.l.any fun i=>!i.ok A)||!ro)=true:=ho.symm
    simp [Spot.cells,hb5,hbox5,hbe5,hcc3,hc03,h36,h63,hgw6,hgw3,h6gw,h3gw,j1]
    rw [←huc]
    obtain ⟨h9,hh9⟩:∃ h9,h9=upd (upd (upd (upd h5 c3 (some (.row 22 [[.str name,row (ak (e.map (·.2))),.int 3,.str name,row (low.map Bound.cells),row (high.map Bound.cells),row (conds.map Form.cells),row [],.str array,row (subs.map Form.cells),.int op,.int n,.int form.const,row (form.terms.map Term.cells),.str ea,row (es.map Form.cells),row (args.map Expr.cells),.map ge,row rd,.str ⟨#[]⟩,.int 0,.sl (ak (way++[(i:Int)])) false]] .live none))) c6 (some (.row 2 [[.str so.1.array,.int so.1.cell]] .live none))) c3 (some (.row 22 [uc] .live none))) gw (some (.row 6 [[row (A.map Array.cells),row (S.map Step.cells),.int s1.rounds,lx1,.bool true,.int 0]] .live none)):=⟨_,rfl⟩
    rw [←hh9]
    have hgw9:h9 gw=some (.row 6 [[row (A.map Array.cells),row (S.map Step.cells),.int s1.rounds,lx1,.bool true,.int 0]] .live none):=by rw [hh9,ah]
    have hlow9:∀ k,k<c3→k≠gw→h9 k=h4 k:=fun k hk hkg=>by rw [hh9,ad hkg,ad (by omega),ad (by omega),ad (by omega),j2 k hkg,ad (by omega)]
    have hxl9:RowAt h9 22 lx1 us:=hu1.frame fun k hk=>hlow9 k (hw4.row k hk).1 (hw4.row k hk).2
    obtain ⟨h10,hap,hp1,hp2,hp3⟩:=hxl9.push (bytes:=392) (md:=.plain) (c:=c6+1) (e:=uc) (b:=true) (by simp) (by decide) (by decide) (by decide) huc1 huok (by omega) (fun k hk=>by have:=(hw4.row k hk).1; omega)
    have hgwl:¬an lx1 gw:=fun hk=>(hw4.row gw hk).2 rfl
    have hgw10:=(hp3 gw (by omega) hgwl).trans hgw9
    have hbs:=dD (sz:=22) (zs:=[.str ⟨#[]⟩,.nil,.int 0,.str ⟨#[]⟩,.nil,.nil,.nil,.nil,.str ⟨#[]⟩,.nil,.int 0,.int 0,.int 0,.nil,.str ⟨#[]⟩,.nil,.nil,.sc (.map none),.nil,.str ⟨#[]⟩,.int 0,.nil]) (by rfl) (by decide) huc1 ⟨h9,c6+1⟩
    have hgwc6:¬gw=c6+1:=by omega
    simp [hbs,hap,hgw10,hv,hwi]
    refine hcont _ (c6+1+1) (.row (c6+1) 22 0 (us.length+1)) ⟨s1.rounds,s1.l++[inst]⟩ (by omega) ⟨?_,⟨us++[uc],?_,by simp [hu2],fun k y z hy hz=>?_⟩,fun k hk=>?_,by omega,?_,hw4.rounds⟩ ⟨fun k hk hkg hkl=>?_,fun k hk=>?_⟩ ?_ _
    ·unfold dj
     rw [ah]
     simp [List.any_append,hio,ho']
     simp at ho'
     exact ho'.imp id .inl
    ·exact hp2.frame fun k hk=>by rw [ad]; have:=au.1 hk; omega
    ·have hfr:∀ gx,gx<c3→gx≠gw→¬an lx1 gx→upd h10 gw (some (.row 6 [[row (A.map Array.cells),row (S.map Step.cells),.int s1.rounds,.row (c6+1) 22 0 (us.length+1),.bool true,.int 0]] .live none)) gx=h4 gx:=fun gx h1 h2 h3=>by rw [ad h2,hp3 gx (by omega) h3,hlow9 gx h1 h2]
     have hmap:∀ gx en,gx<c3→dd h4 gx en→gx≠gw∧¬an lx1 gx:=fun gx en hgx ⟨vr,hgx2⟩=>by
      refine ⟨fun e=>?_,fun hr=>?_⟩
      ·subst e; rw [hat4] at hgx2; cases hgx2
      ·rcases hu1 with ⟨e1,_⟩ | ⟨g',e1,e2⟩
       ·rw [e1] at hr; exact aK hr
       ·rw [e1] at hr; have:=au.1 hr; subst this; rw [hgx2] at e2; cases e2
     by_cases hkl:k<us.length
     ·rw [List.getElem?_append_left hkl] at hy
      rw [List.getElem?_append_left (by omega)] at hz
      obtain ⟨gx,g1,g2,g3⟩:=hu3 k y z hy hz
      obtain ⟨m1,m2⟩:=hmap gx _ g1 g2
      obtain ⟨vr,g2'⟩:=g2
      exact ⟨gx,by omega,⟨vr,(hfr gx g1 m1 m2).trans g2'⟩,g3⟩
     ·have hk2:k=us.length:=by
       have:=(List.getElem?_eq_some_iff.1 hy).1
       simp at this; omega
      subst hk2
      rw [List.getElem?_append_right (Nat.le_refl _),Nat.sub_self] at hy
      rw [hu2,List.getElem?_append_right (Nat.le_refl _),Nat.sub_self] at hz
      simp at hy hz
      subst hy; subst hz
      have hien:inst.env=e:=by rw [hinst]
      refine ⟨ge,by omega,⟨ver,?_⟩,huc2⟩
      rw [hien]
      exact (hfr ge (by omega) hgg hgel).trans hgev
    ·have:=au.1 hk; omega
    ·have:=hw4.len
     simp; omega
    ·rw [ad hkg,hp3 k (by omega) hkl,hlow9 k hk hkg]
    ·have:=au.1 hk; exact .inr (by omega)
    ·rw [hrun,if_neg (by omega),hinst]
end Go.Proofs.YtjhogglgkjcacaaGreat
set_option maxRecDepth 20000
set_option maxHeartbeats 4000000
namespace Go.Proofs.YtjhogglgkjcacaaGreat
open Go.AM Go.Wb
def isLoop (s:Wb.Step):Bool:=decide (Step.kind s=1)
mutual
def gR (around:List Wb.Step):Wb.Step→List (Wb.Step×List Wb.Step)
 | .mk kind name low high conds body array subs expr=>(if kind=3 then [(.mk kind name low high conds body array subs expr,around.filter isLoop)] else [])++bR (around++[.mk kind name low high conds body array subs expr]) body
def bR (around:List Wb.Step):List Wb.Step→List (Wb.Step×List Wb.Step)
 | []=>[]
 | s::ss=>gR around s++bR around ss
end
mutual
theorem ki (around:List Wb.Step):∀ s:Wb.Step,(gR around s).length=cW s
 | .mk kind name low high conds body array subs expr=>by
  simp only [gR,cW,List.length_append,kh _ body]
  split <;> simp
theorem kh (around:List Wb.Step):∀ l:List Wb.Step,(bR around l).length=fT l
 | []=>rfl
 | s::ss=>by simp only [bR,fT,List.length_append,ki around s,kh around ss]
end
structure InstOk (A:List Wb.Array) (all:List (Wb.Step×List Wb.Step)) (i:Inst):Prop where
 env:d6 i.env
 nd:(i.env.map (·.1)).Nodup
 kind:Step.kind i.step=3
 subs:ej A (Step.array i.step) (Step.subs i.step)
 expr:eG A (Step.expr i.step)
 nr:cr (Step.expr i.step)≤4096
 at_:∃ lps:List Wb.Step,all[i.num]?=some (i.step,lps)∧lps.map Step.name=i.env.map (·.1)
theorem rq {x:ByteArray} {l:List ByteArray} (h:inL x l=false):x∉l:=by
 intro hx
 unfold inL at h
 have:=List.any_eq_false.1 h x hx
 simp at this
theorem lS {F:Int→RS→Int×RS} {Q:RS→Prop} (hF:∀ v s,-1000000≤v∧v≤1000000→Q s→Q (F v s).2) (hr:∀ s r,Q s→Q { s with rounds:=r }):∀ (k:Nat) (v:Int) (s:RS),Q s→Q (cj F k v s).2
 | 0,_,_,h=>h
 | k+1,v,s,h=>by
  simp only [cj]
  split
  ·exact h
  ·rename_i hin
   have hin:=Classical.not_not.1 hin
   split
   ·exact hr _ _ h
   ·have h2:=hF v { s with rounds:=s.rounds+1 } hin (hr _ _ h)
    split
    ·exact lS hF hr k (v+1) _ h2
    ·exact h2
theorem qt (A:List Wb.Array) (all:List (Wb.Step×List Wb.Step)):∀ (N:Nat) (l:List Wb.Step),az l≤N→∀ (num:Nat) (e:Env) (way:List Int) (i:Nat) (s:RS) (around:List Wb.Step),cP A (e.map (·.1)) l→d6 e→(e.map (·.1)).Nodup→(around.filter isLoop).map Step.name=e.map (·.1) →
  (∀ (j:Nat) (y:Wb.Step×List Wb.Step),(bR around l)[j]?=some y→all[num+j]?=some y)→(∀ x∈s.l,InstOk A all x)→∀ x∈(aU num e way i l s).2.l,InstOk A all x:=by
 intro N
 induction N with
 | zero=>
  intro l hl
  cases l with
  | nil=>intro num e way i s around _ _ _ _ _ h; exact h
  | cons x xs=>obtain ⟨_,_,_,_,_,body,_,_,_⟩:=x; simp [az,count] at hl
 | succ N ih=>
  intro l
  induction l with
  | nil=>intro _ num e way i s around _ _ _ _ _ h; exact h
  | cons x xs ihl=>
   intro hl num e way i s around hok he hnd har hall hs
   obtain ⟨hx,hxs⟩:=hok
   have hstep:∀ y∈(bD num e (way++[(i:Int)]) x s).2.l,InstOk A all y:=by
    obtain ⟨kind,name,low,high,conds,body,array,subs,expr⟩:=x
    have hbody:az body≤N:=by simp [az,count] at hl; omega
    have hsub:kind≠3→∀ (j:Nat) (y:Wb.Step×List Wb.Step),(bR (around++[.mk kind name low high conds body array subs expr]) body)[j]?=some y→all[num+j]?=some y:=by
     intro hk j y hy
     refine hall j y ?_
     simp only [bR,gR,if_neg hk,List.nil_append]
     rw [List.getElem?_append_left (List.getElem?_eq_some_iff.1 hy).1]; exact hy
    simp only [dV] at hx
    rcases hx with ⟨hk,hn,_,_,_,_,hb⟩ | ⟨hk,_,hb⟩ | ⟨hk,hb,h1,h2,h3⟩
    ·subst hk
     simp only [bD,if_true]
     refine lS (Q:=fun s=>∀ y∈s.l,InstOk A all y) (fun v s hv hq=>?_) (fun s r h=>h) _ _ _ hs
     refine ih body hbody num (e++[(name,v)]) _ 0 s (around++[.mk 1 name low high conds body array subs expr]) (by rw [List.map_append]; exact hb) ?_ ?_ ?_ (hsub (by decide)) hq
     ·intro p hp
      rcases List.mem_append.1 hp with hp | hp
      ·exact he p hp
      ·simp at hp; subst hp; exact hv
     ·rw [List.map_append,List.nodup_append]
      refine ⟨hnd,by simp,fun a ha b hb=>?_⟩
      simp at hb; subst hb
      intro e; subst e
      exact rq hn ha
     ·rw [List.filter_append,List.map_append,List.map_append,har]
      rfl
    ·subst hk
     simp only [bD,show ¬((2:Int)=1) by decide,if_false,if_true]
     split
     ·refine ih body hbody num e _ 0 s (around++[.mk 2 name low high conds body array subs expr]) hb he hnd ?_ (hsub (by decide)) hs
      rw [List.filter_append,List.map_append,har]
      simp [isLoop,Step.kind]
     ·exact hs
    ·subst hk; subst hb
     simp only [bD,show ¬((3:Int)=1) by decide,show ¬((3:Int)=2) by decide,if_false]
     split
     ·exact hs
     ·intro y hy
      rcases List.mem_append.1 hy with hy | hy
      ·exact hs y hy
      ·simp at hy; subst hy
       refine ⟨he,hnd,rfl,h1,h2,h3,around.filter isLoop,hall 0 _ ?_,har⟩
       simp [bR,gR]
   simp only [aU]
   split
   ·refine ihl (by simp [az] at hl; omega) _ e way (i+1) _ around hxs he hnd har (fun j y hy=>?_) hstep
    have:=hall (cW x+j) y (by
     simp only [bR]
     rw [List.getElem?_append_right (by rw [ki]; omega),ki,Nat.add_sub_cancel_left]; exact hy)
    rw [←Nat.add_assoc] at this
    exact this
   ·exact hstep
theorem gH {p:Wb.Prog} (hp:Right p):∀ x∈(aE p).2.l,InstOk p.arrays (bR [] p.steps) x:=
 qt p.arrays _ _ p.steps (Nat.le_refl _) 0 [] [] 0 ⟨0,[]⟩ [] hp.steps (by intro p hp; simp at hp) (by simp) rfl (fun j y hy=>by rw [Nat.zero_add]; exact hy) (by simp)
def cF (A:List Wb.Array) (l:List Inst):Int:=(l.map fun i=>((i.reads A).length:Int)+1).sum
def cq (A:List Wb.Array) (l:List Inst):Int:=if (l.any fun i=>!i.ok A)=true then 16 else if 200000<cF A l then 2 else 0
def bv (p:Wb.Prog):Int:=if bB p=0 then if (aE p).1=0 then cq p.arrays (aE p).2.l else (aE p).1 else bB p
end Go.Proofs.YtjhogglgkjcacaaGreat
set_option maxRecDepth 20000
set_option maxHeartbeats 4000000
namespace Go.Proofs.YtjhogglgkjcacaaGreat
open Go.AM Go.Wb
theorem sZ {A:List Wb.Array} {l:List Inst} {i:Nat} (hi:i<l.length):cF A (l.take (i+1))=cF A (l.take i)+((l[i].reads A).length+1):=by
 unfold cF
 rw [List.take_add_one,List.getElem?_eq_getElem hi,List.map_append,List.sum_append_int]
 simp
theorem oJ {A:List Wb.Array} {all:List (Wb.Step×List Wb.Step)} {x:Inst} (h:InstOk A all x):(x.reads A).length≤4096:=by
 unfold Inst.reads; rw [ii]; exact h.nr
structure UsesOut (p:Wb.Prog) (h0:Heap) (c0:Nat) (lx:AV) (h:Heap) (c:Nat):Prop where
 uses:UsesAt h c p.arrays lx (aE p).2.l
 rows:∀ k,an lx k→c0≤k∧k<c
 fr:Fr c0 h0 h c
 len:(aE p).2.l.length≤50000
theorem vE (p:Wb.Prog) (hp:Right p) (hcnt:az p.steps≤300) (h0:Heap) (c0:Nat):ACalls Pg Fn56.n [p.av] ⟨h0,c0⟩ fun av s'=>
  if (aE p).1=0 then ∃ lx,av=.tup [lx,.int (aE p).2.rounds,.int 0,.int (cq p.arrays (aE p).2.l)]∧UsesOut p h0 c0 lx s'.h s'.c
  else av=.tup [.sl [] true,.int 0,.int (aE p).1,.int (aE p).1]∧Fr c0 h0 s'.h s'.c:=by
 refine Fn56.calls .keep ?_
 unfold Fn56.ac
 simp [Prog.av,aM]
 have h1:¬c0=c0+1:=by omega
 have h2:¬c0=c0+2:=by omega
 have h3:¬c0+1=c0+2:=by omega
 obtain ⟨h2',hh2⟩:∃ h2',h2'=upd (upd (upd h0 c0 (some (.row 2 [[row (p.arrays.map Array.cells),row (p.steps.map Step.cells)]] .live none))) (c0+1) (some (.row 6 [[row (p.arrays.map Array.cells),row (p.steps.map Step.cells),.int 0,.nil,.bool false,.int 0]] .live none))) (c0+1+1) (some (.map [] (c0+1+1))):=⟨_,rfl⟩
 have hfr2:Fr c0 h0 h2' (c0+1+1+1):=by rw [hh2]; exact ((((Fr.refl h0 c0).upd (Nat.le_refl _) (Nat.le_succ _)).upd (by omega) (Nat.le_succ _)).upd (by omega) (Nat.le_succ _))
 rw [←hh2]
 have hw:WInv h2' (c0+1+1+1) (c0+1) p.arrays p.steps (.sl [] true) 0 ⟨0,[]⟩:=by
  refine ⟨?_,⟨[],.inl ⟨rfl,rfl⟩,rfl,fun k e i he=>by simp at he⟩,fun k hk=>absurd hk aK,by omega,by simp,by simp⟩
  unfold dj
  rw [hh2,ad (by omega),ah]; rfl
 have hen:dd h2' (c0+1+1) []:=⟨c0+1+1,by rw [hh2,ah]; rfl⟩
 have hst:=tu p.arrays hp.arrays p.steps (c0+1) (az p.steps) p.steps (Nat.le_refl _) 0 [] [] ⟨0,[]⟩ (.sl [] true) (c0+1+1) h2' (c0+1+1+1) hp.steps (by intro p hp; simp at hp) (by simp; omega) (by simp; omega) hw hen (by omega) (by omega)
 refine hst.mono ?_
 rintro av ⟨h5,c5⟩ hc5 ⟨lx,rfl,j1,j2⟩
 simp only at hc5 j1 j2
 have hrp:aU 0 [] [] 0 p.steps ⟨0,[]⟩=aE p:=rfl
 rw [hrp] at j1 ⊢
 have hat:=j1.at_
 unfold dj at hat
 have hfr5:Fr c0 h0 h5 c5:=⟨by omega,fun k hk=>by rw [j2.same k (by omega) (by omega) aK]; exact hfr2.h k hk⟩
 by_cases hz:(aE p).1=0
 case neg=>
  simp [hz,hat]
  exact hfr5
 have hinv:=gH hp
 obtain ⟨us,hu1,hu2,hu3⟩:=j1.uses
 have hul:=hu1.len ⟨h5,c5⟩
 have hl5:=j1.len
 have hxc:=j1.cell
 simp [hz,hat,hul]
 have hrows:∀ k,an lx k→c0≤k∧k<c5∧k≠c0+1:=fun k hk=>⟨by
  rcases j2.rows k hk with h | h
  ·exact absurd h aK
  ·omega,(j1.row k hk)⟩
 obtain ⟨Inv,hInv⟩:∃ Inv:Nat→List (List AV)→Slots→St→Prop,Inv=fun i r sl s'=>sl 7=.int (cF p.arrays ((aE p).2.l.take i))∧0≤cF p.arrays ((aE p).2.l.take i)∧cF p.arrays ((aE p).2.l.take i)≤4097*i:=⟨_,rfl⟩
 refine aX 32 Fn56.W0 us Inv (by rfl) (by rfl) ?_ ?_ ?_
 ·rw [hInv]; exact ⟨by simp,by simp [cF],by simp [cF],by simp [cF]⟩
 ·intro v h c hv hF hI
  rw [hInv] at hI
  obtain ⟨h7,i1,i2⟩:=hI
  simp at h7
  have hcc:=hF.c
  have htk:(aE p).2.l.take us.length=(aE p).2.l:=by rw [hu2,List.take_length]
  rw [htk] at h7 i1 i2
  have hat':=(hF.h (c0+1) (by omega)).trans hat
  have hout:UsesOut p h0 c0 lx h c:=by
   refine ⟨⟨us,hu1.frame fun k hk=>hF.h k (hrows k hk).2.1,hu2,fun k e i he hi=>?_⟩,fun k hk=>⟨(hrows k hk).1,by have:=hrows k hk; omega⟩,hfr5.trans hF,hl5⟩
   obtain ⟨ge,g1,⟨vr,g2⟩,g3⟩:=hu3 k e i he hi
   exact ⟨ge,by omega,⟨vr,(hF.h ge g1).trans g2⟩,g3⟩
  cases hany:(aE p).2.l.any fun i=>!i.ok p.arrays
  ·rw [hany] at hat'
   by_cases hm:200000<cF p.arrays (aE p).2.l
   ·simp [hv,h7,hat',hm,cq,hany]
    exact hout
   ·simp [hv,h7,hat',hm,cq,hany]
    exact hout
  ·rw [hany] at hat'
   simp [hv,h7,hat',cq,hany]
   exact hout
 ·intro i x xs v h c hi hx hl hv hF hI
  rw [hInv] at hI
  obtain ⟨h7,i1,i2⟩:=hI
  simp at h7
  have hcc:=hF.c
  have hw:=ae (x:=(i:Int)+1) (by omega) (by omega)
  have hil:i<(aE p).2.l.length:=by omega
  rcases hu1 with ⟨_,e1⟩ | ⟨gl,e1,e2⟩
  ·rw [e1] at hi; simp at hi
  have hgl:=(hrows gl (by rw [e1]; exact au.2 rfl)).2.1
  have hgx:=(hF.h gl hgl).trans e2
  obtain ⟨ge,_,_,hxe⟩:=hu3 i us[i] (aE p).2.l[i] (List.getElem?_eq_getElem hi) (List.getElem?_eq_getElem hil)
  have hge:us[i]=eJ p.arrays (aE p).2.l[i] ge:=hxe
  have hio:=hinv _ (List.getElem_mem hil)
  have hrl:=oJ hio
  have hmt:=sZ (A:=p.arrays) hil
  have hw1:=ae (x:=(((aE p).2.l[i].reads p.arrays).length:Int)+1) (by omega) (by omega)
  have hw2:=ae (x:=cF p.arrays ((aE p).2.l.take i)+((((aE p).2.l[i].reads p.arrays).length:Int)+1)) (by omega) (by omega)
  obtain ⟨inst,hinst⟩:∃ inst,inst=(aE p).2.l[i]:=⟨_,rfl⟩
  rw [←hinst] at hge hw1 hw2 hmt hrl
  obtain ⟨inum,⟨ik,inm,ilo,ihi,ico,ibo,iar,isu,⟨xo,xn,xf,xa,xs',xg⟩⟩,ien,iwa⟩:=inst
  rw [eJ,Step.cells_mk] at hge
  simp [hv,hi,e1,hgx,hge,h7,hw,hw1,hw2]
  refine ⟨hF.upd hcc (Nat.le_succ _),?_⟩
  rw [hInv]
  refine ⟨?_,?_,?_⟩
  ·rw [hmt]; simp
  ·rw [hmt]; omega
  ·rw [hmt]; omega
theorem wq (p:Wb.Prog) (hcnt:az p.steps≤300) (h0:Heap) (c0:Nat):ACalls Pg Fn7.n [p.av] ⟨h0,c0⟩ fun av s'=>
  ∃ lx,av=.tup [lx,.int (bv p)]∧Fr c0 h0 s'.h s'.c∧(∀ k,an lx k→c0≤k∧k<s'.c)∧if bv p=0 then UsesAt s'.h s'.c p.arrays lx (aE p).2.l else lx=.sl [] true:=by
 refine Fn7.calls .keep ?_
 unfold Fn7.ac
 simp [Prog.av]
 have hpf:=vC p (by omega)
 have hus:=vE p
 rw [Prog.av] at hpf hus
 refine ACalls.pure hpf fun c1 hc1=>?_
 have hfr:Fr c0 h0 (upd h0 c0 (some (.row 2 [[row (p.arrays.map Array.cells),row (p.steps.map Step.cells)]] .live none))) c1:=(Fr.refl h0 c0).upd (Nat.le_refl _) (by omega)
 by_cases hz:bB p=0
 case neg=>
  simp [hz,bv]
  exact ⟨hfr,fun k hk=>absurd hk aK⟩
 simp [hz]
 refine (hus (dO hz) hcnt _ c1).mono ?_
 rintro av ⟨h2,c2⟩ hc2 hR
 simp only at hc2 hR
 by_cases hz2:(aE p).1=0
 case neg=>
  rw [if_neg hz2] at hR
  obtain ⟨rfl,hF⟩:=hR
  simp [hz,hz2,bv]
  exact ⟨hfr.trans hF,fun k hk=>absurd hk aK⟩
 rw [if_pos hz2] at hR
 obtain ⟨lx,rfl,hO⟩:=hR
 have hrw:∀ k,an lx k→c0≤k∧k<c2:=fun k hk=>by have:=hO.rows k hk; omega
 by_cases hz3:cq p.arrays (aE p).2.l=0
 ·simp [hz,hz2,hz3,bv]
  exact ⟨hfr.trans hO.fr,hrw,hO.uses⟩
 ·simp [hz,hz2,hz3,bv]
  exact ⟨hfr.trans hO.fr,fun k hk=>absurd hk aK⟩
end Go.Proofs.YtjhogglgkjcacaaGreat
set_option maxRecDepth 20000
set_option maxHeartbeats 4000000
namespace Go.Proofs.YtjhogglgkjcacaaGreat
open Go.AM Go.Wb
def SaysI (f:Nat) (a b:List AV) (h0:Heap) (c0:Nat) (φ:ByteArray→Int):Prop:=∀ x h c,Fr c0 h0 h c→ACalls Pg f (a++.str x::b) ⟨h,c⟩ fun r s'=>r=.int (φ x)∧s'.h=h
theorem SaysI.more {f:Nat} {a b:List AV} {h0 h1:Heap} {c0 c1:Nat} {φ:ByteArray→Int} (s:SaysI f a b h0 c0 φ) (hF:Fr c0 h0 h1 c1):SaysI f a b h1 c1 φ:=fun x h c h1=>s x h c (hF.trans h1)
theorem pz (f:Wb.Form) (hf:OkForm f) (fn:Nat) (a b:List AV) (φ:ByteArray→Int) (hφ:∀ n,-1000000≤φ n∧φ n≤1000000) (h0:Heap) (c0:Nat) (hs:SaysI fn a b h0 c0 φ) :
  ACalls Pg Fn330.n [f.av,.fn (.func fn) a b] ⟨h0,c0⟩ fun av s'=>av=.int (aH φ f)∧s'.h=h0:=by
 refine Fn330.calls .frz ?_
 unfold Fn330.ac
 have hlen:=hf.len
 simp [Form.av,Form.cells]
 obtain ⟨Inv,hInv⟩:∃ Inv:Nat→List Wb.Term→Slots→St→Prop,Inv=fun (i:Nat) r sl s'=>∃ n:Int,sl 5=.int n∧dQ φ r n=aH φ f ∧ -(1000000+(i:Int)*1000000000)≤n∧n≤1000000+(i:Int)*1000000000:=⟨_,rfl⟩
 refine aX 13 Fn330.W0 f.terms Inv (by rfl) (by rfl) ?_ ?_ ?_
 ·rw [hInv]
  exact ⟨by simp,f.const,by simp,rfl,by have:=hf.const; omega,by have:=hf.const; omega⟩
 ·intro v h c hv hF hI
  rw [hInv] at hI
  obtain ⟨n,h5,hI,_⟩:=hI
  simp at h5
  simp [hv,h5]
  refine ⟨by simpa [dQ] using hI,?_⟩
  exact aC fun k hk=>by rw [hF.h k (by omega),ad (by omega)]
 ·intro i t ts v h c hi hx hl hv hF hI
  rw [hInv] at hI
  obtain ⟨n,h5,hI,hn1,hn2⟩:=hI
  simp at h5
  have hw:=ae (x:=(i:Int)+1) (by omega) (by omega)
  have hcc:=hF.c
  have hm:=kQ (hf.coef t (aR hl)) (hφ t.name)
  have hw1:=ae (x:=t.coef*φ t.name) (by omega) (by omega)
  have hw2:=ae (x:=n+t.coef*φ t.name) (by omega) (by omega)
  have hfr:Fr c0 h0 (upd h c (some (.row 2 [[.str t.name,.int t.coef]] .live none))) (c+1):=⟨by omega,fun k hk=>by rw [ad (by omega),hF.h k (by omega),ad (by omega)]⟩
  simp [hv,hi,hx,Term.cells,h5]
  refine ACalls.at (hs t.name _ _ hfr) fun c2 hc2=>?_
  simp [hw1,hw2,hw,h5,hv]
  refine ⟨hF.upd hcc (by omega),?_⟩
  rw [hInv]
  exact ⟨n+t.coef*φ t.name,by simp,hI,by push_cast; omega,by push_cast; omega⟩
theorem _root_.Go.AM.RowPre.at {h:Heap} {sz:Nat} {x:AV} {es:List (List AV)} (r:RowPre h sz x es) {i:Nat} (hi:i<es.length):∃ g all,x=.row g sz 0 es.length∧h g=some (.row sz all .live none)∧all[i]?=es[i]?:=by
 rcases r with ⟨_,rfl⟩ | ⟨g,full,rfl,hg⟩
 ·simp at hi
 ·exact ⟨g,es++full,rfl,hg,by rw [List.getElem?_append_left hi]⟩
structure NowAt (h:Heap) (c gr:Nat) (e:Env) (go:Nat) (nx:Int) (names now:AV):Prop where
 at_:h gr=some (.row 4 [[.ptr go 0 0,.int nx,names,now]] .live none)
 hnames:RowPre h 1 names (ay (e.map (·.1)))
 hnow:RowPre h 1 now (ak (e.map (·.2)))
 gr:gr<c
 nb:∀ k,an names k→k<c
 wb:∀ k,an now k→k<c
theorem NowAt.fr {h h':Heap} {c c' gr:Nat} {e:Env} {go:Nat} {nx:Int} {names now:AV} (n:NowAt h c gr e go nx names now) (hF:Fr c h h' c'):NowAt h' c' gr e go nx names now:=
 ⟨(hF.h gr n.gr).trans n.at_,n.hnames.frame fun k hk=>hF.h k (n.nb k hk),n.hnow.frame fun k hk=>hF.h k (n.wb k hk),by have:=n.gr; have:=hF.c; omega,fun k hk=>by have:=n.nb k hk; have:=hF.c; omega,fun k hk=>by have:=n.wb k hk; have:=hF.c; omega⟩
theorem ru:∀ {e:Env},(e.map (·.1)).Nodup→∀ {i:Nat} {x:ByteArray} {v:Int},e[i]?=some (x,v)→bS e x=some v
 | [],_,i,x,v,h=>by simp at h
 | p::e,hn,0,x,v,h=>by
  simp at h; subst h
  simp [bS]
 | p::e,hn,i+1,x,v,h=>by
  simp only [List.map_cons,List.nodup_cons] at hn
  have h':e[i]?=some (x,v):=by simpa using h
  have hx:x∈e.map (·.1):=List.mem_map.2 ⟨(x,v),List.mem_of_getElem? h',rfl⟩
  simp only [bS]
  rw [if_neg (show ¬x=p.1 from fun e2=>hn.1 (e2▸hx))]
  exact ru hn.2 h'
theorem qg:∀ {e:Env} {x:ByteArray},(∀ (i:Nat) (p:ByteArray×Int),e[i]?=some p→p.1≠x)→bS e x=none
 | [],_,_=>rfl
 | p::e,x,h=>by
  simp only [bS]
  rw [if_neg fun e2=>h 0 p rfl e2.symm]
  exact qg fun i q hq=>h (i+1) q (by simpa using hq)
theorem uu (e:Env) (hn:(e.map (·.1)).Nodup) (hlen:e.length≤100000) (x:ByteArray) (gr go:Nat) (nx:Int) (names now:AV) (h0:Heap) (c0:Nat) (hr:NowAt h0 c0 gr e go nx names now) :
  ACalls Pg Fn367.n [.ptr gr 0 0,.str x] ⟨h0,c0⟩ fun av s'=>av=.int (aA e x)∧s'.h=h0:=by
 obtain ⟨r1,r2,r3,r4,r5,r6⟩:=hr
 refine Fn367.calls .frz ?_
 unfold Fn367.ac
 have hl:=r2.len ⟨h0,c0⟩
 have hsl:(ay (e.map (·.1))).length=e.length:=by simp [ay]
 rw [hsl] at hl
 have hw:=ae (x:=(e.length:Int)-1) (by omega) (by omega)
 simp [r1,hl,hw]
 obtain ⟨Inv,hInv⟩:∃ Inv:Nat→Slots→St→Prop,Inv=fun (m:Nat) sl s'=>sl 5=.int ((m:Int)-1)∧m≤e.length∧s'=⟨h0,c0⟩∧∀ (i:Nat) (p:ByteArray×Int),m≤i→e[i]?=some p→p.1≠x:=⟨_,rfl⟩
 refine co Fn367.W0 (by rfl) Inv e.length ?_ ?_
 ·rw [hInv]
  exact ⟨by simp,Nat.le_refl _,rfl,fun i p hi hp=>by have:=(List.getElem?_eq_some_iff.1 hp).1; omega⟩
 ·intro m v s' hI
  rw [hInv] at hI
  obtain ⟨h5,hm,rfl,hno⟩:=hI
  simp at h5
  cases m with
  | zero=>
   simp [h5,aA,qg fun i p hp=>hno i p (Nat.zero_le _) hp]
  | succ m=>
   have hm':m<e.length:=by omega
   have hz:((m+1:Nat):Int)-1=m:=by omega
   rw [hz] at h5
   have hms:m<(ay (e.map (·.1))).length:=by rw [hsl]; exact hm'
   have hmi:m<(ak (e.map (·.2))).length:=by simp [ak]; exact hm'
   obtain ⟨g1,all1,n1,n2,n3⟩:=r2.at hms
   obtain ⟨g2,all2,m1,m2,m3⟩:=r3.at hmi
   rw [hsl] at n1
   have hil:(ak (e.map (·.2))).length=e.length:=by simp [ak]
   rw [hil] at m1
   have hn3:all1[m]?=some [.str e[m].1]:=by rw [n3]; simp [ay,hm']
   have hm3:all2[m]?=some [.int e[m].2]:=by rw [m3]; simp [ak,hm']
   have hw2:=ae (x:=(m:Int)-1) (by omega) (by omega)
   simp [h5,r1,n1,hm',n2,hn3]
   by_cases hx:e[m].1=x
   ·simp [hx,h5,r1,m1,hm',m2,hm3]
    have:=ru hn (i:=m) (x:=x) (v:=e[m].2) (by rw [List.getElem?_eq_getElem hm',←hx])
    simp [aA,this]
   ·simp [hx,h5,hw2]
    refine ⟨m,by omega,?_⟩
    rw [hInv]
    refine ⟨by simp,by omega,rfl,fun i p hi hp=>?_⟩
    by_cases him:i=m
    ·subst him
     rw [List.getElem?_eq_getElem hm'] at hp
     injection hp with hp; rw [←hp]; exact hx
    ·exact hno i p (by omega) hp
theorem vY (e:Env) (hn:(e.map (·.1)).Nodup) (hlen:e.length≤100000) (gr go:Nat) (nx:Int) (names now:AV) (h0:Heap) (c0:Nat) (hr:NowAt h0 c0 gr e go nx names now):SaysI Fn367.n [.ptr gr 0 0] [] h0 c0 (aA e):=
 fun x h c hF=>uu e hn hlen x gr go nx names now h c (hr.fr hF)
theorem pB (f:Wb.Form) (hf:OkForm f) (e:Env) (he:d6 e) (hn:(e.map (·.1)).Nodup) (hlen:e.length≤100000) (gr go:Nat) (nx:Int) (names now:AV) (h0:Heap) (c0:Nat) (hr:NowAt h0 c0 gr e go nx names now) :
  ACalls Pg Fn359.n [.ptr gr 0 0,f.av] ⟨h0,c0⟩ fun av s'=>av=.int (aH (aA e) f)∧s'.h=h0:=by
 refine Fn359.calls .frz ?_
 unfold Fn359.ac
 simp [Form.av,Form.cells]
 have hF:Fr c0 h0 (upd h0 c0 (some (.row 2 [[.int f.const,row (f.terms.map Term.cells)]] .live none))) (c0+1):=(Fr.refl h0 c0).upd (Nat.le_refl _) (Nat.le_succ _)
 refine ACalls.at (pz f hf Fn367.n [.ptr gr 0 0] [] (aA e) (cB he) _ (c0+1) (vY e hn hlen gr go nx names now _ _ (hr.fr hF))) fun c2 hc2=>?_
 simp
theorem um (l:List Wb.Form) (hl:∀ f∈l,OkForm f) (e:Env) (he:d6 e) (hn:(e.map (·.1)).Nodup) (hlen:e.length≤100000) (gr go:Nat) (nx:Int) (names now:AV) (h0:Heap) (c0:Nat) (hr:NowAt h0 c0 gr e go nx names now) :
  ACalls Pg Fn328.n [.ptr gr 0 0,row (l.map Form.cells)] ⟨h0,c0⟩ fun av s'=>av=.bool (l.all fun f=>decide (0≤aH (aA e) f))∧s'.h=h0:=by
 refine ACalls.small fun hsm=>?_
 have hll:l.length≤68719476736:=by simp at hsm; omega
 refine Fn328.calls .frz ?_
 unfold Fn328.ac
 simp
 obtain ⟨Inv,hInv⟩:∃ Inv:Nat→List Wb.Form→Slots→St→Prop,Inv=fun i r sl s'=>(l.all fun f=>decide (0≤aH (aA e) f))=(r.all fun f=>decide (0≤aH (aA e) f)):=⟨_,rfl⟩
 refine aX 9 Fn328.W0 l Inv (by rfl) (by rfl) ?_ ?_ ?_
 ·rw [hInv]; exact ⟨by simp,rfl⟩
 ·intro v h c hv hF hI
  rw [hInv] at hI
  rw [hI]
  simp [hv]
  exact hF.retH
 ·intro i f fs v h c hi hx hl2 hv hF hI
  rw [hInv] at hI
  have hw:=ae (x:=(i:Int)+1) (by omega) (by omega)
  have hcc:=hF.c
  have hF2:Fr c0 h0 (upd h c (some (.row 2 [[.int f.const,row (f.terms.map Term.cells)]] .live none))) (c+1):=hF.upd hcc (Nat.le_succ _)
  have hva:=pB f (hl f (aR hl2)) e he hn hlen gr go nx names now _ _ (hr.fr hF2)
  rw [Form.av,Form.cells] at hva
  rw [hI]
  simp [hv,hi,hx,Form.cells]
  refine ACalls.at hva fun c2 hc2=>?_
  by_cases hneg:aH (aA e) f<0
  ·have:¬0≤aH (aA e) f:=by omega
   simp [hneg,this]
   exact hF2.retH
  ·have:0≤aH (aA e) f:=by omega
   simp [hneg,this,hw,hv]
   refine ⟨hF.upd hcc (by omega),?_⟩
   rw [hInv]
   rw [hI]; simp [this]
def xp (f:Nat) (a b:List AV) (h0:Heap) (c0:Nat) (φ:ByteArray→Int):Prop:=∀ x:Wb.Form,OkForm x→∀ h c,Fr c0 h0 h c→ACalls Pg f (a++x.av::b) ⟨h,c⟩ fun r s'=>r=.int (aH φ x)∧s'.h=h
theorem ut (st:Wb.Step) (low high:List Wb.Bound) (hst:∃ kind name conds body array subs expr,st=.mk kind name low high conds body array subs expr) (hl:∀ b∈low,cw b) (hh:∀ b∈high,cw b) (hl0:low≠[]) (hh0:high≠[]) (fn:Nat) (a b:List AV) (φ:ByteArray→Int) (hφ:∀ n,-1000000≤φ n∧φ n≤1000000) (h0:Heap) (c0:Nat) (hs:xp fn a b h0 c0 φ) :
  ACalls Pg Fn358.n [st.av,.fn (.func fn) a b] ⟨h0,c0⟩ fun av s'=>av=.tup [.int (eg φ low),.int (ei φ high)]∧s'.h=h0:=by
 refine ACalls.small fun hsm=>?_
 obtain ⟨kind,name,conds,body,array,subs,⟨op,n,form,ea,es,args⟩,rfl⟩:=hst
 rw [Step.av_mk] at hsm ⊢
 have hlen:low.length≤68719476736∧high.length≤68719476736:=by simp at hsm; omega
 have hlp:=List.length_pos_iff.2 hl0
 have hhp:=List.length_pos_iff.2 hh0
 refine Fn358.calls .frz ?_
 unfold Fn358.ac
 simp
 obtain ⟨hb0,hhb⟩:∃ hb,hb=upd h0 c0 (some (.row 15 [[.int kind,.str name,row (low.map Bound.cells),row (high.map Bound.cells),row (conds.map Form.cells),row (body.map Step.cells),.str array,row (subs.map Form.cells),.int op,.int n,.int form.const,row (form.terms.map Term.cells),.str ea,row (es.map Form.cells),row (args.map Expr.cells)]] .live none)):=⟨_,rfl⟩
 rw [←hhb]
 have hFb:Fr c0 h0 hb0 (c0+1):=by rw [hhb]; exact (Fr.refl h0 c0).upd (Nat.le_refl _) (Nat.le_succ _)
 have hbx:hb0 c0=_:=(congrFun hhb c0).trans ah
 obtain ⟨Inv,hInv⟩:∃ Inv:Nat→List Wb.Bound→Slots→St→Prop,Inv=fun i r sl s'=>∃ n:Int,sl 6=.int n∧(if i=0 then r=low∧n=0 else dF φ r n=eg φ low):=⟨_,rfl⟩
 refine aX 17 Fn358.W0 low Inv (by rfl) (by rfl) ?_ ?_ ?_
 ·rw [hInv]; exact ⟨by simp,0,by simp,rfl,rfl⟩
 ·intro v h c hv hF hI
  rw [hInv] at hI
  obtain ⟨nl,h6,hI⟩:=hI
  rw [if_neg (by omega)] at hI
  simp only [dF] at hI
  simp at h6
  have hcc:=hF.c
  have hFx:Fr c0 h0 h c:=hFb.trans hF
  have hbox:=(hF.h c0 (by omega)).trans hbx
  simp [hv,hbox]
  obtain ⟨Inv2,hInv2⟩:∃ Inv:Nat→List Wb.Bound→Slots→St→Prop,Inv=fun i r sl s'=>∃ n:Int,sl 7=.int n∧sl 6=.int (eg φ low)∧(if i=0 then r=high∧n=0 else dm φ r n=ei φ high):=⟨_,rfl⟩
  refine aX 41 Fn358.W1 high Inv2 (by rfl) (by rfl) ?_ ?_ ?_
  ·rw [hInv2]; exact ⟨by simp,0,by simp,by simp [h6,hI],rfl,rfl⟩
  ·intro v2 h2 c2 hv2 hF2 hI2
   rw [hInv2] at hI2
   obtain ⟨nh,h7,h6',hI2⟩:=hI2
   rw [if_neg (by omega)] at hI2
   simp only [dm] at hI2
   simp at h7 h6'
   simp [hv2,h7,h6',hI2]
   exact (hFx.trans hF2).retH
  ·intro i b bs v2 h2 c2 hi hx hl2 hv2 hF2 hI2
   rw [hInv2] at hI2
   have hFx2:Fr c0 h0 h2 c2:=hFx.trans hF2
   obtain ⟨n2,h62,h6l,hI2⟩:=hI2
   simp at h62 h6l
   have hw:=ae (x:=(i:Int)+1) (by omega) (by omega)
   have hcc:=hF2.c
   obtain ⟨bf,bd⟩:=b
   have hb:=hh _ (aR hl2)
   have hfb:-12001000000≤aH φ bf∧aH φ bf≤12001000000:=ct hφ hb.1
   have hbd:1≤bd:=hb.2.1
   have hfr:Fr c0 h0 (upd h2 c2 (some (.row 3 [[.int bf.const,row (bf.terms.map Term.cells),.int bd]] .live none))) (c2+1):=⟨by have:=hFx2.c; omega,fun k hk=>by rw [ad (by have:=hFx2.c; omega),hFx2.h k hk]⟩
   have hsf:=hs bf hb.1 _ _ hfr
   rw [Form.av,Form.cells] at hsf
   simp [hv2,hi,hx,Bound.cells]
   refine ACalls.at hsf fun c2 hc2=>?_
   simp
   refine ACalls.pure (pu _ bd (by omega) (by omega) (by omega)) fun c3 hc3=>?_
   obtain ⟨u,hu⟩:∃ u,u=aH φ bf / bd:=⟨_,rfl⟩
   rw [←hu]
   by_cases hi0:i=0
   ·subst hi0
    have hw1:IntKind.i64.wrap 1=1:=by decide
    simp [hv2,hw1,h6l]
    refine ⟨hF2.upd hcc (by omega),?_⟩
    rw [hInv2]
    refine ⟨u,by simp,by simp [h6l],?_⟩
    simp only [if_true] at hI2
    simp only [Nat.zero_add,show ¬(1=0) by decide,if_false]
    rw [←hI2.1,hu]; rfl
   ·simp only [hi0,if_false] at hI2
    by_cases hgt:u<n2
    ·simp [hv2,hi0,hgt,hw,h62,h6l]
     refine ⟨hF2.upd hcc (by omega),?_⟩
     rw [hInv2]
     refine ⟨u,by simp,by simp [h6l],?_⟩
     rw [if_neg (by omega),←hI2]
     simp only [dm,mnI]
     rw [if_pos (by rw [←hu]; exact hgt),←hu]
    ·simp [hv2,hi0,hgt,hw,h62,h6l]
     refine ⟨hF2.upd hcc (by omega),?_⟩
     rw [hInv2]
     refine ⟨n2,by simp [h62],by simp [h6l],?_⟩
     rw [if_neg (by omega),←hI2]
     simp only [dm,mnI]
     rw [if_neg (by rw [←hu]; exact hgt)]
 ·intro i b bs v h c hi hx hl2 hv hF hI
  rw [hInv] at hI
  have hFx:Fr c0 h0 h c:=hFb.trans hF
  obtain ⟨n,h6,hI⟩:=hI
  simp at h6
  have hw:=ae (x:=(i:Int)+1) (by omega) (by omega)
  have hcc:=hF.c
  obtain ⟨bf,bd⟩:=b
  have hb:=hl _ (aR hl2)
  have hfb:-12001000000≤aH φ bf∧aH φ bf≤12001000000:=ct hφ hb.1
  have hbd:1≤bd:=hb.2.1
  have hfr:Fr c0 h0 (upd h c (some (.row 3 [[.int bf.const,row (bf.terms.map Term.cells),.int bd]] .live none))) (c+1):=⟨by have:=hFx.c; omega,fun k hk=>by rw [ad (by have:=hFx.c; omega),hFx.h k hk]⟩
  have hsf:=hs bf hb.1 _ _ hfr
  rw [Form.av,Form.cells] at hsf
  simp [hv,hi,hx,Bound.cells]
  refine ACalls.at hsf fun c2 hc2=>?_
  simp
  refine ACalls.pure (ub _ bd (by omega) (by omega) (by omega)) fun c3 hc3=>?_
  obtain ⟨u,hu⟩:∃ u,u=upI (aH φ bf) bd:=⟨_,rfl⟩
  rw [←hu]
  by_cases hi0:i=0
  ·subst hi0
   have hw1:IntKind.i64.wrap 1=1:=by decide
   simp [hv,hw1]
   refine ⟨hF.upd hcc (by omega),?_⟩
   rw [hInv]
   refine ⟨u,by simp,?_⟩
   simp only [if_true] at hI
   simp only [Nat.zero_add,show ¬(1=0) by decide,if_false]
   rw [←hI.1,hu]; rfl
  ·simp only [hi0,if_false] at hI
   by_cases hgt:n<u
   ·simp [hv,hi0,hgt,hw,h6]
    refine ⟨hF.upd hcc (by omega),?_⟩
    rw [hInv]
    refine ⟨u,by simp,?_⟩
    rw [if_neg (by omega),←hI]
    simp only [dF,mxI]
    rw [if_pos (by rw [←hu]; exact hgt),←hu]
   ·simp [hv,hi0,hgt,hw,h6]
    refine ⟨hF.upd hcc (by omega),?_⟩
    rw [hInv]
    refine ⟨n,by simp [h6],?_⟩
    rw [if_neg (by omega),←hI]
    simp only [dF,mxI]
    rw [if_neg (by rw [←hu]; exact hgt)]
end Go.Proofs.YtjhogglgkjcacaaGreat
