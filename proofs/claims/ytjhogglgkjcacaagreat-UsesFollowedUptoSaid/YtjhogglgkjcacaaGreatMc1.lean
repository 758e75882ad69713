/- Part of the claim: see its last text. -/
import Derived.Test.YtjhogglgkjcacaaGreatMc0
import Derived.Test.YtjhogglgkjcacaaGreatMa19
import Derived.Shelf.SlMaps.Clone
import Derived.Test.YtjhogglgkjcacaaGreatMa20
set_option linter.all false
set_option maxRecDepth 20000
set_option maxHeartbeats 4000000
namespace Go.Proofs.YtjhogglgkjcacaaGreat
open Go.AM Go.Wb
theorem xj (x:ByteArray) (k:Int) (d:k=0\/k=1):aG Pg 142 [.str x,.int k] (.str (if k=0 then ⟨#[]⟩ else x)):=by
 intro s;refine Fn142.calls .frz ?_;unfold Fn142.ac;rcases d with rfl | rfl <;> simp
@[simp] theorem _root_.Go.AM.reOk_cv {t:Nat} {k:CK} {x:X} {sl:Slots} {s:St}:fG (t,none,.cv k x) sl s↔cvI k (x.ev sl) s=some (sl t):=by
 simp only [fG,gdI,aO];constructor
 ·rintro (d | ⟨_,d⟩)
  ·cases d
  ·cases f:cvI k (x.ev sl) s with
   | none=>rw [f] at d; cases d
   | some g=>rw [f] at d; simp at d; rw [d]
 ·intro d;exact .inr ⟨trivial,by rw [d]; rfl⟩
section
variable {P:Program} {a:AO} {post:List AO} {K:Slots->St->Prop} {e:AO} {r:List (Bool×AO)} {sl:Slots} {s:St}
theorem _root_.Go.AM.roamW_t:cE P a post K ((true,e)::r) sl s=(aQ P (a.cut (e::r.map (·.2))::e::(r.map (·.2)++post)) K sl s/\aQ P [e] (cE P a post K r) sl s):=by
 simp only [cE,true_imp_iff]
@[simp] theorem _root_.Go.AM.cut_mk {d:Option Nat} {g:Option (Nat×Bool)} {m:Md} {i:I} {re:List (Nat×Option (Nat×Bool)×I)} {l:List AO}:AO.cut ⟨d,g,m,i,re⟩ l=⟨d,g,m,i,re.filter fun f=>l.all fun o=>o.dst != some f.1⟩:=q6 rfl rfl
theorem _root_.Go.AM.roamW_f:cE P a post K ((false,e)::r) sl s=aQ P [e] (cE P a post K r) sl s:=by
 simp only [cE,u1,false_imp_iff,true_and]
theorem _root_.Go.AM.roamW_n:cE P a post K [] sl s=aQ P (a::post) K sl s:=q6 rfl rfl
theorem _root_.Go.AM.roamW_cut {pre:List (Bool×AO)} (W:List Nat) (k:iH (ir (a::(pre.map (·.2)++post))) W=true) (f:Slots->St->Prop) (h:cE P a post f pre sl s) (l:∀ v s',f (ov W sl v) s'->K (ov W sl v) s'):cE P a post K pre sl s:=by
 refine jD pre (pv pre h) fun d s' g=>?_;have e:ov W sl d=d:=rU fun o m=>g.2 o (kN k m);have:=l d s' (by rw [e]; exact g.1)
 rwa [e] at this
end
theorem ep {sz:Nat} {zs d:List AV} (k:aF sz zs=true) (f:0<sz) (h:aF sz d=true) (s:St):bsI sz zs 1 [(0,.agg d)] .plain s=some (.sl [d] true,s):=by
 unfold bsI;rw [if_pos ⟨f,k,by decide⟩]
 have g:az sz (List.replicate 1 zs) [(0,.agg d)]=some [d]:=by
  show (if aF sz d=true/\0<(List.replicate 1 zs).length then _ else _)=_
  rw [if_pos ⟨h,by simp⟩]; rfl
 rw [g]; rfl
theorem ua {g k:Nat} (f:g≠k) {h:Heap} {a b:Option Body}:upd (upd h g a) k b=upd (upd h k b) g a:=by
 funext j;show (if j=k then b else if j=g then a else h j)=if j=g then a else if j=k then b else h j
 by_cases d:j=k
 ·rw [if_pos d,if_pos d,if_neg (by omega)]
 ·rw [if_neg d,if_neg d]
theorem nX (z:Int) (b:Bool) (s:St):cvI .b2s (.sl [[.sc (.int .u8 z)]] b) s=some (.str ⟨#[UInt8.ofNat z.toNat]⟩):=by
 rfl
theorem uS {x y:ByteArray} (h:x.size+y.size<=1000000):gd .add x y=some (.string (x++y)):=by
 have d:IntKind.i64.max=9223372036854775807:=by decide
 unfold gd;rw [if_neg (by rw [d]; omega)]
def AH (L:List Int) (g p:Nat) (t:Heap) (l:Nat) (n a:Int) (A C:Nat) (K:Int) (es:List (List AV)) (f:Nat) (h:Heap) (c:Nat):Prop:=
 ∃ (q:Nat) (m k:Int) (o:Nat->Prop),l<=f/\f<c/\h f=some (.row 15 es .live none)/\Tr 2 h o es q/\(∀ d,o d->l<=d/\d<c/\d≠f)/\q<=C/\h p=some (.row 1 [[.int m]] .live none)/\n<=m/\m<=n+A/\SM h g L k/\a<=k/\k<=a+K/\∀ d,d<l->d≠g->d≠p->h d=t d
def StI (L:List Int) (g p:Nat) (t:Heap) (f:Nat) (around:List ByteArray) (n a:Int) (A C:Nat) (K:Int) (i:Nat) (es:List (List AV)) (k:Nat) (h:Heap) (c:Nat):Prop:=
 ∃ (q:Nat) (m l:Int) (o:Nat->Prop),es.length=i/\f<k/\k<c/\h k=some (.row 15 es .live none)/\Tr 2 h o es q/\(∀ d,o d->f<d/\d<c/\d≠k)/\q<=i*(1+C)/\h p=some (.row 1 [[.int m]] .live none)/\n<=m/\m<=n+i*A/\SM h g L l/\a<=l/\l<=a+i*(120+K) /\
  h f=some (.row 1 [[row (ak around)]] .live none)/\∀ d,d<f->d≠g->d≠p->h d=t d
theorem StI.next {L:List Int} {g t:Nat} {y:Heap} {l:Nat} {around:List ByteArray} {n a:Int} {A C:Nat} {K:Int} {i:Nat} {es:List (List AV)} {p:Nat} {h f:Heap} {c o:Nat} {e:List AV} {Se:Nat->Prop} {m1:Nat} {n1 n2 a1 a2:Int}
  {S:Nat->Prop} {m:Nat} (ag:g<l) (ai:t<l) (N:es.length=i) (a3:l<p) (a4:p<c) (al:h p=some (.row 15 es .live none)) (T:Tr 2 h S es m) (u:∀ k,S k->l<k/\k<c/\k≠p) (am:m<=i*(1+C)) (ar:n1<=n+i*A) (ap:n<=n1) (Y:a1<=a+i*(120+K)) (W:a<=a1)
  (H:h l=some (.row 1 [[row (ak around)]] .live none)) (J:∀ k,k<l->k≠g->k≠t->h k=y k)
  (ab:c<=o) (x:∀ k,k<c->k≠g->k≠t->f k=h k) (U:Tr 2 f Se [e] m1) (w:∀ k,Se k->c<=k/\k<o) (ao:m1<=1+C) (ax:n2<=n1+A) (a0:n1<=n2) (M:f t=some (.row 1 [[.int n2]] .live none)) (R:SM f g L a2) (Z:a2<=a1+(120+K)) (aa:a1<=a2) :
  StI L g t y l around n a A C K (i+1) (es++[e]) o (upd (upd f p none) o (some (.row 15 (es++[e]) .live none))) (o+1):=by
 have q:∀ k,k≠p->k≠o->upd (upd f p none) o (some (.row 15 (es++[e]) .live none)) k=f k:=fun k d v=>by rw [ad v,ad d]
 have O:(i+1)*(1+C)=i*(1+C)+(1+C):=Nat.succ_mul _ _;have Q:((i+1:Nat):Int)*A=i*A+A:=by rw [Int.natCast_add,Int.add_mul]; simp
 have G:((i+1:Nat):Int)*(120+K)=i*(120+K)+(120+K):=by rw [Int.natCast_add,Int.add_mul]; simp
 refine ⟨m+m1,n2,a2,fun k=>S k\/Se k,by simp [N],by omega,by omega,ae,?_,?_,by rw [O]; omega,?_,by omega,by rw [Q]; omega,?_,by omega,by rw [G]; omega,?_,?_⟩
 ·refine Tr.app (Tr.frame (Tr.frame T (h':=f) fun k d=>?_) fun k d=>?_) (Tr.frame U fun k d=>?_) fun k D f=>?_
  ·have:=u k d; exact x k this.2.1 (by omega) (by omega)
  ·have:=u k d; exact q k this.2.2 (by omega)
  ·have:=w k d; exact q k (by omega) (by omega)
  ·have:=u k D; have:=w k f; omega
 ·intro k d;rcases d with d | d
  ·have:=u k d; omega
  ·have:=w k d; omega
 ·rw [q _ (by omega) (by omega)]; exact M
 ·unfold SM; rw [q _ (by omega) (by omega)]; exact R
 ·rw [q _ (by omega) (by omega),x _ (by omega) (by omega) (by omega)]; exact H
 ·intro k d z v;rw [q _ (by omega) (by omega),x _ (by omega) z v]; exact J k d z v
def StC (L:List Int) (g f:Nat) (deep:Int) (A C:Nat) (K:Int):Prop:=∀ (around:List ByteArray) (l n a:Int) (h:Heap) (d:Nat),around.length<=90-deep->1<=l->l<=2->SM h g L a->0<=a->a+K<700000000->h f=some (.row 1 [[.int n]] .live none)->0<=n->n+A<=16->g<d->f<d ->
 ACalls Pg 54 [.ptr g 0 0,row (ak around),.int deep,.int l,.ptr f 0 0] ⟨h,d⟩ fun av o=>∃ (k:List (List AV)) (m:Nat),k.length<=2/\av=.row m 15 0 k.length/\AH L g f h d n a A C K k m o.h o.c
theorem dy (L:List Int) (b3:L.length<=1048576) (g U:Nat) (f2:g≠U) (deep:Int) (n5:1<=deep) (n6:deep<=20) (A C:Nat) (K:Int) (nl:1<=A) (nn:A<=1000) (no:0<=K) (f4:1<deep->StC L g U (deep-1) A C K) :
  StC L g U deep (2*A) (2*(1+C)) (1+2*(120+K)):=by
 intro around hr n a k1 v nu l3 oN mF k6 nr l5 oW o0 e6 e9;refine Fn54.calls .keep ?_;unfold Fn54.ac;have lo:¬g=v:=by omega
 have bN:¬v=g:=by omega
 have mb:¬U=v:=by omega
 have n3:¬v=U:=by omega
 simp;refine ACalls.draw (R:=fun bk=>∃ d,bk=.int d/\1<=d/\(1<=hr->d<=hr)/\(hr<1->d=1)) (nT L a 1 hr g _ _ (by omega) (by omega) (by omega) (by unfold SM; rw [qv,ad lo]; exact mF) k6 (by omega) b3 (by omega)) fun bk Z kt a1 c7 nA o8 o9 m6 ht=>?_
 obtain ⟨d,rfl,am,bl,_⟩:=c7;have od:=bl l3;obtain ⟨g7,l1⟩:∃ g7:Nat,d=g7:=⟨d.toNat,by omega⟩
 subst l1;simp;obtain ⟨hz,dp⟩:∃ hz:Nat->List Unit->Slots->St->Prop,hz=fun i r sl e2=>∃ (es:List (List AV)) (t:Nat),sl 11=.row t 15 0 es.length/\StI L g U k1 v around n a1 A C K i es t e2.h e2.c:=⟨_,rfl⟩;refine aZ 22 Fn54.W0 (List.replicate g7 ()) hz (by rfl) (by rfl) ?_ ?_ ?_
 ·rw [dp];refine ⟨by simp,[],v+1,by simp,0,n,a1,fun _=>False,rfl,by omega,by show v+1<kt; omega,?_,.nil _,fun _ h=>h.elim,by omega,?_,by omega,by omega,m6,by omega,by omega,?_,?_⟩
  ·show Z (v+1)=_;rw [ht _ (by omega),ae]
  ·show Z U=_;rw [ht _ (by omega),qv,ad mb]; exact l5
  ·show Z v=_;rw [ht _ bN,qv,ae]
  ·intro d f am bl;show Z d=_;rw [ht _ am,qv,qv]
 ·intro bk e2 c7 fx;rw [dp] at fx;obtain ⟨es,t,bx,j9,N,d0,h3,eP,d2,dW,bj,di,dk,d4,p7,e0,d',g8,e3,d3,de,dN⟩:=fx;obtain ⟨h,c⟩:=e2;simp at bx c7 eP d4 d' d3;simp only at d2 dW bj di dk p7 g8 de dN;simp [c7,bx,dp];have hX:g7=1\/g7=2:=by omega
  refine ⟨es,by omega,t,⟨rfl,rfl⟩,j9,N,d0,h3,by omega,dW,bj,di,fun d f=>⟨by have:=dk d f; omega,(dk d f).2⟩,?_,p7,e0,?_,g8,by omega,?_,dN⟩
  ·rcases hX with e | e <;> rw [e] at d4 <;> omega
  ·rcases hX with e | e <;> rw [e] at d' <;> omega
  ·rcases hX with e | e <;> rw [e] at d3 <;> omega
 ·intro i x xs bk e2 i8 j2 oy c7 fx;rw [dp] at fx;obtain ⟨es,t,bx,j9,N,d0,h3,eP,d2,dW,bj,di,dk,d4,p7,e0,d',g8,e3,d3,de,dN⟩:=fx;obtain ⟨h,c⟩:=e2;simp at bx i8;simp only at d2 dW bj di dk p7 g8 de dN;have k':bsI 1 [.str ⟨#[]⟩] 3 [(0,.str ⟨#[105]⟩),(1,.str ⟨#[106]⟩),(2,.str ⟨#[107]⟩)] .mut ⟨h,c⟩=some (.row c 1 0 3,⟨upd h c (some (.row 1 (ak [⟨#[105]⟩,⟨#[106]⟩,⟨#[107]⟩]) .live none)),c+1⟩):=by
   simp [bsI,az,ak]
  have hV:¬v=c:=by omega
  have i5:=xe [⟨#[105]⟩,⟨#[106]⟩,⟨#[107]⟩] 138 [] [.ptr v 0 0] (fun x=>inL x around) (upd h c (some (.row 1 (ak [⟨#[105]⟩,⟨#[106]⟩,⟨#[107]⟩]) .live none))) c (c+1) (by simp) (by simp) (fun x k0 ks p nx=>by
   refine (xh around x v k0 ks ?_);rw [p _ hV,ad hV]; exact de)
  simp only [s5,x5] at i5;simp [c7,i8,k'];refine i5.mono ?_;rintro av ⟨a0,kx⟩ lb ⟨hs,gb,rfl,o1,o2,jj,i6⟩;simp only at lb jj i6;have f1:∀ d,d≠c->a0 d=h d:=fun d f=>by rw [i6 d f,ad f]
  simp;have n':(i:Int)<=1:=by omega
  have i9:(i:Int)=0\/(i:Int)=1:=by omega
  have oc:(i:Int)*(120+K)<=120+K:=by rcases i9 with e | e <;> rw [e] <;> omega
  have ob:(i:Int)*A<=A:=by rcases i9 with e | e <;> rw [e] <;> omega
  refine ACalls.draw (dg L d0 6 g a0 kx (by omega) (by unfold SM; rw [f1 _ (by omega)]; exact g8) (by omega) (by omega) b3 (by omega)) fun a5 fn dl gm u n0 o' pa hu f6=>?_
  obtain ⟨fa,rfl,of,oi,_⟩:=u;simp [bx];have eo:fn v=some (.row 1 [[row (ak around)]] .live none):=by rw [f6 _ bN,f1 _ hV]; exact de
  have hl:fn U=some (.row 1 [[.int N]] .live none):=by rw [f6 _ (s4 f2),f1 _ (by omega)]; exact p7
  by_cases a3:1<deep/\fa<3/\0<gb
  ·obtain ⟨a4,hY,me⟩:=a3;simp [a4,hY,me];obtain ⟨mk,i'⟩:∃ mk:Int,mk=(if (gb:Int)<2 then (gb:Int) else 2):=⟨_,rfl⟩
   have l4:1<=mk/\mk<=gb/\mk<=2:=by rw [i']; split <;> omega
   rw [<-i'];refine ACalls.draw (dg L gm mk g fn dl (by omega) hu (by omega) (by omega) b3 (by omega)) fun a5 e4 q fm u hU h1 h2 f7 cp=>?_
   obtain ⟨j5,rfl,oo,l0,_⟩:=u;have op:=l0 l4.1;obtain ⟨gv,lw⟩:∃ gv:Nat,j5=gv:=⟨j5.toNat,by omega⟩
   subst lw;have lv:gv<hs.length:=by omega
   have lx:gv<gb:=by omega
   have mm:e4 c=some (.row 1 (ak hs) .live none):=by rw [cp _ (by omega),f6 _ (by omega)]; exact jj
   obtain ⟨G,m2⟩:∃ G,(ak hs)[gv]?=some [.str G]:=⟨hs[gv],by simp [ak,lv]⟩
   simp [lx,mm,m2,aH,bsI,az];have hk:¬g=q:=by omega
   have gn:¬q=g:=by omega
   refine ACalls.draw (R:=fun bk=>∃ d,bk=.int d/\d∈[0,0,1]) (cC [0,0,1] L fm g _ _ (by simp) (by simp) (by unfold SM; rw [ad hk]; exact f7) (by omega) (by omega) b3 (by omega)) fun a5 b1 c' bo u hj hv hw gw bm=>?_
   obtain ⟨gl,rfl,_⟩:=u;simp;refine ACalls.quiet (R:=fun av=>∃ ai:Wb.Form,av=ai.av) (bI gl [] (by simp) (by simp) ⟨b1,c'⟩) fun a5 bW u gr=>?_
   obtain ⟨H,rfl⟩:=u;simp;refine ACalls.pure (eK H 1) fun f8 i4=>?_;simp [bsI,az,Bound.av,Bound.cells];refine ACalls.draw (R:=fun bk=>∃ d,bk=.int d/\d∈[2,3,4]) (cC [2,3,4] L bo g _ _ (by simp) (by simp) gw (by omega) (by omega) b3 (by omega)) fun a5 hc bt hC u ld kd ki gx cq=>?_
   obtain ⟨e1,rfl,_⟩:=u;simp;refine ACalls.quiet (R:=fun av=>∃ ai:Wb.Form,av=ai.av) (bI e1 [] (by simp) (by simp) ⟨hc,bt⟩) fun a5 nk u n1=>?_
   obtain ⟨J,rfl⟩:=u;simp;refine ACalls.pure (eK J 1) fun kv nF=>?_;have j3:hc q=some (.row 15 [[.int 1,.str G,.nil,.nil,.nil,.nil,.str ⟨#[]⟩,.nil,.int 0,.int 0,.int 0,.nil,.str ⟨#[]⟩,.nil,.nil]] .live none):=by rw [cq _ gn,bm _ gn,ae]
   have hi:hc v=some (.row 1 [[row (ak around)]] .live none):=by rw [cq _ bN,bm _ bN,qv,cp _ bN]; exact eo
   have gp:¬v=q:=by omega
   by_cases hh:around=[]
   ·have m0:(ak around).length=0:=by rw [hh]; rfl
    simp [bsI,az,Bound.av,Bound.cells,j3,hi,gp,m0];obtain ⟨p,D⟩:∃ p,p=upd hc q (some (.row 15 [[.int 1,.str G,.sl [[.int H.const,row (H.terms.map Term.cells),.int 1]] true,.sl [[.int J.const,row (J.terms.map Term.cells),.int 1]] true,.nil,.nil,.str ⟨#[]⟩,.nil,.int 0,.int 0,.int 0,.nil,.str ⟨#[]⟩,.nil,.nil]] .live none)):=⟨_,rfl⟩;have S:=(congrFun D q).trans ae;have b2:p v=some (.row 1 [[row (ak around)]] .live none):=by rw [D,qv]; exact hi
    have cn:p U=some (.row 1 [[.int N]] .live none):=by rw [D,qv,cq _ (by omega),bm _ (by omega),qv,cp _ (by omega)]; exact hl
    have bi:SM p g L hC:=by unfold SM; rw [D,qv]; exact gx
    have a3:∀ d,d<c->d≠g->p d=h d:=fun d f T=>by rw [D,qv,cq _ T,bm _ T,qv,cp _ T,f6 _ T,f1 _ (by omega)]
    rw [<-D];obtain ⟨aa,dv⟩:∃ aa,aa=kv:=⟨_,rfl⟩;obtain ⟨ax,ds⟩:∃ ax,ax=hC:=⟨_,rfl⟩;rw [<-dv];rw [<-ds] at bi;have cc:norm (.sl [[.int H.const,row (H.terms.map Term.cells),.int 1]] true)=row (([⟨H,1⟩]:List Wb.Bound).map Bound.cells):=by simp [Bound.cells]
    have cb:norm (.sl [[.int J.const,row (J.terms.map Term.cells),.int 1]] true)=row (([⟨J,1⟩]:List Wb.Bound).map Bound.cells):=by simp [Bound.cells]
    obtain ⟨Y,ca⟩:∃ Y:AV,Y=.sl [[.int H.const,row (H.terms.map Term.cells),.int 1]] true:=⟨_,rfl⟩;obtain ⟨W,b9⟩:∃ W:AV,W=.sl [[.int J.const,row (J.terms.map Term.cells),.int 1]] true:=⟨_,rfl⟩;have b':Y.cell=true:=by rw [ca]; rfl
    have b8:W.cell=true:=by rw [b9]; rfl
    rw [<-ca] at cc S;rw [<-b9] at cb S;refine (fK around p aa).mono ?_;rintro av ⟨g0,gN⟩ ex ⟨ar,b5⟩;simp only at ex ar b5;obtain ⟨ea,a6,b0,en,ez,el,eM⟩:=e7 ar b5 G (by omega)
    have eW:(ak (around++[G])).length=around.length+1:=by simp [ak]
    have ey:=dj (s:=⟨b0,a6⟩) (z:=1) ez eW;obtain ⟨ap,b7⟩:∃ ap,ap=upd b0 ea (some (.row 1 (ak (around++[G])) .frz none)):=⟨_,rfl⟩;have M:Fr aa p ap a6:=by rw [b7]; exact el.upd eM (q5 _)
    have em:=(ar.h q (by omega)).trans S
    have eg:=(ar.h v (by omega)).trans b2
    have c8:=q0 (x:=deep-1)
    have g4:=M.c;simp [em,eg,bsI,az,en,ey,-er,c8,<-b7];refine ((f4 a4) (around++[G]) 2 N ax ap a6 (by simp; omega) (by omega) (by omega) (by unfold SM; rw [M.h g (by omega)]; exact bi) (by omega) (by omega) ((M.h U (by omega)).trans cn) (by omega) (by omega) (by omega) (by omega)).mono ?_
    rintro av ⟨a7,ab⟩ c2 ⟨ag,m,f',rfl,ao,n2,a2,Q,gc,c9,bb,bc,R,gg,bf,gi,gk,a',ge,gf,O⟩;simp only at c2 c9 bb bc R bf a' O;have b4:=(O q (by omega) (by omega) (by omega)).trans ((M.h q (by omega)).trans S)
    have c5:a7 t=some (.row 15 es .live none):=(O t (by omega) (by omega) (by omega)).trans ((M.h t (by omega)).trans ((a3 t (by omega) (by omega)).trans bj))
    obtain ⟨k,al⟩:∃ k:List AV,k=[.int 1,.str G,Y,W,.nil,.row m 15 0 ag.length,.str ⟨#[]⟩,.nil,.int 0,.int 0,.int 0,.nil,.str ⟨#[]⟩,.nil,.nil]:=⟨_,rfl⟩;obtain ⟨o,l⟩:∃ o,o=upd a7 q (some (.row 15 [k] .live none)):=⟨_,rfl⟩;have cx:o q=some (.row 15 [k] .live none):=by rw [l,ae]
    have a9:Tr 2 o (fun d=>Q d\/d=m) [k] (1+ao+0):=by
     rw [al];exact Tr.cons (fun d=>Q d\/d=m) (fun d=>d=m) Q (fun _=>False) 1 G Y W .nil (.row m 15 0 ag.length) ⟨#[]⟩ .nil _ ([⟨H,1⟩]) ([⟨J,1⟩]) [] [] (.mk 0 0 ⟨0,[]⟩ ⟨#[]⟩ [] []) ag [] ao 0 cc cb (by rfl) (by simp [Expr.cells_mk,br]) ⟨b',b8,rfl,rfl,by simp⟩ (.inl rfl) (.inr ⟨m,rfl,rfl,by rw [l,qv]; exact bb⟩)
      (bc.frame fun d f=>by have:=R d f; rw [l,qv]) (.nil _) (fun _ h=>.inr h) (fun _ h=>.inl h) (fun _ h=>h.elim) (fun d Z a0=>(R d a0).2.2 Z) (fun _ _ h=>h) (fun _ _ h=>h)
    have a8:aF 15 k=true:=a9.len k (by simp)
    have c6:o t=some (.row 15 es .live none):=by rw [l,qv]; exact c5
    have c0:apI 15 272 .plain (.row t 15 0 es.length) (.sl [k] true) ⟨o,ab⟩=_:=bE (by decide) c6 rfl (by decide) (by decide) (by decide) a8 (by omega)
    have c3:k.length=15:=by rw [al]; rfl
    have c4:k.take 15=k:=q8 (by omega)
    have c1:=ep (sz:=15) (zs:=[.int 0,.str ⟨#[]⟩,.nil,.nil,.nil,.nil,.str ⟨#[]⟩,.nil,.int 0,.int 0,.int 0,.nil,.str ⟨#[]⟩,.nil,.nil]) (by rfl) (by decide) a8 ⟨o,ab⟩
    have ch:=q0 (x:=(i:Int)+1)
    simp [b4,b',b8,<-al,<-l,cx,bx,c1,c0,c3,c4,c7,ch,dp];refine ⟨es++[k],ab,⟨rfl,by simp⟩,?_⟩
    refine StI.next (n1:=N) (n2:=n2) (a1:=d0) (a2:=a2) (Se:=fun d=>Q d\/d=m) (m1:=1+ao+0) (h:=h) (c:=c) e6 e9 eP d2 dW bj di dk d4 d' e0 d3 e3 de dN (by omega) ?_ a9 ?_ (by omega) (by omega) (by omega) ?_ ?_ (by omega) (by omega)
    ·intro d f am bl;rw [l,qv,O _ (by omega) am bl,M.h _ (by omega)]; exact a3 d f am
    ·intro d f;rcases f with f | rfl
     ·have:=R d f; omega
     ·omega
    ·rw [l,qv]; exact bf
    ·unfold SM; rw [l,qv]; exact a'
   have hg:0<around.length:=r6.2 hh;have ho:(ak around).length=around.length:=by simp [ak]
   simp [bsI,az,Bound.av,Bound.cells,j3,hi,gp,ho,hg];refine ACalls.draw (ek L hC 4 g _ _ (by omega) (by unfold SM; rw [ad hk]; exact gx) (by omega) (by omega) b3 (by omega)) fun a5 gW h5 h4 u nN nd nh g9 fb=>?_
   obtain ⟨kk,rfl⟩:=u;have hM:=(fb q gn).trans ae;have hK:gW v=some (.row 1 [[row (ak around)]] .live none):=by rw [fb _ bN,qv]; exact hi
   have i1:gW U=some (.row 1 [[.int N]] .live none):=by rw [fb _ (by omega),qv,cq _ (by omega),bm _ (by omega),qv,cp _ (by omega)]; exact hl
   have it:∀ d,d<c->d≠g->gW d=h d:=fun d f T=>by rw [fb _ T,qv,cq _ T,bm _ T,qv,cp _ T,f6 _ T,f1 _ (by omega)]
   cases kk
   case false=>
    simp;obtain ⟨p,D⟩:∃ p,p=gW:=⟨_,rfl⟩;obtain ⟨aa,dv⟩:∃ aa,aa=h5:=⟨_,rfl⟩;obtain ⟨ax,ds⟩:∃ ax,ax=h4:=⟨_,rfl⟩;have S:=hM;have b2:=hK;have cn:=i1;have bi:=g9;have a3:=it;rw [<-D] at S b2 cn bi a3;rw [<-ds] at bi;simp only [<-D,<-dv];simp [S,b2,bsI,az];have cc:norm (.sl [[.int H.const,row (H.terms.map Term.cells),.int 1]] true)=row (([⟨H,1⟩]:List Wb.Bound).map Bound.cells):=by simp [Bound.cells]
    have cb:norm (.sl [[.int J.const,row (J.terms.map Term.cells),.int 1]] true)=row (([⟨J,1⟩]:List Wb.Bound).map Bound.cells):=by simp [Bound.cells]
    obtain ⟨Y,ca⟩:∃ Y:AV,Y=.sl [[.int H.const,row (H.terms.map Term.cells),.int 1]] true:=⟨_,rfl⟩;obtain ⟨W,b9⟩:∃ W:AV,W=.sl [[.int J.const,row (J.terms.map Term.cells),.int 1]] true:=⟨_,rfl⟩;have b':Y.cell=true:=by rw [ca]; rfl
    have b8:W.cell=true:=by rw [b9]; rfl
    rw [<-ca] at cc S;rw [<-b9] at cb S;refine (fK around p aa).mono ?_;rintro av ⟨g0,gN⟩ ex ⟨ar,b5⟩;simp only at ex ar b5;obtain ⟨ea,a6,b0,en,ez,el,eM⟩:=e7 ar b5 G (by omega)
    have eW:(ak (around++[G])).length=around.length+1:=by simp [ak]
    have ey:=dj (s:=⟨b0,a6⟩) (z:=1) ez eW;obtain ⟨ap,b7⟩:∃ ap,ap=upd b0 ea (some (.row 1 (ak (around++[G])) .frz none)):=⟨_,rfl⟩;have M:Fr aa p ap a6:=by rw [b7]; exact el.upd eM (q5 _)
    have em:=(ar.h q (by omega)).trans S
    have eg:=(ar.h v (by omega)).trans b2
    have c8:=q0 (x:=deep-1)
    have g4:=M.c;simp [em,eg,bsI,az,en,ey,-er,c8,<-b7];refine ((f4 a4) (around++[G]) 2 N ax ap a6 (by simp; omega) (by omega) (by omega) (by unfold SM; rw [M.h g (by omega)]; exact bi) (by omega) (by omega) ((M.h U (by omega)).trans cn) (by omega) (by omega) (by omega) (by omega)).mono ?_
    rintro av ⟨a7,ab⟩ c2 ⟨ag,m,f',rfl,ao,n2,a2,Q,gc,c9,bb,bc,R,gg,bf,gi,gk,a',ge,gf,O⟩;simp only at c2 c9 bb bc R bf a' O;have b4:=(O q (by omega) (by omega) (by omega)).trans ((M.h q (by omega)).trans S)
    have c5:a7 t=some (.row 15 es .live none):=(O t (by omega) (by omega) (by omega)).trans ((M.h t (by omega)).trans ((a3 t (by omega) (by omega)).trans bj))
    obtain ⟨k,al⟩:∃ k:List AV,k=[.int 1,.str G,Y,W,.nil,.row m 15 0 ag.length,.str ⟨#[]⟩,.nil,.int 0,.int 0,.int 0,.nil,.str ⟨#[]⟩,.nil,.nil]:=⟨_,rfl⟩;obtain ⟨o,l⟩:∃ o,o=upd a7 q (some (.row 15 [k] .live none)):=⟨_,rfl⟩;have cx:o q=some (.row 15 [k] .live none):=by rw [l,ae]
    have a9:Tr 2 o (fun d=>Q d\/d=m) [k] (1+ao+0):=by
     rw [al];exact Tr.cons (fun d=>Q d\/d=m) (fun d=>d=m) Q (fun _=>False) 1 G Y W .nil (.row m 15 0 ag.length) ⟨#[]⟩ .nil _ ([⟨H,1⟩]) ([⟨J,1⟩]) [] [] (.mk 0 0 ⟨0,[]⟩ ⟨#[]⟩ [] []) ag [] ao 0 cc cb (by rfl) (by simp [Expr.cells_mk,br]) ⟨b',b8,rfl,rfl,by simp⟩ (.inl rfl) (.inr ⟨m,rfl,rfl,by rw [l,qv]; exact bb⟩)
      (bc.frame fun d f=>by have:=R d f; rw [l,qv]) (.nil _) (fun _ h=>.inr h) (fun _ h=>.inl h) (fun _ h=>h.elim) (fun d Z a0=>(R d a0).2.2 Z) (fun _ _ h=>h) (fun _ _ h=>h)
    have a8:aF 15 k=true:=a9.len k (by simp)
    have c6:o t=some (.row 15 es .live none):=by rw [l,qv]; exact c5
    have c0:apI 15 272 .plain (.row t 15 0 es.length) (.sl [k] true) ⟨o,ab⟩=_:=bE (by decide) c6 rfl (by decide) (by decide) (by decide) a8 (by omega)
    have c3:k.length=15:=by rw [al]; rfl
    have c4:k.take 15=k:=q8 (by omega)
    have c1:=ep (sz:=15) (zs:=[.int 0,.str ⟨#[]⟩,.nil,.nil,.nil,.nil,.str ⟨#[]⟩,.nil,.int 0,.int 0,.int 0,.nil,.str ⟨#[]⟩,.nil,.nil]) (by rfl) (by decide) a8 ⟨o,ab⟩
    have ch:=q0 (x:=(i:Int)+1)
    simp [b4,b',b8,<-al,<-l,cx,bx,c1,c0,c3,c4,c7,ch,dp];refine ⟨es++[k],ab,⟨rfl,by simp⟩,?_⟩
    refine StI.next (n1:=N) (n2:=n2) (a1:=d0) (a2:=a2) (Se:=fun d=>Q d\/d=m) (m1:=1+ao+0) (h:=h) (c:=c) e6 e9 eP d2 dW bj di dk d4 d' e0 d3 e3 de dN (by omega) ?_ a9 ?_ (by omega) (by omega) (by omega) ?_ ?_ (by omega) (by omega)
    ·intro d f am bl;rw [l,qv,O _ (by omega) am bl,M.h _ (by omega)]; exact a3 d f am
    ·intro d f;rcases f with f | rfl
     ·have:=R d f; omega
     ·omega
    ·rw [l,qv]; exact bf
    ·unfold SM; rw [l,qv]; exact a'
   obtain ⟨f5,j1⟩:∃ f5,around.length=f5+1:=⟨around.length-1,by omega⟩
   obtain ⟨da,e'⟩:∃ da,(ak around)[f5]?=some [.str da]:=⟨around[f5],by simp [ak,j1]⟩
   have m1:(ak around).length=f5+1:=by rw [ho,j1]
   have ga:=q0 (x:=(f5:Int))
   have l2:∀ hn:f5<(ak around).length,(ak around)[f5]'hn=[.str da]:=fun hn=>(q4.1 e').2;simp [hM,hK,m1,ga,e',l2];refine ACalls.draw (dg L h4 4 g gW h5 (by omega) g9 (by omega) (by omega) b3 (by omega)) fun a5 dn ha fd u nW pe ph hx hy=>?_
   obtain ⟨h0,rfl,os,ox,_⟩:=u;have fz:=(hy q gn).trans hM;have fs:=(hy v bN).trans hK;have hf:=(hy U (by omega)).trans i1
   have hd:∀ d,d<c->d≠g->dn d=h d:=fun d f T=>(hy d T).trans (it d f T);by_cases hb:h0=0
   ·simp [hb,bsI,az,aH];refine ACalls.quiet (R:=fun av=>∃ ai:Wb.Form,av=ai.av) (bI 0 [⟨da,1⟩] (by simp) (by simp) ⟨dn,ha⟩) fun a5 hD u hS=>?_
    obtain ⟨w,rfl⟩:=u;simp;refine ACalls.pure (eK w 1) fun cs hT=>?_;simp [bsI,az,Bound.av,Bound.cells,fz,fs,gp];obtain ⟨p,D⟩:∃ p,p=upd dn q (some (.row 15 [[.int 1,.str G,.sl [[.int w.const,row (w.terms.map Term.cells),.int 1]] true,.sl [[.int J.const,row (J.terms.map Term.cells),.int 1]] true,.nil,.nil,.str ⟨#[]⟩,.nil,.int 0,.int 0,.int 0,.nil,.str ⟨#[]⟩,.nil,.nil]] .live none)):=⟨_,rfl⟩;have S:=(congrFun D q).trans ae;have b2:p v=some (.row 1 [[row (ak around)]] .live none):=by rw [D,qv]; exact fs
    have cn:p U=some (.row 1 [[.int N]] .live none):=by rw [D,qv]; exact hf
    have bi:SM p g L fd:=by unfold SM; rw [D,qv]; exact hx
    have a3:∀ d,d<c->d≠g->p d=h d:=fun d f T=>by rw [D,qv]; exact hd d f T
    rw [<-D];obtain ⟨aa,dv⟩:∃ aa,aa=cs:=⟨_,rfl⟩;obtain ⟨ax,ds⟩:∃ ax,ax=fd:=⟨_,rfl⟩;rw [<-dv];rw [<-ds] at bi;have cc:norm (.sl [[.int w.const,row (w.terms.map Term.cells),.int 1]] true)=row (([⟨w,1⟩]:List Wb.Bound).map Bound.cells):=by simp [Bound.cells]
    have cb:norm (.sl [[.int J.const,row (J.terms.map Term.cells),.int 1]] true)=row (([⟨J,1⟩]:List Wb.Bound).map Bound.cells):=by simp [Bound.cells]
    obtain ⟨Y,ca⟩:∃ Y:AV,Y=.sl [[.int w.const,row (w.terms.map Term.cells),.int 1]] true:=⟨_,rfl⟩;obtain ⟨W,b9⟩:∃ W:AV,W=.sl [[.int J.const,row (J.terms.map Term.cells),.int 1]] true:=⟨_,rfl⟩;have b':Y.cell=true:=by rw [ca]; rfl
    have b8:W.cell=true:=by rw [b9]; rfl
    rw [<-ca] at cc S;rw [<-b9] at cb S;refine (fK around p aa).mono ?_;rintro av ⟨g0,gN⟩ ex ⟨ar,b5⟩;simp only at ex ar b5;obtain ⟨ea,a6,b0,en,ez,el,eM⟩:=e7 ar b5 G (by omega)
    have eW:(ak (around++[G])).length=around.length+1:=by simp [ak]
    have ey:=dj (s:=⟨b0,a6⟩) (z:=1) ez eW;obtain ⟨ap,b7⟩:∃ ap,ap=upd b0 ea (some (.row 1 (ak (around++[G])) .frz none)):=⟨_,rfl⟩;have M:Fr aa p ap a6:=by rw [b7]; exact el.upd eM (q5 _)
    have em:=(ar.h q (by omega)).trans S
    have eg:=(ar.h v (by omega)).trans b2
    have c8:=q0 (x:=deep-1)
    have g4:=M.c;simp [em,eg,bsI,az,en,ey,-er,c8,<-b7];refine ((f4 a4) (around++[G]) 2 N ax ap a6 (by simp; omega) (by omega) (by omega) (by unfold SM; rw [M.h g (by omega)]; exact bi) (by omega) (by omega) ((M.h U (by omega)).trans cn) (by omega) (by omega) (by omega) (by omega)).mono ?_
    rintro av ⟨a7,ab⟩ c2 ⟨ag,m,f',rfl,ao,n2,a2,Q,gc,c9,bb,bc,R,gg,bf,gi,gk,a',ge,gf,O⟩;simp only at c2 c9 bb bc R bf a' O;have b4:=(O q (by omega) (by omega) (by omega)).trans ((M.h q (by omega)).trans S)
    have c5:a7 t=some (.row 15 es .live none):=(O t (by omega) (by omega) (by omega)).trans ((M.h t (by omega)).trans ((a3 t (by omega) (by omega)).trans bj))
    obtain ⟨k,al⟩:∃ k:List AV,k=[.int 1,.str G,Y,W,.nil,.row m 15 0 ag.length,.str ⟨#[]⟩,.nil,.int 0,.int 0,.int 0,.nil,.str ⟨#[]⟩,.nil,.nil]:=⟨_,rfl⟩;obtain ⟨o,l⟩:∃ o,o=upd a7 q (some (.row 15 [k] .live none)):=⟨_,rfl⟩;have cx:o q=some (.row 15 [k] .live none):=by rw [l,ae]
    have a9:Tr 2 o (fun d=>Q d\/d=m) [k] (1+ao+0):=by
     rw [al];exact Tr.cons (fun d=>Q d\/d=m) (fun d=>d=m) Q (fun _=>False) 1 G Y W .nil (.row m 15 0 ag.length) ⟨#[]⟩ .nil _ ([⟨w,1⟩]) ([⟨J,1⟩]) [] [] (.mk 0 0 ⟨0,[]⟩ ⟨#[]⟩ [] []) ag [] ao 0 cc cb (by rfl) (by simp [Expr.cells_mk,br]) ⟨b',b8,rfl,rfl,by simp⟩ (.inl rfl) (.inr ⟨m,rfl,rfl,by rw [l,qv]; exact bb⟩)
      (bc.frame fun d f=>by have:=R d f; rw [l,qv]) (.nil _) (fun _ h=>.inr h) (fun _ h=>.inl h) (fun _ h=>h.elim) (fun d Z a0=>(R d a0).2.2 Z) (fun _ _ h=>h) (fun _ _ h=>h)
    have a8:aF 15 k=true:=a9.len k (by simp)
    have c6:o t=some (.row 15 es .live none):=by rw [l,qv]; exact c5
    have c0:apI 15 272 .plain (.row t 15 0 es.length) (.sl [k] true) ⟨o,ab⟩=_:=bE (by decide) c6 rfl (by decide) (by decide) (by decide) a8 (by omega)
    have c3:k.length=15:=by rw [al]; rfl
    have c4:k.take 15=k:=q8 (by omega)
    have c1:=ep (sz:=15) (zs:=[.int 0,.str ⟨#[]⟩,.nil,.nil,.nil,.nil,.str ⟨#[]⟩,.nil,.int 0,.int 0,.int 0,.nil,.str ⟨#[]⟩,.nil,.nil]) (by rfl) (by decide) a8 ⟨o,ab⟩
    have ch:=q0 (x:=(i:Int)+1)
    simp [b4,b',b8,<-al,<-l,cx,bx,c1,c0,c3,c4,c7,ch,dp];refine ⟨es++[k],ab,⟨rfl,by simp⟩,?_⟩
    refine StI.next (n1:=N) (n2:=n2) (a1:=d0) (a2:=a2) (Se:=fun d=>Q d\/d=m) (m1:=1+ao+0) (h:=h) (c:=c) e6 e9 eP d2 dW bj di dk d4 d' e0 d3 e3 de dN (by omega) ?_ a9 ?_ (by omega) (by omega) (by omega) ?_ ?_ (by omega) (by omega)
    ·intro d f am bl;rw [l,qv,O _ (by omega) am bl,M.h _ (by omega)]; exact a3 d f am
    ·intro d f;rcases f with f | rfl
     ·have:=R d f; omega
     ·omega
    ·rw [l,qv]; exact bf
    ·unfold SM; rw [l,qv]; exact a'
   by_cases hF:h0=1
   ·simp [hb,hF,bsI,az,aH];refine ACalls.quiet (R:=fun av=>∃ ai:Wb.Form,av=ai.av) (bI 0 [⟨da,1⟩] (by simp) (by simp) ⟨dn,ha⟩) fun a5 hD u hS=>?_
    obtain ⟨w,rfl⟩:=u;simp;refine ACalls.pure (eK w 1) fun cs hT=>?_;simp [bsI,az,Bound.av,Bound.cells,fz,fs,gp];obtain ⟨p,D⟩:∃ p,p=upd dn q (some (.row 15 [[.int 1,.str G,.sl [[.int H.const,row (H.terms.map Term.cells),.int 1]] true,.sl [[.int w.const,row (w.terms.map Term.cells),.int 1]] true,.nil,.nil,.str ⟨#[]⟩,.nil,.int 0,.int 0,.int 0,.nil,.str ⟨#[]⟩,.nil,.nil]] .live none)):=⟨_,rfl⟩;have S:=(congrFun D q).trans ae;have b2:p v=some (.row 1 [[row (ak around)]] .live none):=by rw [D,qv]; exact fs
    have cn:p U=some (.row 1 [[.int N]] .live none):=by rw [D,qv]; exact hf
    have bi:SM p g L fd:=by unfold SM; rw [D,qv]; exact hx
    have a3:∀ d,d<c->d≠g->p d=h d:=fun d f T=>by rw [D,qv]; exact hd d f T
    rw [<-D];obtain ⟨aa,dv⟩:∃ aa,aa=cs:=⟨_,rfl⟩;obtain ⟨ax,ds⟩:∃ ax,ax=fd:=⟨_,rfl⟩;rw [<-dv];rw [<-ds] at bi;have cc:norm (.sl [[.int H.const,row (H.terms.map Term.cells),.int 1]] true)=row (([⟨H,1⟩]:List Wb.Bound).map Bound.cells):=by simp [Bound.cells]
    have cb:norm (.sl [[.int w.const,row (w.terms.map Term.cells),.int 1]] true)=row (([⟨w,1⟩]:List Wb.Bound).map Bound.cells):=by simp [Bound.cells]
    obtain ⟨Y,ca⟩:∃ Y:AV,Y=.sl [[.int H.const,row (H.terms.map Term.cells),.int 1]] true:=⟨_,rfl⟩;obtain ⟨W,b9⟩:∃ W:AV,W=.sl [[.int w.const,row (w.terms.map Term.cells),.int 1]] true:=⟨_,rfl⟩;have b':Y.cell=true:=by rw [ca]; rfl
    have b8:W.cell=true:=by rw [b9]; rfl
    rw [<-ca] at cc S;rw [<-b9] at cb S;refine (fK around p aa).mono ?_;rintro av ⟨g0,gN⟩ ex ⟨ar,b5⟩;simp only at ex ar b5;obtain ⟨ea,a6,b0,en,ez,el,eM⟩:=e7 ar b5 G (by omega)
    have eW:(ak (around++[G])).length=around.length+1:=by simp [ak]
    have ey:=dj (s:=⟨b0,a6⟩) (z:=1) ez eW;obtain ⟨ap,b7⟩:∃ ap,ap=upd b0 ea (some (.row 1 (ak (around++[G])) .frz none)):=⟨_,rfl⟩;have M:Fr aa p ap a6:=by rw [b7]; exact el.upd eM (q5 _)
    have em:=(ar.h q (by omega)).trans S
    have eg:=(ar.h v (by omega)).trans b2
    have c8:=q0 (x:=deep-1)
    have g4:=M.c;simp [em,eg,bsI,az,en,ey,-er,c8,<-b7];refine ((f4 a4) (around++[G]) 2 N ax ap a6 (by simp; omega) (by omega) (by omega) (by unfold SM; rw [M.h g (by omega)]; exact bi) (by omega) (by omega) ((M.h U (by omega)).trans cn) (by omega) (by omega) (by omega) (by omega)).mono ?_
    rintro av ⟨a7,ab⟩ c2 ⟨ag,m,f',rfl,ao,n2,a2,Q,gc,c9,bb,bc,R,gg,bf,gi,gk,a',ge,gf,O⟩;simp only at c2 c9 bb bc R bf a' O;have b4:=(O q (by omega) (by omega) (by omega)).trans ((M.h q (by omega)).trans S)
    have c5:a7 t=some (.row 15 es .live none):=(O t (by omega) (by omega) (by omega)).trans ((M.h t (by omega)).trans ((a3 t (by omega) (by omega)).trans bj))
    obtain ⟨k,al⟩:∃ k:List AV,k=[.int 1,.str G,Y,W,.nil,.row m 15 0 ag.length,.str ⟨#[]⟩,.nil,.int 0,.int 0,.int 0,.nil,.str ⟨#[]⟩,.nil,.nil]:=⟨_,rfl⟩;obtain ⟨o,l⟩:∃ o,o=upd a7 q (some (.row 15 [k] .live none)):=⟨_,rfl⟩;have cx:o q=some (.row 15 [k] .live none):=by rw [l,ae]
    have a9:Tr 2 o (fun d=>Q d\/d=m) [k] (1+ao+0):=by
     rw [al];exact Tr.cons (fun d=>Q d\/d=m) (fun d=>d=m) Q (fun _=>False) 1 G Y W .nil (.row m 15 0 ag.length) ⟨#[]⟩ .nil _ ([⟨H,1⟩]) ([⟨w,1⟩]) [] [] (.mk 0 0 ⟨0,[]⟩ ⟨#[]⟩ [] []) ag [] ao 0 cc cb (by rfl) (by simp [Expr.cells_mk,br]) ⟨b',b8,rfl,rfl,by simp⟩ (.inl rfl) (.inr ⟨m,rfl,rfl,by rw [l,qv]; exact bb⟩)
      (bc.frame fun d f=>by have:=R d f; rw [l,qv]) (.nil _) (fun _ h=>.inr h) (fun _ h=>.inl h) (fun _ h=>h.elim) (fun d Z a0=>(R d a0).2.2 Z) (fun _ _ h=>h) (fun _ _ h=>h)
    have a8:aF 15 k=true:=a9.len k (by simp)
    have c6:o t=some (.row 15 es .live none):=by rw [l,qv]; exact c5
    have c0:apI 15 272 .plain (.row t 15 0 es.length) (.sl [k] true) ⟨o,ab⟩=_:=bE (by decide) c6 rfl (by decide) (by decide) (by decide) a8 (by omega)
    have c3:k.length=15:=by rw [al]; rfl
    have c4:k.take 15=k:=q8 (by omega)
    have c1:=ep (sz:=15) (zs:=[.int 0,.str ⟨#[]⟩,.nil,.nil,.nil,.nil,.str ⟨#[]⟩,.nil,.int 0,.int 0,.int 0,.nil,.str ⟨#[]⟩,.nil,.nil]) (by rfl) (by decide) a8 ⟨o,ab⟩
    have ch:=q0 (x:=(i:Int)+1)
    simp [b4,b',b8,<-al,<-l,cx,bx,c1,c0,c3,c4,c7,ch,dp];refine ⟨es++[k],ab,⟨rfl,by simp⟩,?_⟩
    refine StI.next (n1:=N) (n2:=n2) (a1:=d0) (a2:=a2) (Se:=fun d=>Q d\/d=m) (m1:=1+ao+0) (h:=h) (c:=c) e6 e9 eP d2 dW bj di dk d4 d' e0 d3 e3 de dN (by omega) ?_ a9 ?_ (by omega) (by omega) (by omega) ?_ ?_ (by omega) (by omega)
    ·intro d f am bl;rw [l,qv,O _ (by omega) am bl,M.h _ (by omega)]; exact a3 d f am
    ·intro d f;rcases f with f | rfl
     ·have:=R d f; omega
     ·omega
    ·rw [l,qv]; exact bf
    ·unfold SM; rw [l,qv]; exact a'
   by_cases h6:h0=2
   ·simp [hb,hF,h6,bsI,az,aH,fz];refine ACalls.quiet (R:=fun av=>∃ ai:Wb.Form,av=ai.av) (bI 3 [⟨da,1⟩] (by simp) (by simp) ⟨dn,ha⟩) fun a5 hD u hS=>?_
    obtain ⟨w,rfl⟩:=u;simp [fz];refine ACalls.pure (eK w 2) fun cs hT=>?_;have hQ:=dr (sz:=3) (bytes:=40) (md:=.fz) (es:=[[.int J.const,row (J.terms.map Term.cells),.int 1]]) (xs:=[[.int w.const,row (w.terms.map Term.cells),.int 2]]) (b:=true) (s:=⟨dn,cs⟩) (by decide) (by decide) (by decide) (fun e b6=>by simp at b6; subst b6; rfl) (fun e b6=>by simp at b6; subst b6; rfl) (by simp) (.inl (by simp))
    have hJ:¬q=cs:=by omega
    have hI:¬v=cs:=by omega
    simp [bsI,az,Bound.av,Bound.cells,fz,fs,gp,hQ,hJ,hI];obtain ⟨p,D⟩:∃ p,p=upd (upd dn cs (some (.row 3 [[.int J.const,row (J.terms.map Term.cells),.int 1],[.int w.const,row (w.terms.map Term.cells),.int 2]] .frz none))) q (some (.row 15 [[.int 1,.str G,.sl [[.int H.const,row (H.terms.map Term.cells),.int 1]] true,.sl [[.int J.const,row (J.terms.map Term.cells),.int 1],[.int w.const,row (w.terms.map Term.cells),.int 2]] false,.nil,.nil,.str ⟨#[]⟩,.nil,.int 0,.int 0,.int 0,.nil,.str ⟨#[]⟩,.nil,.nil]] .live none)):=⟨_,rfl⟩;have S:=(congrFun D q).trans ae;have b2:p v=some (.row 1 [[row (ak around)]] .live none):=by rw [D,qv,qv]; exact fs
    have cn:p U=some (.row 1 [[.int N]] .live none):=by rw [D,qv,qv]; exact hf
    have bi:SM p g L fd:=by unfold SM; rw [D,qv,qv]; exact hx
    have a3:∀ d,d<c->d≠g->p d=h d:=fun d f T=>by rw [D,qv,qv]; exact hd d f T
    rw [<-D];obtain ⟨aa,dv⟩:∃ aa,aa=(cs+1):=⟨_,rfl⟩;obtain ⟨ax,ds⟩:∃ ax,ax=fd:=⟨_,rfl⟩;rw [<-dv];rw [<-ds] at bi;have cc:norm (.sl [[.int H.const,row (H.terms.map Term.cells),.int 1]] true)=row (([⟨H,1⟩]:List Wb.Bound).map Bound.cells):=by simp [Bound.cells]
    have cb:norm (.sl [[.int J.const,row (J.terms.map Term.cells),.int 1],[.int w.const,row (w.terms.map Term.cells),.int 2]] false)=row (([⟨J,1⟩,⟨w,2⟩]:List Wb.Bound).map Bound.cells):=by simp [Bound.cells]
    obtain ⟨Y,ca⟩:∃ Y:AV,Y=.sl [[.int H.const,row (H.terms.map Term.cells),.int 1]] true:=⟨_,rfl⟩;obtain ⟨W,b9⟩:∃ W:AV,W=.sl [[.int J.const,row (J.terms.map Term.cells),.int 1],[.int w.const,row (w.terms.map Term.cells),.int 2]] false:=⟨_,rfl⟩;have b':Y.cell=true:=by rw [ca]; rfl
    have b8:W.cell=true:=by rw [b9]; rfl
    rw [<-ca] at cc S;rw [<-b9] at cb S;refine (fK around p aa).mono ?_;rintro av ⟨g0,gN⟩ ex ⟨ar,b5⟩;simp only at ex ar b5;obtain ⟨ea,a6,b0,en,ez,el,eM⟩:=e7 ar b5 G (by omega)
    have eW:(ak (around++[G])).length=around.length+1:=by simp [ak]
    have ey:=dj (s:=⟨b0,a6⟩) (z:=1) ez eW;obtain ⟨ap,b7⟩:∃ ap,ap=upd b0 ea (some (.row 1 (ak (around++[G])) .frz none)):=⟨_,rfl⟩;have M:Fr aa p ap a6:=by rw [b7]; exact el.upd eM (q5 _)
    have em:=(ar.h q (by omega)).trans S
    have eg:=(ar.h v (by omega)).trans b2
    have c8:=q0 (x:=deep-1)
    have g4:=M.c;simp [em,eg,bsI,az,en,ey,-er,c8,<-b7];refine ((f4 a4) (around++[G]) 2 N ax ap a6 (by simp; omega) (by omega) (by omega) (by unfold SM; rw [M.h g (by omega)]; exact bi) (by omega) (by omega) ((M.h U (by omega)).trans cn) (by omega) (by omega) (by omega) (by omega)).mono ?_
    rintro av ⟨a7,ab⟩ c2 ⟨ag,m,f',rfl,ao,n2,a2,Q,gc,c9,bb,bc,R,gg,bf,gi,gk,a',ge,gf,O⟩;simp only at c2 c9 bb bc R bf a' O;have b4:=(O q (by omega) (by omega) (by omega)).trans ((M.h q (by omega)).trans S)
    have c5:a7 t=some (.row 15 es .live none):=(O t (by omega) (by omega) (by omega)).trans ((M.h t (by omega)).trans ((a3 t (by omega) (by omega)).trans bj))
    obtain ⟨k,al⟩:∃ k:List AV,k=[.int 1,.str G,Y,W,.nil,.row m 15 0 ag.length,.str ⟨#[]⟩,.nil,.int 0,.int 0,.int 0,.nil,.str ⟨#[]⟩,.nil,.nil]:=⟨_,rfl⟩;obtain ⟨o,l⟩:∃ o,o=upd a7 q (some (.row 15 [k] .live none)):=⟨_,rfl⟩;have cx:o q=some (.row 15 [k] .live none):=by rw [l,ae]
    have a9:Tr 2 o (fun d=>Q d\/d=m) [k] (1+ao+0):=by
     rw [al];exact Tr.cons (fun d=>Q d\/d=m) (fun d=>d=m) Q (fun _=>False) 1 G Y W .nil (.row m 15 0 ag.length) ⟨#[]⟩ .nil _ ([⟨H,1⟩]) ([⟨J,1⟩,⟨w,2⟩]) [] [] (.mk 0 0 ⟨0,[]⟩ ⟨#[]⟩ [] []) ag [] ao 0 cc cb (by rfl) (by simp [Expr.cells_mk,br]) ⟨b',b8,rfl,rfl,by simp⟩ (.inl rfl) (.inr ⟨m,rfl,rfl,by rw [l,qv]; exact bb⟩)
      (bc.frame fun d f=>by have:=R d f; rw [l,qv]) (.nil _) (fun _ h=>.inr h) (fun _ h=>.inl h) (fun _ h=>h.elim) (fun d Z a0=>(R d a0).2.2 Z) (fun _ _ h=>h) (fun _ _ h=>h)
    have a8:aF 15 k=true:=a9.len k (by simp)
    have c6:o t=some (.row 15 es .live none):=by rw [l,qv]; exact c5
    have c0:apI 15 272 .plain (.row t 15 0 es.length) (.sl [k] true) ⟨o,ab⟩=_:=bE (by decide) c6 rfl (by decide) (by decide) (by decide) a8 (by omega)
    have c3:k.length=15:=by rw [al]; rfl
    have c4:k.take 15=k:=q8 (by omega)
    have c1:=ep (sz:=15) (zs:=[.int 0,.str ⟨#[]⟩,.nil,.nil,.nil,.nil,.str ⟨#[]⟩,.nil,.int 0,.int 0,.int 0,.nil,.str ⟨#[]⟩,.nil,.nil]) (by rfl) (by decide) a8 ⟨o,ab⟩
    have ch:=q0 (x:=(i:Int)+1)
    simp [b4,b',b8,<-al,<-l,cx,bx,c1,c0,c3,c4,c7,ch,dp];refine ⟨es++[k],ab,⟨rfl,by simp⟩,?_⟩
    refine StI.next (n1:=N) (n2:=n2) (a1:=d0) (a2:=a2) (Se:=fun d=>Q d\/d=m) (m1:=1+ao+0) (h:=h) (c:=c) e6 e9 eP d2 dW bj di dk d4 d' e0 d3 e3 de dN (by omega) ?_ a9 ?_ (by omega) (by omega) (by omega) ?_ ?_ (by omega) (by omega)
    ·intro d f am bl;rw [l,qv,O _ (by omega) am bl,M.h _ (by omega)]; exact a3 d f am
    ·intro d f;rcases f with f | rfl
     ·have:=R d f; omega
     ·omega
    ·rw [l,qv]; exact bf
    ·unfold SM; rw [l,qv]; exact a'
   simp [hb,hF,h6,bsI,az,aH,fz];refine ACalls.quiet (R:=fun av=>∃ ai:Wb.Form,av=ai.av) (bI (-1) [⟨da,1⟩] (by simp) (by simp) ⟨dn,ha⟩) fun a5 hD u hS=>?_
   obtain ⟨w,rfl⟩:=u;simp [fz];refine ACalls.pure (eK w 1) fun cs hT=>?_;have hQ:=dr (sz:=3) (bytes:=40) (md:=.fz) (es:=[[.int H.const,row (H.terms.map Term.cells),.int 1]]) (xs:=[[.int w.const,row (w.terms.map Term.cells),.int 1]]) (b:=true) (s:=⟨dn,cs⟩) (by decide) (by decide) (by decide) (fun e b6=>by simp at b6; subst b6; rfl) (fun e b6=>by simp at b6; subst b6; rfl) (by simp) (.inl (by simp))
   have hJ:¬q=cs:=by omega
   have hI:¬v=cs:=by omega
   simp [bsI,az,Bound.av,Bound.cells,fz,fs,gp,hQ,hJ,hI];obtain ⟨p,D⟩:∃ p,p=upd (upd dn cs (some (.row 3 [[.int H.const,row (H.terms.map Term.cells),.int 1],[.int w.const,row (w.terms.map Term.cells),.int 1]] .frz none))) q (some (.row 15 [[.int 1,.str G,.sl [[.int H.const,row (H.terms.map Term.cells),.int 1],[.int w.const,row (w.terms.map Term.cells),.int 1]] false,.sl [[.int J.const,row (J.terms.map Term.cells),.int 1]] true,.nil,.nil,.str ⟨#[]⟩,.nil,.int 0,.int 0,.int 0,.nil,.str ⟨#[]⟩,.nil,.nil]] .live none)):=⟨_,rfl⟩;have S:=(congrFun D q).trans ae;have b2:p v=some (.row 1 [[row (ak around)]] .live none):=by rw [D,qv,qv]; exact fs
   have cn:p U=some (.row 1 [[.int N]] .live none):=by rw [D,qv,qv]; exact hf
   have bi:SM p g L fd:=by unfold SM; rw [D,qv,qv]; exact hx
   have a3:∀ d,d<c->d≠g->p d=h d:=fun d f T=>by rw [D,qv,qv]; exact hd d f T
   rw [<-D];obtain ⟨aa,dv⟩:∃ aa,aa=(cs+1):=⟨_,rfl⟩;obtain ⟨ax,ds⟩:∃ ax,ax=fd:=⟨_,rfl⟩;rw [<-dv];rw [<-ds] at bi;have cc:norm (.sl [[.int H.const,row (H.terms.map Term.cells),.int 1],[.int w.const,row (w.terms.map Term.cells),.int 1]] false)=row (([⟨H,1⟩,⟨w,1⟩]:List Wb.Bound).map Bound.cells):=by simp [Bound.cells]
   have cb:norm (.sl [[.int J.const,row (J.terms.map Term.cells),.int 1]] true)=row (([⟨J,1⟩]:List Wb.Bound).map Bound.cells):=by simp [Bound.cells]
   obtain ⟨Y,ca⟩:∃ Y:AV,Y=.sl [[.int H.const,row (H.terms.map Term.cells),.int 1],[.int w.const,row (w.terms.map Term.cells),.int 1]] false:=⟨_,rfl⟩;obtain ⟨W,b9⟩:∃ W:AV,W=.sl [[.int J.const,row (J.terms.map Term.cells),.int 1]] true:=⟨_,rfl⟩;have b':Y.cell=true:=by rw [ca]; rfl
   have b8:W.cell=true:=by rw [b9]; rfl
   rw [<-ca] at cc S;rw [<-b9] at cb S;refine (fK around p aa).mono ?_;rintro av ⟨g0,gN⟩ ex ⟨ar,b5⟩;simp only at ex ar b5;obtain ⟨ea,a6,b0,en,ez,el,eM⟩:=e7 ar b5 G (by omega)
   have eW:(ak (around++[G])).length=around.length+1:=by simp [ak]
   have ey:=dj (s:=⟨b0,a6⟩) (z:=1) ez eW;obtain ⟨ap,b7⟩:∃ ap,ap=upd b0 ea (some (.row 1 (ak (around++[G])) .frz none)):=⟨_,rfl⟩;have M:Fr aa p ap a6:=by rw [b7]; exact el.upd eM (q5 _)
   have em:=(ar.h q (by omega)).trans S
   have eg:=(ar.h v (by omega)).trans b2
   have c8:=q0 (x:=deep-1)
   have g4:=M.c;simp [em,eg,bsI,az,en,ey,-er,c8,<-b7];refine ((f4 a4) (around++[G]) 2 N ax ap a6 (by simp; omega) (by omega) (by omega) (by unfold SM; rw [M.h g (by omega)]; exact bi) (by omega) (by omega) ((M.h U (by omega)).trans cn) (by omega) (by omega) (by omega) (by omega)).mono ?_
   rintro av ⟨a7,ab⟩ c2 ⟨ag,m,f',rfl,ao,n2,a2,Q,gc,c9,bb,bc,R,gg,bf,gi,gk,a',ge,gf,O⟩;simp only at c2 c9 bb bc R bf a' O;have b4:=(O q (by omega) (by omega) (by omega)).trans ((M.h q (by omega)).trans S)
   have c5:a7 t=some (.row 15 es .live none):=(O t (by omega) (by omega) (by omega)).trans ((M.h t (by omega)).trans ((a3 t (by omega) (by omega)).trans bj))
   obtain ⟨k,al⟩:∃ k:List AV,k=[.int 1,.str G,Y,W,.nil,.row m 15 0 ag.length,.str ⟨#[]⟩,.nil,.int 0,.int 0,.int 0,.nil,.str ⟨#[]⟩,.nil,.nil]:=⟨_,rfl⟩;obtain ⟨o,l⟩:∃ o,o=upd a7 q (some (.row 15 [k] .live none)):=⟨_,rfl⟩;have cx:o q=some (.row 15 [k] .live none):=by rw [l,ae]
   have a9:Tr 2 o (fun d=>Q d\/d=m) [k] (1+ao+0):=by
    rw [al];exact Tr.cons (fun d=>Q d\/d=m) (fun d=>d=m) Q (fun _=>False) 1 G Y W .nil (.row m 15 0 ag.length) ⟨#[]⟩ .nil _ ([⟨H,1⟩,⟨w,1⟩]) ([⟨J,1⟩]) [] [] (.mk 0 0 ⟨0,[]⟩ ⟨#[]⟩ [] []) ag [] ao 0 cc cb (by rfl) (by simp [Expr.cells_mk,br]) ⟨b',b8,rfl,rfl,by simp⟩ (.inl rfl) (.inr ⟨m,rfl,rfl,by rw [l,qv]; exact bb⟩)
     (bc.frame fun d f=>by have:=R d f; rw [l,qv]) (.nil _) (fun _ h=>.inr h) (fun _ h=>.inl h) (fun _ h=>h.elim) (fun d Z a0=>(R d a0).2.2 Z) (fun _ _ h=>h) (fun _ _ h=>h)
   have a8:aF 15 k=true:=a9.len k (by simp)
   have c6:o t=some (.row 15 es .live none):=by rw [l,qv]; exact c5
   have c0:apI 15 272 .plain (.row t 15 0 es.length) (.sl [k] true) ⟨o,ab⟩=_:=bE (by decide) c6 rfl (by decide) (by decide) (by decide) a8 (by omega)
   have c3:k.length=15:=by rw [al]; rfl
   have c4:k.take 15=k:=q8 (by omega)
   have c1:=ep (sz:=15) (zs:=[.int 0,.str ⟨#[]⟩,.nil,.nil,.nil,.nil,.str ⟨#[]⟩,.nil,.int 0,.int 0,.int 0,.nil,.str ⟨#[]⟩,.nil,.nil]) (by rfl) (by decide) a8 ⟨o,ab⟩
   have ch:=q0 (x:=(i:Int)+1)
   simp [b4,b',b8,<-al,<-l,cx,bx,c1,c0,c3,c4,c7,ch,dp];refine ⟨es++[k],ab,⟨rfl,by simp⟩,?_⟩
   refine StI.next (n1:=N) (n2:=n2) (a1:=d0) (a2:=a2) (Se:=fun d=>Q d\/d=m) (m1:=1+ao+0) (h:=h) (c:=c) e6 e9 eP d2 dW bj di dk d4 d' e0 d3 e3 de dN (by omega) ?_ a9 ?_ (by omega) (by omega) (by omega) ?_ ?_ (by omega) (by omega)
   ·intro d f am bl;rw [l,qv,O _ (by omega) am bl,M.h _ (by omega)]; exact a3 d f am
   ·intro d f;rcases f with f | rfl
    ·have:=R d f; omega
    ·omega
   ·rw [l,qv]; exact bf
   ·unfold SM; rw [l,qv]; exact a'
  by_cases fx:1<deep/\fa=3/\around≠[]
  ·obtain ⟨a4,hY,hh⟩:=fx;have hg:0<around.length:=r6.2 hh;have ho:(ak around).length=around.length:=by simp [ak]
   simp [a4,hY,eo,ho,hg];obtain ⟨hA,g2⟩:∃ hA:Slots->St->Prop,hA=fun nb e2=>∃ (cl:Nat) (ai:Wb.Form) (bo:Int),nb 16=.ptr cl 0 0/\e2.h cl=some (.row 15 [[.int 2,.str ⟨#[]⟩,.nil,.nil,.sl [ai.cells] true,.nil,.str ⟨#[]⟩,.nil,.int 0,.int 0,.int 0,.nil,.str ⟨#[]⟩,.nil,.nil]] .live none)/\dl<=cl/\cl<e2.c/\SM e2.h g L bo/\gm<=bo/\bo<=gm+2/\∀ d,d<dl->d≠g->e2.h d=fn d:=⟨_,rfl⟩;obtain ⟨da,e'⟩:∃ da,(ak around)[0]?=some [.str da]:=⟨around[0],by simp [ak,hg]⟩
   have ia:¬v=dl:=by omega
   have ln:¬g=dl:=by omega
   have ik:¬dl=g:=by omega
   refine roamW_cut [16,185,186,188,189,190,191,192,187,193,194,195,196,197,198] (by rfl) hA ?_ ?_
   ·simp [roamW_t,roamW_f,roamW_n,eo,bsI,az,e',ia];refine ⟨?_,?_⟩
    ·refine ACalls.draw (R:=fun bk=>∃ d,bk=.int d/\d∈[-1,2,-2]) (cC [-1,2,-2] L gm g _ _ (by simp) (by simp) (by unfold SM; rw [ad ln]; exact hu) (by omega) (by omega) b3 (by omega)) fun a5 e4 q fm u hU h1 h2 f7 cp=>?_
     obtain ⟨gl,rfl,mu⟩:=u;have et:e4 v=some (.row 1 [[row (ak around)]] .live none):=by rw [cp _ bN,ad ia]; exact eo
     simp [et,bsI,az,e'];refine ACalls.draw (R:=fun bk=>∃ d,bk=.int d/\d∈[1,-1]) (cC [1,-1] L fm g _ _ (by simp) (by simp) f7 (by omega) (by omega) b3 (by omega)) fun a5 b1 c' bo u hj hv hw gw bm=>?_
     obtain ⟨e1,rfl,g6⟩:=u;have gs:e1≠0:=by simp at g6; omega
     have f0:b1 v=some (.row 1 [[row (ak around)]] .live none):=by rw [bm _ bN]; exact et
     simp [f0,bsI,az,aH,e'];refine ACalls.quiet (R:=fun av=>∃ ai:Wb.Form,av=ai.av) (bI gl [⟨da,e1⟩] (by simp) (by simp [gs]) ⟨b1,c'⟩) fun a5 bW u gr=>?_
     obtain ⟨ai,rfl⟩:=u;have hZ:=(bm dl ik).trans ((cp dl ik).trans ae);simp [Form.av,Form.cells,bsI,az,aH,hZ];rw [g2];refine ⟨dl,ai,bo,by simp,ae,by omega,by show dl<bW; omega,?_,by omega,by omega,?_⟩
     ·show SM (upd b1 dl _) g L bo; unfold SM; rw [qv]; first | assumption | (rw [qv]; assumption)
     ·intro d f T;show upd b1 dl _ d=_
      grind [upd]
    ·refine ACalls.draw (R:=fun bk=>∃ d,bk=.int d/\d∈[-1,2,-2]) (cC [-1,2,-2] L gm g _ _ (by simp) (by simp) hu (by omega) (by omega) b3 (by omega)) fun a5 e4 q fm u hU h1 h2 f7 cp=>?_
     obtain ⟨gl,rfl,mu⟩:=u;have et:e4 v=some (.row 1 [[row (ak around)]] .live none):=by rw [cp _ bN]; exact eo
     have ih:¬v=q:=by omega
     have hk:¬g=q:=by omega
     have gn:¬q=g:=by omega
     simp [roamW_t,roamW_f,roamW_n,et,bsI,az,e',ih];refine ⟨?_,?_⟩
     ·refine ACalls.draw (R:=fun bk=>∃ d,bk=.int d/\d∈[1,-1]) (cC [1,-1] L fm g _ _ (by simp) (by simp) (by unfold SM; rw [ad hk]; exact f7) (by omega) (by omega) b3 (by omega)) fun a5 b1 c' bo u hj hv hw gw bm=>?_
      obtain ⟨e1,rfl,g6⟩:=u;have gs:e1≠0:=by simp at g6; omega
      have f0:b1 v=some (.row 1 [[row (ak around)]] .live none):=by rw [bm _ bN,ad ih]; exact et
      simp [f0,bsI,az,aH,e'];refine ACalls.quiet (R:=fun av=>∃ ai:Wb.Form,av=ai.av) (bI gl [⟨da,e1⟩] (by simp) (by simp [gs]) ⟨b1,c'⟩) fun a5 bW u gr=>?_
      obtain ⟨ai,rfl⟩:=u;have hZ:=(bm q gn).trans ae;simp [Form.av,Form.cells,bsI,az,aH,hZ];rw [g2];refine ⟨q,ai,bo,by simp,ae,by omega,by show q<bW; omega,?_,by omega,by omega,?_⟩
      ·show SM (upd b1 q _) g L bo; unfold SM; rw [qv]; first | assumption | (rw [qv]; assumption)
      ·intro d f T;show upd b1 q _ d=_
       grind [upd]
     ·refine ACalls.draw (R:=fun bk=>∃ d,bk=.int d/\d∈[1,-1]) (cC [1,-1] L fm g _ _ (by simp) (by simp) f7 (by omega) (by omega) b3 (by omega)) fun a5 b1 c' bo u hj hv hw gw bm=>?_
      obtain ⟨e1,rfl,g6⟩:=u;have gs:e1≠0:=by simp at g6; omega
      have f0:b1 v=some (.row 1 [[row (ak around)]] .live none):=by rw [bm _ bN]; exact et
      have k2:¬v=c':=by omega
      simp [roamW_t,roamW_f,roamW_n,f0,bsI,az,aH,e',k2];refine ⟨?_,?_⟩
      ·refine ACalls.quiet (R:=fun av=>∃ ai:Wb.Form,av=ai.av) (bI gl [⟨da,e1⟩] (by simp) (by simp [gs]) ⟨_,_⟩) fun a5 bW u gr=>?_
       obtain ⟨ai,rfl⟩:=u;simp [roamW_t,roamW_f,roamW_n,Form.av,Form.cells,bsI,az,aH];rw [g2];refine ⟨c',ai,bo,by simp,ae,by omega,by show c'<bW; omega,?_,by omega,by omega,?_⟩
       ·show SM (upd _ c' _) g L bo; unfold SM; rw [qv]; first | assumption | (rw [qv]; assumption)
       ·intro d f T;show upd _ c' _ d=_
        grind [upd]
      ·refine ACalls.quiet (R:=fun av=>∃ ai:Wb.Form,av=ai.av) (bI gl [⟨da,e1⟩] (by simp) (by simp [gs]) ⟨_,_⟩) fun a5 bW u gr=>?_
       obtain ⟨ai,rfl⟩:=u;have k3:¬v=bW:=by omega
       simp [roamW_t,roamW_f,roamW_n,Form.av,Form.cells,bsI,az,aH,k3,f0];rw [g2];refine ⟨bW,ai,bo,by simp,ae,by omega,by show bW<bW+1; omega,?_,by omega,by omega,?_⟩
       ·show SM (upd _ bW _) g L bo; unfold SM; rw [qv]; first | assumption | (rw [qv]; assumption)
       ·intro d f T;show upd _ bW _ d=_
        grind [upd]
   ·intro pd m' i2;rw [g2] at i2;obtain ⟨cl,d1,bo,f3,hN,n4,li,i0,ns,nt,he⟩:=i2;obtain ⟨b1,c'⟩:=m';simp at f3;simp only at hN li i0 he;simp [f3,hN];have f0:b1 v=some (.row 1 [[row (ak around)]] .live none):=(he v (by omega) bN).trans eo
    have l6:b1 U=some (.row 1 [[.int N]] .live none):=(he U (by omega) (s4 f2)).trans hl
    have k5:∀ d,d<c->d≠g->b1 d=h d:=fun d f T=>by rw [he d (by omega) T,f6 _ T,f1 _ (by omega)]
    refine ACalls.draw (ek L bo 6 g _ _ (by omega) i0 (by omega) (by omega) b3 (by omega)) fun a5 e5 bW g' u gr nd nh g9 fb=>?_
    obtain ⟨kn,rfl⟩:=u;have hO:=(fb cl (by omega)).trans hN
    have g3:e5 v=some (.row 1 [[row (ak around)]] .live none):=(fb v bN).trans f0;have j0:e5 U=some (.row 1 [[.int N]] .live none):=(fb U (s4 f2)).trans l6;have ix:∀ d,d<c->d≠g->e5 d=h d:=fun d f T=>(fb d T).trans (k5 d f T);cases kn
    case false=>
     simp [f3];have S:=hO;have b2:=g3;have cn:=j0;have bi:=g9;have a3:=ix;have g1:CondAt e5 (fun d=>False) (.sl [d1.cells] true) [d1]:=.inl rfl;have c8:=q0 (x:=deep-1)
     simp [S,b2,c8];refine ((f4 a4) around 1 N g' e5 bW (by omega) (by omega) (by omega) bi (by omega) (by omega) cn (by omega) (by omega) (by omega) (by omega)).mono ?_
     rintro av ⟨a7,ab⟩ c2 ⟨ag,m,f',rfl,ao,n2,a2,Q,gc,c9,bb,bc,R,gg,bf,gi,gk,a',ge,gf,O⟩;simp only at c2 c9 bb bc R bf a' O;have b4:=(O cl (by omega) (by omega) (by omega)).trans S
     have c5:a7 t=some (.row 15 es .live none):=(O t (by omega) (by omega) (by omega)).trans ((a3 t (by omega) (by omega)).trans bj)
     obtain ⟨cv,g5⟩:∃ cv:AV,cv=.sl [d1.cells] true:=⟨_,rfl⟩;have hW:cv.cell=true:=by rw [g5]; rfl
     rw [<-g5] at b4 g1;obtain ⟨k,al⟩:∃ k:List AV,k=[.int 2,.str ⟨#[]⟩,.nil,.nil,cv,.row m 15 0 ag.length,.str ⟨#[]⟩,.nil,.int 0,.int 0,.int 0,.nil,.str ⟨#[]⟩,.nil,.nil]:=⟨_,rfl⟩;obtain ⟨o,l⟩:∃ o,o=upd a7 cl (some (.row 15 [k] .live none)):=⟨_,rfl⟩;have cx:o cl=some (.row 15 [k] .live none):=by rw [l,ae]
     have hL:CondAt o (fun d=>d=m\/False) cv [d1]:=g1.frame (fun d f=>.inr f) fun d f=>by
      exact f.elim
     have a9:Tr 2 o (fun d=>Q d\/(d=m\/False)) [k] (1+ao+0):=by
      rw [al];exact Tr.cons (fun d=>Q d\/(d=m\/False)) (fun d=>d=m\/False) Q (fun _=>False) 2 ⟨#[]⟩ .nil .nil cv (.row m 15 0 ag.length) ⟨#[]⟩ .nil _ [] [] [d1] [] (.mk 0 0 ⟨0,[]⟩ ⟨#[]⟩ [] []) ag [] ao 0 (by rfl) (by rfl) (by rfl) (by simp [Expr.cells_mk,br]) ⟨rfl,rfl,rfl,rfl,by simp⟩ hL (.inr ⟨m,.inl rfl,rfl,by rw [l,qv]; exact bb⟩)
       (bc.frame fun d f=>by have:=R d f; rw [l,qv]) (.nil _) (fun _ h=>.inr h) (fun _ h=>.inl h) (fun _ h=>h.elim) (fun d Z a0=>by have:=R d a0; rcases Z with Z | Z <;> omega) (fun _ _ h=>h) (fun _ _ h=>h)
     have a8:aF 15 k=true:=a9.len k (by simp)
     have c6:o t=some (.row 15 es .live none):=by rw [l,qv]; exact c5
     have c0:apI 15 272 .plain (.row t 15 0 es.length) (.sl [k] true) ⟨o,ab⟩=_:=bE (by decide) c6 rfl (by decide) (by decide) (by decide) a8 (by omega)
     have c3:k.length=15:=by rw [al]; rfl
     have c4:k.take 15=k:=q8 (by omega)
     have c1:=ep (sz:=15) (zs:=[.int 0,.str ⟨#[]⟩,.nil,.nil,.nil,.nil,.str ⟨#[]⟩,.nil,.int 0,.int 0,.int 0,.nil,.str ⟨#[]⟩,.nil,.nil]) (by rfl) (by decide) a8 ⟨o,ab⟩
     have ch:=q0 (x:=(i:Int)+1)
     simp [f3,b4,hW,<-al,<-l,cx,bx,c1,c0,c3,c4,c7,ch,dp];refine ⟨es++[k],ab,⟨rfl,by simp⟩,?_⟩
     refine StI.next (n1:=N) (n2:=n2) (a1:=d0) (a2:=a2) (Se:=fun d=>Q d\/(d=m\/False)) (m1:=1+ao+0) (h:=h) (c:=c) e6 e9 eP d2 dW bj di dk d4 d' e0 d3 e3 de dN (by omega) ?_ a9 ?_ (by omega) (by omega) (by omega) ?_ ?_ (by omega) (by omega)
     ·intro d f am bl;rw [l,qv,O _ (by omega) am bl]; exact a3 d f am
     ·intro d f;rcases f with f | rfl | f
      ·have:=R d f; omega
      ·omega
      ·exact f.elim
     ·rw [l,qv]; exact bf
     ·unfold SM; rw [l,qv]; exact a'
    simp [f3,hO,bsI,az];refine ACalls.draw (R:=fun bk=>∃ d,bk=.int d/\d∈[0,-1,3]) (cC [0,-1,3] L g' g _ _ (by simp) (by simp) g9 (by omega) (by omega) b3 (by omega)) fun a5 ef f8 hB u i4 kd ki gx cq=>?_
    obtain ⟨m5,rfl,_⟩:=u;have i3:=(cq cl (by omega)).trans hO
    have hR:ef v=some (.row 1 [[row (ak around)]] .live none):=(cq v bN).trans g3;have l':ef U=some (.row 1 [[.int N]] .live none):=(cq U (s4 f2)).trans j0;have k4:∀ d,d<c->d≠g->ef d=h d:=fun d f T=>(cq d T).trans (ix d f T);simp [f3,i3,bsI,az];refine ACalls.quiet (R:=fun av=>∃ ai:Wb.Form,av=ai.av) (bI m5 [] (by simp) (by simp) ⟨ef,f8⟩) fun a5 bt u ld=>?_
    obtain ⟨f9,rfl⟩:=u;have k9:=dr (sz:=2) (bytes:=32) (md:=.plain) (es:=[[.int d1.const,row (d1.terms.map Term.cells)]]) (xs:=[[.int f9.const,row (f9.terms.map Term.cells)]]) (b:=true) (s:=⟨ef,bt⟩) (by decide) (by decide) (by decide) (fun e b6=>by simp at b6; subst b6; rfl) (fun e b6=>by simp at b6; subst b6; rfl) (by simp) (.inl (by simp))
    have m4:¬cl=bt:=by omega
    simp [f3,i3,bsI,az,Form.av,Form.cells,k9,m4];obtain ⟨p,D⟩:∃ p,p=upd (upd ef bt (some (.row 2 [[.int d1.const,row (d1.terms.map Term.cells)],[.int f9.const,row (f9.terms.map Term.cells)]] .live none))) cl (some (.row 15 [[.int 2,.str ⟨#[]⟩,.nil,.nil,.row bt 2 0 2,.nil,.str ⟨#[]⟩,.nil,.int 0,.int 0,.int 0,.nil,.str ⟨#[]⟩,.nil,.nil]] .live none)):=⟨_,rfl⟩;obtain ⟨aa,dv⟩:∃ aa,aa=bt+1:=⟨_,rfl⟩;obtain ⟨ax,ds⟩:∃ ax,ax=hB:=⟨_,rfl⟩;have S:=(congrFun D cl).trans ae;have b2:p v=some (.row 1 [[row (ak around)]] .live none):=by rw [D,qv,qv]; exact hR
    have cn:p U=some (.row 1 [[.int N]] .live none):=by rw [D,qv,qv]; exact l'
    have bi:SM p g L ax:=by rw [ds]; unfold SM; rw [D,qv,qv]; exact gx
    have a3:∀ d,d<c->d≠g->p d=h d:=fun d f T=>by rw [D,qv,qv]; exact k4 d f T
    have g1:CondAt p (fun d=>d=bt) (.row bt 2 0 2) [d1,f9]:=.inr ⟨bt,rfl,rfl,by rw [D,qv,ae]; rfl⟩
    rw [<-D,<-dv];have c8:=q0 (x:=deep-1)
    simp [S,b2,c8];refine ((f4 a4) around 1 N ax p aa (by omega) (by omega) (by omega) bi (by omega) (by omega) cn (by omega) (by omega) (by omega) (by omega)).mono ?_
    rintro av ⟨a7,ab⟩ c2 ⟨ag,m,f',rfl,ao,n2,a2,Q,gc,c9,bb,bc,R,gg,bf,gi,gk,a',ge,gf,O⟩;simp only at c2 c9 bb bc R bf a' O;have b4:=(O cl (by omega) (by omega) (by omega)).trans S
    have c5:a7 t=some (.row 15 es .live none):=(O t (by omega) (by omega) (by omega)).trans ((a3 t (by omega) (by omega)).trans bj)
    obtain ⟨cv,g5⟩:∃ cv:AV,cv=.row bt 2 0 2:=⟨_,rfl⟩;have hW:cv.cell=true:=by rw [g5]; rfl
    rw [<-g5] at b4 g1;obtain ⟨k,al⟩:∃ k:List AV,k=[.int 2,.str ⟨#[]⟩,.nil,.nil,cv,.row m 15 0 ag.length,.str ⟨#[]⟩,.nil,.int 0,.int 0,.int 0,.nil,.str ⟨#[]⟩,.nil,.nil]:=⟨_,rfl⟩;obtain ⟨o,l⟩:∃ o,o=upd a7 cl (some (.row 15 [k] .live none)):=⟨_,rfl⟩;have cx:o cl=some (.row 15 [k] .live none):=by rw [l,ae]
    have hL:CondAt o (fun d=>d=m\/d=bt) cv [d1,f9]:=g1.frame (fun d f=>.inr f) fun d f=>by
     have ls:d=bt:=f;rw [l,qv,O d (by omega) (by omega) (by omega)]
    have a9:Tr 2 o (fun d=>Q d\/(d=m\/d=bt)) [k] (1+ao+0):=by
     rw [al];exact Tr.cons (fun d=>Q d\/(d=m\/d=bt)) (fun d=>d=m\/d=bt) Q (fun _=>False) 2 ⟨#[]⟩ .nil .nil cv (.row m 15 0 ag.length) ⟨#[]⟩ .nil _ [] [] [d1,f9] [] (.mk 0 0 ⟨0,[]⟩ ⟨#[]⟩ [] []) ag [] ao 0 (by rfl) (by rfl) (by rfl) (by simp [Expr.cells_mk,br]) ⟨rfl,rfl,rfl,rfl,by simp⟩ hL (.inr ⟨m,.inl rfl,rfl,by rw [l,qv]; exact bb⟩)
      (bc.frame fun d f=>by have:=R d f; rw [l,qv]) (.nil _) (fun _ h=>.inr h) (fun _ h=>.inl h) (fun _ h=>h.elim) (fun d Z a0=>by have:=R d a0; rcases Z with Z | Z <;> omega) (fun _ _ h=>h) (fun _ _ h=>h)
    have a8:aF 15 k=true:=a9.len k (by simp)
    have c6:o t=some (.row 15 es .live none):=by rw [l,qv]; exact c5
    have c0:apI 15 272 .plain (.row t 15 0 es.length) (.sl [k] true) ⟨o,ab⟩=_:=bE (by decide) c6 rfl (by decide) (by decide) (by decide) a8 (by omega)
    have c3:k.length=15:=by rw [al]; rfl
    have c4:k.take 15=k:=q8 (by omega)
    have c1:=ep (sz:=15) (zs:=[.int 0,.str ⟨#[]⟩,.nil,.nil,.nil,.nil,.str ⟨#[]⟩,.nil,.int 0,.int 0,.int 0,.nil,.str ⟨#[]⟩,.nil,.nil]) (by rfl) (by decide) a8 ⟨o,ab⟩
    have ch:=q0 (x:=(i:Int)+1)
    simp [f3,b4,hW,<-al,<-l,cx,bx,c1,c0,c3,c4,c7,ch,dp];refine ⟨es++[k],ab,⟨rfl,by simp⟩,?_⟩
    refine StI.next (n1:=N) (n2:=n2) (a1:=d0) (a2:=a2) (Se:=fun d=>Q d\/(d=m\/d=bt)) (m1:=1+ao+0) (h:=h) (c:=c) e6 e9 eP d2 dW bj di dk d4 d' e0 d3 e3 de dN (by omega) ?_ a9 ?_ (by omega) (by omega) (by omega) ?_ ?_ (by omega) (by omega)
    ·intro d f am bl;rw [l,qv,O _ (by omega) am bl]; exact a3 d f am
    ·intro d f;rcases f with f | rfl | f
     ·have:=R d f; omega
     ·omega
     ·have ls:d=bt:=f;omega
    ·rw [l,qv]; exact bf
    ·unfold SM; rw [l,qv]; exact a'
  have lg:¬1<deep\/(1<deep/\fa<3/\gb=0)\/(1<deep/\¬fa<3/\fa≠3)\/(1<deep/\fa=3/\around=[]):=by
   by_cases a4:1<deep
   ·by_cases Z:fa<3
    ·exact .inr (.inl ⟨a4,Z,by have:¬0<gb:=fun h=>a3 ⟨a4,Z,h⟩; omega⟩)
    ·by_cases a0:fa=3
     ·by_cases fn:around=[]
      ·exact .inr (.inr (.inr ⟨a4,a0,fn⟩))
      ·exact absurd ⟨a4,a0,fn⟩ fx
     ·exact .inr (.inr (.inl ⟨a4,Z,a0⟩))
   ·exact .inl a4
  rcases lg with a4 | ⟨a4,Z,a0⟩ | ⟨a4,Z,a0⟩ | ⟨a4,Z,a0⟩
  case' inl=>simp [a4,eo]
  case' inr.inl=>
   have dn:¬fa=3:=by omega
   subst a0;simp [a4,Z,dn,eo]
  case' inr.inr.inl=>simp [a4,Z,a0,eo]
  case' inr.inr.inr=>
   have mS:(ak around).length=0:=by rw [a0]; rfl
   simp [a4,Z,eo,mS]
  all_goals
   refine ACalls.draw (lP around (by omega) L gm g fn dl hu (by omega) (by omega) b3 (by omega)) fun a5 e4 q fm u hU h1 h2 f7 cp=>?_
   obtain ⟨j6,hH,rfl⟩:=u;have et:e4 v=some (.row 1 [[row (ak around)]] .live none):=by rw [cp _ bN]; exact eo
   have hm:e4 U=some (.row 1 [[.int N]] .live none):=by rw [cp _ (s4 f2)]; exact hl
   have hn:N.tdiv 10=0\/N.tdiv 10=1:=by
    rw [Int.tdiv_eq_ediv_of_nonneg (by omega)]; omega
   have ga:=q0 (x:=N.tdiv 10)
   simp [et,hm,bx,bsI,az,ga];obtain ⟨z,hp⟩:∃ z,z=IntKind.u8.wrap (IntKind.i64.wrap (48+N.tmod 10)):=⟨_,rfl⟩;rw [<-hp];obtain ⟨gy,hq⟩:∃ gy:UInt8,gy=UInt8.ofNat z.toNat:=⟨_,rfl⟩;have o4:(⟨#[115]⟩:ByteArray).size=1:=rfl;have o5:(⟨#[gy]⟩:ByteArray).size=1:=rfl;have k7:=uS (x:=⟨#[115]⟩) (y:=⟨#[gy]⟩) (by omega)
   simp [nX,<-hq,k7,et,hm,ga,bx,bsI,az];refine ACalls.pure (xj _ _ hn) fun c' hj=>?_;obtain ⟨y,j4⟩:∃ y:ByteArray,y=(if N.tdiv 10=0 then ⟨#[]⟩ else ⟨#[120]⟩):=⟨_,rfl⟩
   have o7:y.size<=1:=by rw [j4]; split <;> decide
   rw [<-j4];have hP:=uS (x:=⟨#[115]⟩++⟨#[gy]⟩) (y:=y) (by rw [ByteArray.size_append]; omega)
   simp [hP,et,hm,ga,bx,bsI,az,<-hp,<-hq,nX];refine ACalls.draw (R:=fun bk=>∃ d,bk=.int d/\d∈[1,2,3]) (cC [1,2,3] L fm g e4 c' (by simp) (by simp) f7 (by omega) (by omega) b3 (by omega)) fun a5 e5 bW g' u gr hv hw gw bm=>?_
   obtain ⟨hE,rfl,lj⟩:=u;have n7:1<=hE/\hE<=3:=by simp at lj; omega
   have g3:e5 v=some (.row 1 [[row (ak around)]] .live none):=by rw [bm _ bN]; exact et
   have i7:e5 U=some (.row 1 [[.int N]] .live none):=by rw [bm _ (s4 f2)]; exact hm
   simp [hP,g3,i7,ga,bx,bsI,az,<-hp,<-hq,nX];have o6:gH 2=83:=by decide
   refine ACalls.draw (xl around (by omega) L b3 g 2 hE g' e5 bW (by omega) (by omega) (by omega) gw (by omega) (by omega) (by omega)) fun a5 ef f8 hB u i4 kd ki gx cq=>?_
   obtain ⟨e,rfl⟩:=u;have hR:ef v=some (.row 1 [[row (ak around)]] .live none):=by rw [cq _ bN]; exact g3
   have lp:ef U=some (.row 1 [[.int N]] .live none):=by rw [cq _ (s4 f2)]; exact i7
   have lr:ef t=some (.row 15 es .live none):=by rw [cq _ (by omega),bm _ (by omega),cp _ (by omega),f6 _ (by omega),f1 _ (by omega)]; exact bj
   obtain ⟨nm,ms⟩:∃ nm:ByteArray,nm=⟨#[115]⟩++⟨#[gy]⟩++y:=⟨_,rfl⟩;have o3:∀ x∈es,aF 15 x=true:=di.len;have k8:∀ x,aF 15 x=true->apI 15 272 .plain (.row t 15 0 es.length) (.sl [x] true) ⟨ef,f8⟩=_:=fun x j2=>bE (by decide) lr rfl (by decide) (by decide) (by decide) j2 (by omega)
   obtain ⟨j',h7,hG,h8,h9,h'⟩:=e;have lk:¬U=f8:=by omega
   have lm:¬U=t:=by omega
   have m3:=q0 (x:=N+1)
   have ch:=q0 (x:=(i:Int)+1)
   simp [hP,hR,lp,ga,bx,bsI,az,aH,<-hp,<-hq,nX,Expr.av_mk,<-ms,k8,lk,lm,m3,c7,ch,dp];refine ⟨es++[[.int 3,.str nm,.nil,.nil,.nil,.nil,.str j6,row (hH.map Form.cells),.int j',.int h7,.int hG.const,row (hG.terms.map Term.cells),.str h8,row (h9.map Form.cells),row (h'.map Expr.cells)]],f8,⟨rfl,by simp⟩,?_⟩
   rw [ua (by omega:f8≠U),ua (by omega:t≠U)]
   refine StI.next (n1:=N) (n2:=N+1) (a1:=d0) (a2:=hB) (Se:=fun _=>False) (m1:=1) (h:=h) (c:=c) e6 e9 eP d2 dW bj di dk d4 d' e0 d3 e3 de dN (by omega) ?_ ?_ (fun d f=>f.elim) (by omega) (by omega) (by omega) ae ?_ (by omega) (by omega)
   ·intro d f am bl;rw [ad bl,cq _ am,bm _ am,cp _ am,f6 _ am,f1 _ (by omega)]
   ·exact Tr.cons (fun _=>False) (fun _=>False) (fun _=>False) (fun _=>False) 3 nm .nil .nil .nil .nil j6 (row (hH.map Form.cells)) _ [] [] [] hH (.mk j' h7 hG h8 h9 h') [] [] 0 0 rfl rfl (by simp) (by simp [Expr.cells_mk,br]) (by simp [AV.cell]) (.inl rfl) (.inl ⟨true,rfl,rfl⟩) (.nil _) (.nil _) (fun _ h=>h) (fun _ h=>h) (fun _ h=>h) (fun _ h _=>h) (fun _ h _=>h) (fun _ h _=>h)
   ·unfold SM; rw [ad f2]; exact gx
end Go.Proofs.YtjhogglgkjcacaaGreat
set_option maxRecDepth 20000
set_option maxHeartbeats 4000000
namespace Go.Proofs.YtjhogglgkjcacaaGreat
open Go.AM Go.Wb
def BT (B:Nat) (h:Heap) (F:Nat->Prop) (x:AV) (n:Nat):Prop:=∃ (g:List (List AV)) (f St:Nat->Prop),BodyAt h f x g/\Tr B h St g n/\(∀ d,f d->F d)/\(∀ d,St d->F d)/\(∀ d,f d->St d->False)
theorem BT.frame {B:Nat} {h h':Heap} {F:Nat->Prop} {x:AV} {n:Nat} (b:BT B h F x n) (l:∀ k,F k->h' k=h k):BT B h' F x n:=by
 obtain ⟨o,m,St,p,q,f,g,t⟩:=b;exact ⟨o,m,St,p.frame (fun _ h=>h) fun k d=>l k (f k d),q.frame fun k d=>l k (g k d),f,g,t⟩
theorem BT.mono {B:Nat} {h:Heap} {F f:Nat->Prop} {x:AV} {n:Nat} (b:BT B h F x n) (g:∀ k,F k->f k):BT B h f x n:=by
 obtain ⟨m,l,St,o,p,q,t,u⟩:=b;exact ⟨m,l,St,o,p,fun k d=>g k (q k d),fun k d=>g k (t k d),u⟩
theorem BT.more {B d:Nat} (q:B<=d) {h:Heap} {F:Nat->Prop} {x:AV} {n:Nat} (b:BT B h F x n):BT d h F x n:=by
 obtain ⟨g,f,St,k,l,m,o,p⟩:=b;exact ⟨g,f,St,k,l.more q,m,o,p⟩
structure Head (B:Nat) (h:Heap) (F:Nat->Prop) (gl len n:Nat) (kind:Int) (name:ByteArray) (lo hi cv body:AV) (array:ByteArray) (subs:AV) (ex:List AV) (es:List (List AV)) (nb:Nat) (fs:List Wb.Form):Prop where
 hlen:len=es.length+1
 at_:h gl=some (.row 15 ((.int kind::.str name::lo::hi::cv::body::.str array::subs::ex)::es) .live none)
 mem:F gl
 lt:nb<n
 exl:ex.length=7
 cells:lo.cell=true/\hi.cell=true/\subs.cell=true/\ex.all AV.cell=true/\cv.cell=true/\body.cell=true
 conds:fs.length<=B
 cond:cv=.sl (fs.map Form.cells) true\/∃ g,F g/\g≠gl/\cv=.row g 2 0 fs.length/\h g=some (.row 2 (fs.map Form.cells) .live none)
 down:∃ F2:Nat->Prop,(∀ k,F2 k->F k/\k≠gl)/\BT B h F2 body nb/\∀ (h':Heap) (E:Nat->Prop),(∀ k,E k->¬F k)->(∀ k,F k->¬F2 k->h' k=h k)->BT (B+1) h' (fun k=>F2 k\/E k) body nb->BT (B+1) h' (fun k=>F k\/E k) (.row gl 15 0 len) n
 updA:∀ (h':Heap) (kind':Int) (name':ByteArray) (lo':AV) (array':ByteArray) (ex':List AV) (los':List Wb.Bound) (e':Wb.Expr),(lo'=lo\/(norm lo'=row (los'.map Bound.cells)/\lo'.cell=true))->(ex'=ex\/(br ex'=e'.cells/\ex'.all AV.cell=true)) ->
  h' gl=some (.row 15 ((.int kind'::.str name'::lo'::hi::cv::body::.str array'::subs::ex')::es) .live none)->(∀ k,F k->k≠gl->h' k=h k)->BT (B+1) h' F (.row gl 15 0 len) n
 updB:∀ (h':Heap) (E:Nat->Prop) (gn:Nat) (fs':List Wb.Form),fs'.length<=B+1->E gn->(∀ k,E k->¬F k)->h' gn=some (.row 2 (fs'.map Form.cells) .live none) ->
  h' gl=some (.row 15 ((.int kind::.str name::lo::hi::.row gn 2 0 fs'.length::body::.str array::subs::ex)::es) .live none)->(∀ k,F k->k≠gl->(∀ m,cv≠.row k 2 0 m)->h' k=h k)->BT (B+1) h' (fun k=>F k\/E k) (.row gl 15 0 len) n
theorem BT.focus {B:Nat} {h:Heap} {F:Nat->Prop} {k len n:Nat} (b:BT B h F (.row k 15 0 len) n) (dv:0<len):∃ kind name W G cv body array subs S es dk aa,Head B h F k len n kind name W G cv body array subs S es dk aa:=by
 obtain ⟨es,dl,St,ai,b4,T,t,u⟩:=b;rcases ai with ⟨_,ai,_⟩ | ⟨dp,o,ai,b5⟩
 ·cases ai
 injection ai with cs ax dn ag;subst cs;have de:=b4.len;cases b4 with
 | nil cb=>simp at ag; omega
 | cons cb C Y ar kind name W G cv body array subs S bW bj aa ss e a9 es n l bk bi bx bc p v y bN bt q w x Z R ab=>
  have bm:=de _ (r4);simp only [aF,s5,q9,beq_iff_eq,yn] at bm;refine ⟨kind,name,W,G,cv,body,array,subs,S,es,n,aa,⟨by simpa using ag,b5,T _ o,by omega,by omega,⟨p.1,p.2.1,p.2.2.1,p.2.2.2.1,bm.2.2.2.2.2.1,bm.2.2.2.2.2.2.1⟩,p.2.2.2.2,?_,?_,?_,?_⟩⟩
  ·rcases v with v | ⟨M,J,O,Q⟩
   ·exact .inl v
   ·exact .inr ⟨M,t _ (q _ J),fun e=>u k o (e▸q _ J),O,Q⟩
  ·
   refine ⟨fun d=>(C d/\∃ l,body=.row d 15 0 l)\/Y d,?_,⟨a9,fun d=>C d/\∃ l,body=.row d 15 0 l,Y,?_,bN,fun d f=>.inl f,fun d f=>.inr f,fun d f g=>Z d f.1 g⟩,?_⟩
   ·intro d f;have b7:St d:=f.elim (fun ao=>q d ao.1) (w d);exact ⟨t d b7,fun e=>u d (e▸o) b7⟩
   ·rcases y with y | ⟨M,J,O,Q⟩
    ·exact .inl y
    ·exact .inr ⟨M,⟨J,_,O⟩,O,Q⟩
   ·intro D E N U c1;obtain ⟨cp,b1,cc,ch,cl,a7,a8,cn⟩:=c1;have al:D k=h k:=U k (T _ o) fun f=>by
     rcases f with f | f
     ·exact u k o (q _ f.1)
     ·exact u k o (w _ f)
    have da:∀ d,C d->(∀ l,body≠.row d 15 0 l)->D d=h d:=fun d f H=>U d (t _ (q _ f)) fun g=>by
     rcases g with ⟨_,l,m⟩ | g
     ·exact H l m
     ·exact Z d f g
    have c2:CondAt D (fun d=>C d/\∀ l,body≠.row d 15 0 l) cv aa:=by
     rcases v with v | ⟨M,J,O,Q⟩
     ·exact .inl v
     ·have b8:∀ l,body≠.row M 15 0 l:=fun l m=>by
       rcases y with ⟨b,y,_⟩ | ⟨a1,b0,a6,ap⟩
       ·rw [y] at m; cases m
       ·rw [a6] at m; injection m with m; subst m; rw [Q] at ap; cases ap
      exact .inr ⟨M,⟨J,b8⟩,O,(da M J b8).trans Q⟩
    refine ⟨(.int kind::.str name::W::G::cv::body::.str array::subs::S)::es,fun d=>d=k,fun d=>(St d/\d≠k)\/E d,.inr ⟨k,rfl,by rw [ag],al.trans b5⟩,?_,fun d f=>.inl (f▸T _ o),fun d f=>f.imp (fun ao=>t _ ao.1) id,fun d f g=>?_⟩
    ·have ds:∀ d,b1 d->((C d/\∃ l,body=.row d 15 0 l)\/Y d)\/E d:=a7;refine Tr.cons _ (fun d=>(C d/\∀ l,body≠.row d 15 0 l)\/b1 d) cc ar kind name W G cv body array subs S bW bj aa ss e cp es n l bk bi bx bc ⟨p.1,p.2.1,p.2.2.1,p.2.2.2.1,Nat.le_succ_of_le p.2.2.2.2⟩ (c2.frame (fun _ h=>.inl h) fun _ _=>rfl) (ch.frame (fun _ h=>.inr h) fun _ _=>rfl) cl ((bt.more (rv B)).frame fun d f=>U d (t _ (x _ f)) fun g=>?_) ?_ ?_ ?_ ?_ ?_ ?_
     ·rcases g with g | g
      ·exact R d g.1 f
      ·exact ab d g f
     ·intro d f;rcases f with f | f
      ·exact .inl ⟨q _ f.1,fun e=>u k o (e▸q _ f.1)⟩
      ·rcases a7 d f with (f | f) | f
       ·exact .inl ⟨q _ f.1,fun e=>u k o (e▸q _ f.1)⟩
       ·exact .inl ⟨w _ f,fun e=>u k o (e▸w _ f)⟩
       ·exact .inr f
     ·intro d f;rcases a8 d f with (f | f) | f
      ·exact .inl ⟨q _ f.1,fun e=>u k o (e▸q _ f.1)⟩
      ·exact .inl ⟨w _ f,fun e=>u k o (e▸w _ f)⟩
      ·exact .inr f
     ·intro d f;exact .inl ⟨x _ f,fun e=>u k o (e▸x _ f)⟩
     ·intro d f g;rcases f with f | f
      ·rcases a8 d g with (am | am) | am
       ·obtain ⟨_,z,c'⟩:=am; exact f.2 z c'
       ·exact Z d f.1 am
       ·exact N d am (t _ (q _ f.1))
      ·exact cn d f g
     ·intro d f g;rcases f with f | f
      ·exact R d f.1 g
      ·rcases a7 d f with (f | f) | f
       ·exact R d f.1 g
       ·exact ab d f g
       ·exact N d f (t _ (x _ g))
     ·intro d f g;rcases a8 d f with (f | f) | f
      ·exact R d f.1 g
      ·exact ab d f g
      ·exact N d f (t _ (x _ g))
    ·subst f;rcases g with g | g
     ·exact g.2 rfl
     ·exact N _ g (T _ o)
  ·
   intro D b9 ca a5 b2 a0 di cq c9 c5 al U;have H:∀ d,St d->d≠k:=fun d f e=>u k o (e▸f);have a3:∀ d,St d->D d=h d:=fun d f=>U d (t _ f) (H d f);refine ⟨(.int b9::.str ca::a5::G::cv::body::.str b2::subs::a0)::es,fun d=>d=k,St,.inr ⟨k,rfl,by rw [ag]; rfl,al⟩,?_,fun d f=>f▸T _ o,t,fun d f g=>H d g f⟩
   have a4:∃ b':List Wb.Bound,norm a5=row (b'.map Bound.cells)/\a5.cell=true:=by
    rcases c9 with rfl | bo
    ·exact ⟨bW,bk,p.1⟩
    ·exact ⟨di,bo⟩
   obtain ⟨b',a4⟩:=a4;have c6:∃ ax:Wb.Expr,br a0=ax.cells/\a0.all AV.cell=true:=by
    rcases c5 with rfl | bo
    ·exact ⟨e,bc,p.2.2.2.1⟩
    ·exact ⟨cq,bo⟩
   obtain ⟨ax,c3,c4⟩:=c6;exact Tr.cons St C Y ar b9 ca a5 G cv body b2 subs a0 _ bj aa ss ax a9 es n l a4.1 bi bx c3 ⟨a4.2,p.2.1,p.2.2.1,c4,Nat.le_succ_of_le p.2.2.2.2⟩ (v.frame (fun _ h=>h) fun d f=>a3 d (q d f)) (y.frame (fun _ h=>h) fun d f=>a3 d (q d f)) ((bN.more (rv B)).frame fun d f=>a3 d (w d f)) ((bt.more (rv B)).frame fun d f=>a3 d (x d f)) q w x Z R ab
  ·
   intro D E a2 a' c7 bf N c8 al U;have H:∀ d,St d->d≠k:=fun d f e=>u k o (e▸f);have bl:∀ d,St d->(∀ l,cv≠.row d 2 0 l)->D d=h d:=fun d f v=>U d (t _ f) (H d f) v;have bb:∀ d z,cv=.row d 2 0 z->C d/\∃ b3,h d=some (.row 2 b3 .live none):=fun d z m=>by
    rcases v with v | ⟨M,J,O,Q⟩
    ·rw [v] at m; cases m
    ·rw [O] at m; injection m with m; subst m; exact ⟨J,_,Q⟩
   have cx:∀ d,Y d->D d=h d:=fun d f=>bl d (w d f) fun z m=>Z d (bb d z m).1 f;have c0:∀ d,ar d->D d=h d:=fun d f=>bl d (x d f) fun z m=>R d (bb d z m).1 f;refine ⟨(.int kind::.str name::W::G::.row a2 2 0 a'.length::body::.str array::subs::S)::es,fun d=>d=k,fun d=>(St d/\d≠k)\/E d,.inr ⟨k,rfl,by rw [ag]; rfl,al⟩,?_,fun d f=>.inl (f▸T _ o),fun d f=>f.imp (fun ao=>t _ ao.1) id,fun d f g=>?_⟩
   ·refine Tr.cons _ (fun d=>(C d/\∃ l,body=.row d 15 0 l)\/d=a2) Y ar kind name W G (.row a2 2 0 a'.length) body array subs S bW bj a' ss e a9 es n l bk bi bx bc ⟨p.1,p.2.1,p.2.2.1,p.2.2.2.1,c7⟩ (.inr ⟨a2,.inr rfl,rfl,c8⟩) ?_ ((bN.more (rv B)).frame cx) ((bt.more (rv B)).frame c0) ?_ ?_ ?_ ?_ ?_ ab
    ·rcases y with y | ⟨a1,b0,a6,ap⟩
     ·exact .inl y
     ·refine .inr ⟨a1,.inl ⟨b0,_,a6⟩,a6,(bl a1 (q _ b0) fun z m=>?_).trans ap⟩;obtain ⟨_,b3,b6⟩:=bb a1 z m;rw [ap] at b6; cases b6
    ·intro d f;rcases f with f | rfl
     ·exact .inl ⟨q _ f.1,H d (q _ f.1)⟩
     ·exact .inr bf
    ·exact fun d f=>.inl ⟨w _ f,H d (w _ f)⟩
    ·exact fun d f=>.inl ⟨x _ f,H d (x _ f)⟩
    ·intro d f g;rcases f with f | rfl
     ·exact Z d f.1 g
     ·exact N _ bf (t _ (w _ g))
    ·intro d f g;rcases f with f | rfl
     ·exact R d f.1 g
     ·exact N _ bf (t _ (x _ g))
   ·subst f;rcases g with g | g
    ·exact g.2 rfl
    ·exact N _ g (T _ o)
def rN (h:Heap) (t:Nat) (A:List Wb.Array):Prop:=∃ (k l m:ByteArray) (d f g:AV) (o p q:List Int),A=[⟨k,o⟩,⟨l,p⟩,⟨m,q⟩]/\h t=some (.row 2 [[.str k,d],[.str l,f],[.str m,g]] .live none)/\norm d=row (an o)/\norm f=row (an p)/\norm g=row (an q)/\d.cell=true/\f.cell=true/\g.cell=true
def SmallA (A:List Wb.Array):Prop:=∀ a∈A,a.sizes.length<=5/\∀ d∈a.sizes,0<=d/\d<=20000
theorem _root_.Go.AM.stI_c {g e o sz:Nat} {v:AV} {es:List (List AV)} {cs:List AV} {s:St} (d:v.cell=true) (k:s.h g=some (.row sz es .live none)) (h:es[e]?=some cs) (l:o+1<=cs.length) :
  stI 1 (.ptr g e o) v s=some { s with h:=upd s.h g (some (.row sz (es.set e (cs.take o++[v]++cs.drop (o+1))) .live none)) }:=by
 have f:v.cells=[v]:=by cases v <;> first | rfl | cases d
 simp only [stI,k,h,f,s5,x5,yn,List.all_nil,d,l,EQ,and_self,if_true,dO,s7]
theorem _root_.Go.AM.lp_cut {P:Program} {a:AC} {Q:Ex->Slots->St->Prop} {sl:Slots} {s:St} (id:Nat) (W:List Nat) (k:iH a.wr W=true) (g:Slots->St->Prop) (h:acW P (.loop a) (fun e d s'=>e=.exit id/\g d s') sl s)
  (m:∀ v s',g (ov W sl v) s'->Q (.exit id) (ov W sl v) s'):acW P (.loop a) Q sl s:=by
 refine bT _ (ip _ h) fun e d s' f=>?_;obtain ⟨⟨rfl,f⟩,l⟩:=f;have e:ov W sl d=d:=rU fun p o=>l p (kN k o);have:=m d s' (by rw [e]; exact f)
 rwa [e] at this
theorem BT.len {B:Nat} {h:Heap} {F:Nat->Prop} {x:AV} {n:Nat} (b:BT B h F x n) (s:St):∃ (len:Int),eL 1 x s=some (.int len)/\(0<len->∃ f l,x=.row f 15 0 l/\0<l/\len=l)/\(¬0<len->len=0):=by
 obtain ⟨d,k,St,g,_⟩:=b;rcases g with ⟨b,rfl,_⟩ | ⟨m,_,rfl,_⟩
 ·exact ⟨0,rfl,fun h=>by omega,fun _=>rfl⟩
 ·exact ⟨d.length,rfl,fun h=>⟨_,_,rfl,by omega,rfl⟩,fun h=>by omega⟩
structure PgAt (B:Nat) (h:Heap) (cp ga:Nat) (A:List Wb.Array) (F:Nat->Prop) (x:AV) (n:Nat):Prop where
 at_:h cp=some (.row 2 [[.row ga 2 0 3,x]] .live none)
 arr:rN h ga A
 small:SmallA A
 bt:BT B h F x n
 ne:cp≠ga
 fcp:¬F cp
 fga:¬F ga
def pB (L:List Int) (g:Nat) (q:Heap) (l m o:Nat) (F:Nat->Prop) (n:Nat) (a:Int) (h:Heap) (c:Nat):Prop:=
 ∃ (A:List Wb.Array) (k:Nat->Prop) (t:AV) (p:Nat) (f:Int),PgAt 3 h m o A k t p/\p<=n+2/\(∀ d,k d->F d\/(l<=d/\d<c))/\SM h g L f/\a<=f/\f<=a+100/\∀ d,d<l->d≠g->d≠m->d≠o->¬F d->h d=q d
theorem SmallA.one {f o g:ByteArray} {p l m:List Int} (h:SmallA [⟨f,p⟩,⟨o,l⟩,⟨g,m⟩]) (y:List Int) (q:y.length<=5/\∀ k∈y,0<=k/\k<=20000) (t:ByteArray):SmallA [⟨f,y⟩,⟨o,l⟩,⟨g,m⟩]/\SmallA [⟨f,p⟩,⟨t,l⟩,⟨g,m⟩]:=by
 refine ⟨fun a d=>?_,fun a d=>?_⟩
 ·simp at d;rcases d with rfl | rfl | rfl
  ·exact q
  ·exact h _ (by simp)
  ·exact h _ (by simp)
 ·simp at d;rcases d with rfl | rfl | rfl
  ·exact h ⟨f,p⟩ (by simp)
  ·exact h ⟨o,l⟩ (by simp)
  ·exact h ⟨g,m⟩ (by simp)
theorem zS (L:List Int) (R:L.length<=1048576) (a:Int) (g v y:Nat) (A:List Wb.Array) (F:Nat->Prop) (x:AV) (n:Nat) (jj:n<=50) (bf:Heap) (O:Nat) (hG:SM bf g L a) (hk:0<=a) (h9:a<700000000) (hq:g<O) (hp:v<O) (gN:y<O) (bN:g≠v) (bW:g≠y) (C:∀ k,F k->k<O/\k≠g) (hD:PgAt 2 bf v y A F x n) :
  ACalls Pg 55 [.ptr g 0 0,.ptr v 0 0] ⟨bf,O⟩ fun av s'=>pB L g bf O v y F n a s'.h s'.c:=by
 obtain ⟨hU,hV,c',gc,b2,cq,p7⟩:=hD;refine Fn55.calls .keep ?_;unfold Fn55.ac;simp;refine ACalls.draw (dg L a 4 g bf O (by omega) hG hk (by omega) R (by omega)) fun o Y b7 al q ia j2 j3 e0 b3=>?_
 obtain ⟨ga,rfl,i9,D,_⟩:=q;obtain ⟨bt,dN,cx,e5,da,de,dp,fa,fb,rfl,hW,ge,e1,e2,gf,e3,e4⟩:=hV;have b0:Y v=some (.row 2 [[.row y 2 0 3,x]] .live none):=(b3 v (s4 bN)).trans hU;have ef:Y y=some (.row 2 [[.str bt,e5],[.str dN,da],[.str cx,de]] .live none):=(b3 y (s4 bW)).trans hW;have c2:BT 2 Y F x n:=gc.frame fun k d=>b3 k (C k d).2;have j1:x.cell=true:=by
  obtain ⟨es,fd,St,a5,_⟩:=gc;rcases a5 with ⟨b,rfl,_⟩ | ⟨g,_,rfl,_⟩ <;> rfl
 by_cases gk:ga=0
 ·subst gk;simp [b0,bsI,az];refine ACalls.draw (dg L al 5 g Y b7 (by omega) e0 (by omega) (by omega) R (by omega)) fun o p ap Z q c3 dk e6 W w=>?_
  obtain ⟨cn,rfl,f5,i',_⟩:=q;have c8:=(w v (s4 bN)).trans b0;have fx:=(w y (s4 bW)).trans ef;have g1:∃ (cs:List Int) (di:AV),(cs.length<=5/\∀ k∈cs,0<=k/\k<=20000)/\([[AV.nil],[.sl [[.int 0]] true],[.sl [[.int 3]] true],[.sl [[.int 20000]] true],[.sl [[.int 2],[.int 2],[.int 2],[.int 2],[.int 2]] true]]:List (List AV))[cn.toNat]?=some [di]/\norm di=row (an cs)/\di.cell=true:=by
   have:cn=0\/cn=1\/cn=2\/cn=3\/cn=4:=by omega
   rcases this with rfl | rfl | rfl | rfl | rfl
   ·exact ⟨[],_,by simp,rfl,rfl,rfl⟩
   ·exact ⟨[0],_,by simp,rfl,rfl,rfl⟩
   ·exact ⟨[3],_,by simp,rfl,rfl,rfl⟩
   ·exact ⟨[20000],_,by simp,rfl,rfl,rfl⟩
   ·exact ⟨[2,2,2,2,2],_,by simp,rfl,rfl,rfl⟩
  obtain ⟨cs,di,hK,hL,hM,g5⟩:=g1;have hI:=stI_c (o:=1) (s:=⟨p,ap⟩) g5 fx (e:=0) rfl (by simp)
  simp [c8,hL,f5,hI,-Ax];refine ⟨_,F,x,n,Z,⟨?_,⟨bt,dN,cx,di,da,de,cs,fa,fb,rfl,ae,hM,e1,e2,g5,e3,e4⟩,(c'.one cs hK bt).1,?_,b2,cq,p7⟩,by omega,fun k d=>.inl d,?_,by omega,by omega,?_⟩
  ·show upd p y _ v=_;rw [ad b2]; exact c8
  ·refine (c2.more (by omega)).frame fun k d=>?_
   show upd p y _ k=_;rw [ad (show k≠y from fun e=>p7 (e▸d)),w k (C k d).2]
  ·show SM (upd p y _) g L Z;unfold SM; rw [ad bW]; exact W
  ·intro k d l ez c5 ey;show upd p y _ k=_;rw [ad c5,w k l,b3 k l]
 by_cases dW:ga=1
 ·subst dW;simp [b0,bsI,az];refine ACalls.draw (R:=fun o=>∃ k,o=.str k/\k∈([⟨#[97]⟩,⟨#[]⟩,⟨#[105]⟩,⟨#[102,111,114]⟩]:List ByteArray)) (eT [⟨#[97]⟩,⟨#[]⟩,⟨#[105]⟩,⟨#[102,111,114]⟩] L al g Y b7 (by simp) (by simp) e0 (by omega) (by omega) R (by omega)) fun o p ap Z q c3 dk e6 W w=>?_
  obtain ⟨nm,rfl,_⟩:=q;have c8:=(w v (s4 bN)).trans b0;have fx:=(w y (s4 bW)).trans ef;simp [c8,fx];refine ⟨_,F,x,n,Z,⟨?_,⟨bt,nm,cx,e5,da,de,dp,fa,fb,rfl,ae,ge,e1,e2,gf,e3,e4⟩,(c'.one dp (c' ⟨bt,dp⟩ (by simp)) nm).2,?_,b2,cq,p7⟩,by omega,fun k d=>.inl d,?_,by omega,by omega,?_⟩
  ·show upd p y _ v=_;rw [ad b2]; exact c8
  ·refine (c2.more (by omega)).frame fun k d=>?_
   show upd p y _ k=_;rw [ad (show k≠y from fun e=>p7 (e▸d)),w k (C k d).2]
  ·show SM (upd p y _) g L Z;unfold SM; rw [ad bW]; exact W
  ·intro k d l ez c5 ey;show upd p y _ k=_;rw [ad c5,w k l,b3 k l]
 by_cases d0:ga=2
 ·subst d0;simp [b0];obtain ⟨ds,c1⟩:∃ ds:Int->Nat->Slots->St->Prop,ds=fun hi a1 sl s'=>∃ (b4:AV) (a3:Nat->Prop) (G:Int),sl 4=b4/\(∀ k,a3 k->F k)/\BT 2 s'.h a3 b4 a1/\a1<=n/\SM s'.h g L G/\al<=G/\G+a1<=al+n+hi/\b7<=s'.c/\(∀ k,k≠g->s'.h k=Y k) /\
    ∀ (m:Heap) (E:Nat->Prop),(∀ k,E k->¬F k)->(∀ k,F k->¬a3 k->m k=Y k)->BT 3 m (fun k=>a3 k\/E k) b4 a1->BT 3 m (fun k=>F k\/E k) x n:=⟨_,rfl⟩
  obtain ⟨dv,gr⟩:∃ dv:Slots->St->Prop,dv=fun sl s'=>∃ a1,ds 1 a1 sl s':=⟨_,rfl⟩;refine lp_cut 1 Fn55.W0 (by rfl) dv ?_ ?_
  ·refine cJ Fn55.W0 (by rfl) (ds 0) n ?_ ?_
   ·rw [c1]; exact ⟨x,F,al,by simp,fun _ t=>t,c2,q5 _,e0,x7 _,by omega,q5 _,fun _ _=>rfl,fun _ _ _ _ t=>t⟩
   ·intro a1 o s' b9;have h8:=b9;rw [c1] at b9;obtain ⟨b4,a3,Z,N,U,bl,g6,bm,hP,hQ,f9,a9,cl⟩:=b9;obtain ⟨t,c⟩:=s';simp at N;simp only at bl bm f9 a9;obtain ⟨len,c7,f8,_⟩:=bl.len ⟨t,c⟩;have ca:∀ (m:Heap) (G:Int) (ao:Nat),c<=ao->SM m g L G->Z<=G->(∀ k,k≠g->m k=t k)->∀ gg:Slots,gg 4=b4->G+a1<=al+n+1->dv gg ⟨m,ao⟩:=by
     intro m G ao h' ch eM a7 gg hH f6;rw [gr,c1];exact ⟨a1,b4,a3,G,hH,U,bl.frame fun k d=>a7 k (C k (U k d)).2,g6,ch,by omega,by omega,by show b7<=ao; omega,fun k d=>(a7 k d).trans (a9 k d),cl⟩
    by_cases cb:0<len
    case neg=>
     simp [N,c7,cb];exact ca t Z c (by omega) bm (by omega) (fun _ _=>rfl) _ (by simp [N]) (by omega)
    obtain ⟨f,cp,rfl,cc,hy⟩:=f8 cb;obtain ⟨kind,name,eW,hv,cv,body,array,subs,d1,es,gb,ar,H⟩:=bl.focus cc;have ea:=H.at_;obtain ⟨he,f',g7,hR⟩:=H.down;obtain ⟨hT,hz,j0,_⟩:=g7.len ⟨t,c⟩;have g2:(0:Int)<cp:=by omega
    simp [N,c7,cb,ea,cc,hz];by_cases a5:0<hT
    case neg=>
     simp [a5];exact ca t Z c (by omega) bm (by omega) (fun _ _=>rfl) _ (by simp [N]) (by omega)
    simp [a5];refine ACalls.draw (ek L Z 2 g t c (by omega) bm (by omega) (by omega) R (by omega)) fun o p ap am q c3 dk e6 W w=>?_
    obtain ⟨b,rfl⟩:=q;have ai:=(w f (C f (U f H.mem)).2).trans ea;have hA:=H.lt;cases b
    case false=>
     simp;exact ca p am ap c3 W dk w _ (by simp [N]) (by omega)
    simp [N,cc,ai];refine ⟨gb,hA,?_⟩;rw [c1];have eM:am+gb<=al+n+0:=by omega
    refine ⟨body,he,am,by simp,fun k d=>U k (f' k d).1,g7.frame fun k d=>w k (C k (U k (f' k d).1)).2,by omega,W,by omega,by omega,by show b7<=ap; omega,fun k d=>(w k d).trans (a9 k d),?_⟩
    intro m E b8 g0 hl;refine cl m E b8 (fun k d D=>g0 k d fun f5=>D (f' k f5).1) ?_;refine hR m E (fun k d D=>b8 k d (U k D)) (fun k d D=>?_) hl;rw [g0 k (U k d) D,a9 k (C k (U k d)).2]
  ·intro o s' gp;rw [gr] at gp;obtain ⟨a1,b9⟩:=gp;rw [c1] at b9;obtain ⟨b4,a3,Z,N,U,bl,g6,bm,hP,hQ,f9,a9,cl⟩:=b9;obtain ⟨t,c⟩:=s';simp at N;simp only at bl bm f9 a9;have el:∀ (m:Heap) (ao:Nat) (G:Int) (E:Nat->Prop),(∀ k,E k->O<=k/\k<ao)->BT 3 m (fun k=>F k\/E k) x n->SM m g L G->al<=G->G<=al+n+40->(∀ k,¬F k->k<O->k≠g->m k=Y k)->pB L g bf O v y F n a m ao:=by
    intro m ao G E b8 a5 ch eM f6 a7;refine ⟨_,fun k=>F k\/E k,x,n,G,⟨(a7 v cq hp (s4 bN)).trans b0,⟨bt,dN,cx,e5,da,de,dp,fa,fb,rfl,(a7 y p7 gN (s4 bW)).trans ef,ge,e1,e2,gf,e3,e4⟩,c',a5,b2,fun d=>?_,fun d=>?_⟩,by omega,fun k d=>d.imp id (b8 k),ch,by omega,by omega,fun k d l ez c5 ey=>(a7 k ey d l).trans (b3 k l)⟩
    ·rcases d with d | d
     ·exact cq d
     ·have:=b8 _ d; omega
    ·rcases d with d | d
     ·exact p7 d
     ·have:=b8 _ d; omega
   obtain ⟨len,c7,f8,hO⟩:=bl.len ⟨t,c⟩;by_cases cb:0<len
   case neg=>
    have hN:=hO cb;subst hN;simp [N,c7];exact el t c Z (fun _=>False) (fun k d=>d.elim) ((c2.more (by omega)).frame (fun k d=>a9 k (C k d).2) |>.mono fun k d=>.inl d) bm (by omega) (by omega) (fun k _ _ l=>a9 k l)
   obtain ⟨f,cp,rfl,cc,hy⟩:=f8 cb;obtain ⟨kind,name,eW,hv,cv,body,array,subs,d1,es,gb,ar,H⟩:=bl.focus cc;have ea:=H.at_;have c4:=U f H.mem;have S:f≠g:=(C f c4).2;have i8:f<O:=(C f c4).1;have g2:(0:Int)<cp:=by omega
   have hx:¬(cp:Int)=0:=by omega
   have hw:cp≠0:=by omega
   have em:∀ (m:Heap) (ao:Nat) (G:Int),BT 3 m a3 (.row f 15 0 cp) a1->SM m g L G->al<=G->G<=al+n+40->(∀ k,k≠f->k≠g->m k=Y k)->pB L g bf O v y F n a m ao:=by
    intro m ao G a5 ch eM f6 a7;refine el m ao G (fun _=>False) (fun k d=>d.elim) (cl m _ (fun k d=>d.elim) (fun k d D=>a7 k (fun e=>D (e▸H.mem)) (C k d).2) (a5.mono fun k d=>.inl d)) ch eM f6 fun k d _ l=>a7 k (fun e=>d (e▸c4)) l
   obtain ⟨i3,i2,i4,i5,i1,i0⟩:=H.cells;have hB:¬len=0:=by omega
   simp [N,c7,cc,g2,hx,hw,hB];refine ACalls.draw (dg L Z 5 g t c (by omega) bm (by omega) (by omega) R (by omega)) fun o p ap am q c3 dk e6 W w=>?_
   obtain ⟨eP,rfl,g1,bk,_⟩:=q;have ai:=(w f S).trans ea;have T:∀ k,a3 k->k≠g:=fun k d=>(C k (U k d)).2;have bj:∀ k,k≠g->p k=Y k:=fun k d=>(w k d).trans (a9 k d);by_cases gm:eP=0
   ·subst gm;simp [N];refine ACalls.draw (oQ L am 1 3 g p ap (by omega) (by omega) (by omega) (by omega) W (by omega) (by omega) R (by omega)) fun o a6 bb a4 q eg e9 e' a' M=>?_
    obtain ⟨hS,rfl⟩:=q;have bx:=(M f S).trans ai;simp [bx];refine em _ _ a4 (H.updA _ hS name eW array d1 [] (.mk 0 0 ⟨0,[]⟩ ⟨#[]⟩ [] []) (.inl rfl) (.inl rfl) ae fun k d J=>?_) ?_ (by omega) (by omega) fun k d l=>?_
    ·show upd a6 f _ k=_;rw [ad J,M k (T k d),w k (T k d)]
    ·show SM (upd a6 f _) g L a4;unfold SM; rw [ad (s4 S)]; exact a'
    ·show upd a6 f _ k=_;rw [ad d,M k l,bj k l]
   by_cases aa:eP=1
   ·subst aa;simp [N,bsI,az,ai];refine ACalls.draw (R:=fun o=>∃ k,o=.str k/\k∈([⟨#[]⟩,⟨#[97]⟩,⟨#[105]⟩,⟨#[115,48]⟩]:List ByteArray)) (eT [⟨#[]⟩,⟨#[97]⟩,⟨#[105]⟩,⟨#[115,48]⟩] L am g p ap (by simp) (by simp) W (by omega) (by omega) R (by omega)) fun o a6 bb a4 q eg e9 e' a' M=>?_
    obtain ⟨nm,rfl,_⟩:=q;have bx:=(M f S).trans ai;simp [bx,bsI,az];refine ACalls.draw (R:=fun o=>∃ k,o=.str k/\k∈([array,⟨#[122,122]⟩,⟨#[]⟩]:List ByteArray)) (eT [array,⟨#[122,122]⟩,⟨#[]⟩] L a4 g a6 bb (by simp) (by simp) a' (by omega) (by omega) R (by omega)) fun o bi c0 b6 q f1 hc hd dn a2=>?_
    obtain ⟨hf,rfl,_⟩:=q;have d':=(a2 f S).trans bx;simp [d',bsI,az];refine em _ _ b6 (H.updA _ kind nm eW hf d1 [] (.mk 0 0 ⟨0,[]⟩ ⟨#[]⟩ [] []) (.inl rfl) (.inl rfl) ae fun k d J=>?_) ?_ (by omega) (by omega) fun k d l=>?_
    ·show upd bi f _ k=_;rw [ad J,a2 k (T k d),M k (T k d),w k (T k d)]
    ·show SM (upd bi f _) g L b6;unfold SM; rw [ad (s4 S)]; exact dn
    ·show upd bi f _ k=_;rw [ad d,a2 k l,M k l,bj k l]
   by_cases ab:eP=2
   ·subst ab;simp [N,bsI,az,ai];refine ACalls.draw (R:=fun o=>∃ k,o=.str k/\k∈([⟨#[105]⟩,⟨#[106]⟩,⟨#[113]⟩]:List ByteArray)) (eT [⟨#[105]⟩,⟨#[106]⟩,⟨#[113]⟩] L am g p ap (by simp) (by simp) W (by omega) (by omega) R (by omega)) fun o a6 bb a4 q eg e9 e' a' M=>?_
    obtain ⟨nm,rfl,_⟩:=q;have bx:=(M f S).trans ai;simp [bx,bsI,az];refine ACalls.draw (R:=fun o=>∃ k,o=.int k/\k∈[1,1001]) (cC [1,1001] L a4 g a6 bb (by simp) (by simp) a' (by omega) (by omega) R (by omega)) fun o bi c0 b6 q f1 hc hd dn a2=>?_
    obtain ⟨pk,rfl,hE⟩:=q;have f7:pk≠0:=by simp at hE; omega
    have d':=(a2 f S).trans bx;simp [d',bsI,az,aH];refine ACalls.quiet (R:=fun av=>∃ u:Wb.Form,av=u.av) (bI 0 [⟨nm,pk⟩] (by simp) (by simp [f7]) ⟨bi,c0⟩) fun dl h a0 gs=>?_
    obtain ⟨u,rfl⟩:=a0;simp [bsI,az,aH];refine ACalls.draw (R:=fun o=>∃ k,o=.int k/\k∈[1,0,3]) (cC [1,0,3] L b6 g bi h (by simp) (by simp) dn (by omega) (by omega) R (by omega)) fun o ag fm bo q gv hZ h0 gi b5=>?_
    obtain ⟨ha,rfl,_⟩:=q;have fs:=(b5 f S).trans d';simp [fs,bsI,az,aH,Form.av,Form.cells];refine em _ _ bo (H.updA _ kind name (.sl [[.int u.const,row (u.terms.map Term.cells),.int ha]] true) array d1 [⟨u,ha⟩] (.mk 0 0 ⟨0,[]⟩ ⟨#[]⟩ [] []) (.inr ⟨by simp [Bound.cells],rfl⟩) (.inl rfl) ae fun k d J=>?_) ?_ (by omega) (by omega) fun k d l=>?_
    ·show upd ag f _ k=_;rw [ad J,b5 k (T k d),a2 k (T k d),M k (T k d),w k (T k d)]
    ·show SM (upd ag f _) g L bo;unfold SM; rw [ad (s4 S)]; exact gi
    ·show upd ag f _ k=_;rw [ad d,b5 k l,a2 k l,M k l,bj k l]
   by_cases ax:eP=3
   ·subst ax;simp [N,bsI,az,aH,ai];refine ACalls.quiet (R:=fun av=>∃ u:Wb.Form,av=u.av) (bI 0 [⟨⟨#[113]⟩,1⟩] (by simp) (by simp) ⟨p,ap⟩) fun dl h a0 gs=>?_
    obtain ⟨u,rfl⟩:=a0;have g3:∀ e∈([[.int u.const,row (u.terms.map Term.cells)]]:List (List AV)),aF 2 e=true:=fun e en=>by simp at en; subst en; rfl
    have hC:∀ e∈ar.map Form.cells,aF 2 e=true:=fun e en=>by obtain ⟨j4,_,rfl⟩:=rf.1 en; rfl
    have gx:(ar++[u]).map Form.cells=ar.map Form.cells++[[.int u.const,row (u.terms.map Term.cells)]]:=by simp [Form.cells]
    have d3:∀ k,k=h->¬a3 k:=fun k d D=>by have:=C k (U k D); omega
    have d4:∀ k,k=h->¬F k:=fun k d D=>by have:=C k D; omega
    have ex:f≠h:=by omega
    have eo:g≠h:=by omega
    have gy:(ar++[u]).length=ar.length+1:=by simp
    have ch:=ar.length;have i6:=H.conds;rcases H.cond with b' | ⟨Q,et,hr,b',hs⟩
    ·have fz:=dr (sz:=2) (bytes:=32) (md:=.plain) (es:=ar.map Form.cells) (xs:=[[.int u.const,row (u.terms.map Term.cells)]]) (b:=true) (s:=⟨p,h⟩) (by decide) (by decide) (by decide) hC g3 (by simp; omega) (.inl (by simp))
     rw [b'] at ai;simp [Form.av,Form.cells,bsI,az,b',ai,fz,ex];refine el _ (h+1) am (fun k=>k=h) (fun k d=>by omega) (cl _ _ d4 (fun k d D=>?_) (H.updB _ (fun k=>k=h) h (ar++[u]) (by simp; omega) rfl d3 ?_ (by rw [gy]; exact ae) (fun k d J a8=>?_))) ?_ (by omega) (by omega) fun k d a8 l=>?_
     ·have J:k≠f:=fun e=>D (e▸H.mem);have bk:k≠h:=fun e=>d4 k e d;show upd (upd p h _) f _ k=_;rw [ad J,ad bk,bj k (C k d).2]
     ·show upd (upd p h _) f _ h=_;rw [ad (s4 ex),ae,gx]
     ·have bk:k≠h:=fun e=>d3 k e d;show upd (upd p h _) f _ k=_;rw [ad J,ad bk,w k (T k d)]
     ·show SM (upd (upd p h _) f _) g L am;unfold SM; rw [ad (s4 S),ad eo]; exact W
     ·have J:k≠f:=fun e=>d (e▸c4);show upd (upd p h _) f _ k=_;rw [ad J,qv,bj k l]
    ·have gW:Q≠g:=(C Q (U Q et)).2;have i7:Q<O:=(C Q (U Q et)).1;have ht:=(w Q gW).trans hs;have fz:=iM (sz:=2) (bytes:=32) (md:=.plain) (es:=ar.map Form.cells) (xs:=[[.int u.const,row (u.terms.map Term.cells)]]) (b:=true) (len:=ar.length) (s:=⟨p,h⟩) (by simp) ht (by simp) (by decide) (by decide) (by decide) g3 (by simp; omega)
     rw [b'] at ai;have hu:¬f=Q:=s4 hr;simp [Form.av,Form.cells,bsI,az,b',ai,fz,ex,hu];refine el _ (h+1) am (fun k=>k=h) (fun k d=>by omega) (cl _ _ d4 (fun k d D=>?_) (H.updB _ (fun k=>k=h) h (ar++[u]) (by simp; omega) rfl d3 ?_ (by rw [gy]; exact ae) (fun k d J a8=>?_))) ?_ (by omega) (by omega) fun k d a8 l=>?_
     ·have J:k≠f:=fun e=>D (e▸H.mem);have bk:k≠h:=fun e=>d4 k e d;have c6:k≠Q:=fun e=>D (e▸et);show upd (upd (upd p Q _) h _) f _ k=_;rw [ad J,ad bk,ad c6,bj k (C k d).2]
     ·show upd (upd (upd p Q _) h _) f _ h=_;rw [ad (s4 ex),ae,gx]
     ·have bk:k≠h:=fun e=>d3 k e d;have c6:k≠Q:=fun e=>by subst e; exact a8 _ b'
      show upd (upd (upd p Q _) h _) f _ k=_;rw [ad J,ad bk,ad c6,w k (T k d)]
     ·show SM (upd (upd (upd p Q _) h _) f _) g L am;unfold SM; rw [ad (s4 S),ad eo,ad (s4 gW)]; exact W
     ·have J:k≠f:=fun e=>d (e▸c4);have c6:k≠Q:=fun e=>d (e▸U Q et);show upd (upd (upd p Q _) h _) f _ k=_;rw [ad J,qv,ad c6,bj k l]
   simp [gm,aa,ab,ax,N];refine ACalls.draw (oQ L am 1 6 g p ap (by omega) (by omega) (by omega) (by omega) W (by omega) (by omega) R (by omega)) fun o a6 bb a4 q eg e9 e' a' M=>?_
   obtain ⟨g9,rfl⟩:=q;simp;refine ACalls.draw (oQ L a4 0 1000002 g a6 bb (by omega) (by omega) (by omega) (by omega) a' (by omega) (by omega) R (by omega)) fun o bi c0 b6 q f1 hc hd dn a2=>?_
   obtain ⟨g',rfl⟩:=q;simp [bsI,az];refine ACalls.draw (R:=fun o=>∃ k,o=.str k/\k∈([⟨#[]⟩,⟨#[97]⟩]:List ByteArray)) (eT [⟨#[]⟩,⟨#[97]⟩] L b6 g bi c0 (by simp) (by simp) dn (by omega) (by omega) R (by omega)) fun o ag fm bo q gv hZ h0 gi b5=>?_
   obtain ⟨nm,rfl,_⟩:=q;have fs:=(b5 f S).trans ((a2 f S).trans ((M f S).trans ai));have gw:=H.exl;simp [fs,aH,gw];refine em _ _ bo (H.updA _ kind name eW array [.int g9,.int g',.int 0,.nil,.str nm,.nil,.nil] [] (.mk g9 g' ⟨0,[]⟩ nm [] []) (.inl rfl) (.inr ⟨by simp [Expr.cells_mk,br],rfl⟩) (by simp [gw]) fun k d J=>?_) ?_ (by omega) (by omega) fun k d l=>?_
   ·show upd ag f _ k=_;rw [ad J,b5 k (T k d),a2 k (T k d),M k (T k d),w k (T k d)]
   ·show SM (upd ag f _) g L bo;unfold SM; rw [ad (s4 S)]; exact gi
   ·show upd ag f _ k=_;rw [ad d,b5 k l,a2 k l,M k l,bj k l]
 simp [gk,dW,d0];refine ACalls.quiet (R:=fun av=>∃ u:Wb.Form,av=u.av) (bI 0 [] (by simp) (by simp) ⟨Y,b7⟩) fun dl ap a0 c3=>?_
 obtain ⟨aa,rfl⟩:=a0;simp;refine ACalls.pure (eK aa 1) fun bb eg=>?_;simp [bsI,az,Bound.av,Bound.cells];refine ACalls.draw (R:=fun o=>∃ k,o=.int k/\k∈[2,300,1000000]) (cC [2,300,1000000] L al g Y bb (by simp) (by simp) e0 (by omega) (by omega) R (by omega)) fun o N hg a4 q ik dk e6 W w=>?_
 obtain ⟨pk,rfl,_⟩:=q;simp;refine ACalls.quiet (R:=fun av=>∃ u:Wb.Form,av=u.av) (bI pk [] (by simp) (by simp) ⟨N,hg⟩) fun dl c0 a0 f1=>?_
 obtain ⟨ab,rfl⟩:=a0;simp;refine ACalls.pure (eK ab 1) fun h gs=>?_;have g4:=(w v (s4 bN)).trans b0;have f4:¬v=h:=by omega
 simp [bsI,az,Bound.av,Bound.cells,aH,g4,f4];have eo:¬g=h:=by omega
 have hj:¬h=g:=by omega
 refine ACalls.draw (R:=fun o=>∃ k,o=.int k/\k∈[1,1000]) (cC [1,1000] L a4 g _ _ (by simp) (by simp) (by unfold SM; rw [ad eo]; exact W) (by omega) (by omega) R (by omega)) fun o ag fm bo q gv e9 e' a' M=>?_
 obtain ⟨hb,rfl,hF⟩:=q;have f7:hb≠0:=by simp at hF; omega
 have b1:ag v=some (.row 2 [[.row y 2 0 3,x]] .live none):=by rw [M v (s4 bN),ad f4]; exact g4
 have hJ:=(M h hj).trans ae;simp [b1,bsI,az,aH];refine ACalls.quiet (R:=fun av=>∃ u:Wb.Form,av=u.av) (bI 0 [⟨⟨#[105]⟩,hb⟩] (by simp) (by simp [f7]) ⟨ag,fm⟩) fun dl h7 a0 it=>?_
 obtain ⟨ax,rfl⟩:=a0;simp [b1];refine ACalls.pure (eK ax 1) fun hh ix=>?_;simp [bsI,az,Bound.av,Bound.cells,b1];refine ACalls.quiet (R:=fun av=>∃ u:Wb.Form,av=u.av) (bI 900 [] (by simp) (by simp) ⟨ag,hh⟩) fun dl h6 a0 ih=>?_
 obtain ⟨bc,rfl⟩:=a0;simp [b1];refine ACalls.pure (eK bc 1) fun z ho=>?_;have gn:¬h=z:=by omega
 have f2:¬v=z:=by omega
 have f3:¬v=z+1:=by omega
 have ho:O<=h/\h+1<=z:=by omega
 have ca:∀ m,m v=some (.row 2 [[.row y 2 0 3,.row (z+1) 15 0 1]] .live none)->(∀ k,k≠v->m k=upd (upd (upd (upd ag z (some (.row 15 [[.int 1,.str ⟨#[106]⟩,.sl [[.int ax.const,row (ax.terms.map Term.cells),.int 1]] true,.sl [[.int bc.const,row (bc.terms.map Term.cells),.int 1]] true,.nil,x,.str ⟨#[]⟩,.nil,.int 0,.int 0,.int 0,.nil,.str ⟨#[]⟩,.nil,.nil]] .live none))) h (some (.row 15 [[.int 1,.str ⟨#[105]⟩,.sl [[.int aa.const,row (aa.terms.map Term.cells),.int 1]] true,.sl [[.int ab.const,row (ab.terms.map Term.cells),.int 1]] true,.nil,.row z 15 0 1,.str ⟨#[]⟩,.nil,.int 0,.int 0,.int 0,.nil,.str ⟨#[]⟩,.nil,.nil]] .live none))) (z+1) (some (.row 15 [[.int 1,.str ⟨#[105]⟩,.sl [[.int aa.const,row (aa.terms.map Term.cells),.int 1]] true,.sl [[.int ab.const,row (ab.terms.map Term.cells),.int 1]] true,.nil,.row z 15 0 1,.str ⟨#[]⟩,.nil,.int 0,.int 0,.int 0,.nil,.str ⟨#[]⟩,.nil,.nil]] .live none))) v none k)->pB L g bf O v y F n a m (z+1+1):=by
  intro m hn f0;have dW:m z=some (.row 15 [[.int 1,.str ⟨#[106]⟩,.sl [[.int ax.const,row (ax.terms.map Term.cells),.int 1]] true,.sl [[.int bc.const,row (bc.terms.map Term.cells),.int 1]] true,.nil,x,.str ⟨#[]⟩,.nil,.int 0,.int 0,.int 0,.nil,.str ⟨#[]⟩,.nil,.nil]] .live none):=by
   rw [f0 _ (s4 f2),ad (s4 f2),qv,ad (s4 gn),ae]
  have d0:m (z+1)=some (.row 15 [[.int 1,.str ⟨#[105]⟩,.sl [[.int aa.const,row (aa.terms.map Term.cells),.int 1]] true,.sl [[.int ab.const,row (ab.terms.map Term.cells),.int 1]] true,.nil,.row z 15 0 1,.str ⟨#[]⟩,.nil,.int 0,.int 0,.int 0,.nil,.str ⟨#[]⟩,.nil,.nil]] .live none):=by
   rw [f0 _ (s4 f3),ad (s4 f3),ae]
  have gl:∀ k,k<O->k≠v->m k=ag k:=fun k d a8=>by
   rw [f0 _ a8,ad a8,qv,qv,qv]
  have fn:∀ k,k<O->k≠v->k≠g->m k=Y k:=fun k d a8 l=>by rw [gl k d a8,M k l,qv,w k l]
  have hm:BT 3 m F x n:=(c2.more (by omega)).frame fun k d=>fn k (C k d).1 (fun e=>cq (e▸d)) (C k d).2
  obtain ⟨es,fd,St,h1,h2,h3,h4,h5⟩:=hm;have hX:Tr 3 m F [[.int 1,.str ⟨#[106]⟩,.sl [[.int ax.const,row (ax.terms.map Term.cells),.int 1]] true,.sl [[.int bc.const,row (bc.terms.map Term.cells),.int 1]] true,.nil,x,.str ⟨#[]⟩,.nil,.int 0,.int 0,.int 0,.nil,.str ⟨#[]⟩,.nil,.nil]] (1+n+0):=
   Tr.cons F fd St (fun _=>False) 1 _ _ _ .nil x _ .nil _ [⟨ax,1⟩] [⟨bc,1⟩] [] [] (.mk 0 0 ⟨0,[]⟩ ⟨#[]⟩ [] []) es [] n 0 (by simp [Bound.cells]) (by simp [Bound.cells]) (by rfl) (by simp [Expr.cells_mk,br]) ⟨rfl,rfl,rfl,rfl,by simp⟩ (.inl rfl) h1 h2 (.nil _) h3 h4 (fun _ t=>t.elim) h5 (fun _ _ t=>t) (fun _ _ t=>t)
  have hY:Tr 3 m (fun k=>F k\/k=z) [[.int 1,.str ⟨#[105]⟩,.sl [[.int aa.const,row (aa.terms.map Term.cells),.int 1]] true,.sl [[.int ab.const,row (ab.terms.map Term.cells),.int 1]] true,.nil,.row z 15 0 1,.str ⟨#[]⟩,.nil,.int 0,.int 0,.int 0,.nil,.str ⟨#[]⟩,.nil,.nil]] (1+(1+n+0)+0):=
   Tr.cons _ (fun k=>k=z) F (fun _=>False) 1 _ _ _ .nil (.row z 15 0 1) _ .nil _ [⟨aa,1⟩] [⟨ab,1⟩] [] [] (.mk 0 0 ⟨0,[]⟩ ⟨#[]⟩ [] []) _ [] _ 0 (by simp [Bound.cells]) (by simp [Bound.cells]) (by rfl) (by simp [Expr.cells_mk,br]) ⟨rfl,rfl,rfl,rfl,by simp⟩ (.inl rfl) (.inr ⟨z,rfl,rfl,dW⟩) hX (.nil _) (fun _ t=>.inr t) (fun _ t=>.inl t) (fun _ t=>t.elim) (fun k Y p=>by have:=C k p; omega) (fun _ _ t=>t) (fun _ _ t=>t)
  refine ⟨_,fun k=>(F k\/k=z)\/k=z+1,.row (z+1) 15 0 1,1+(1+n+0)+0,bo,⟨hn,⟨bt,dN,cx,e5,da,de,dp,fa,fb,rfl,(fn y gN (s4 b2) (s4 bW)).trans ef,ge,e1,e2,gf,e3,e4⟩,c',⟨_,fun k=>k=z+1,_,.inr ⟨z+1,rfl,rfl,d0⟩,hY,fun k d=>.inr d,fun k d=>.inl d,fun k d D=>?_⟩,b2,?_,?_⟩,by omega,?_,?_,by omega,by omega,?_⟩
  ·rcases D with D | D
   ·have:=C k D; omega
   ·omega
  ·rintro ((d | d) | d)
   ·exact cq d
   ·omega
   ·omega
  ·rintro ((d | d) | d)
   ·exact p7 d
   ·omega
   ·omega
  ·rintro k ((d | d) | d)
   ·exact .inl d
   ·exact .inr (by omega)
   ·exact .inr (by omega)
  ·unfold SM; rw [gl g hq bN]; exact a'
  ·intro k d l ez c5 ey;rw [fn k d ez l,b3 k l]
 have c9:(∃ b,x=.sl [] b)\/∃ d2 g8,x=.row d2 15 0 g8:=by
  obtain ⟨es,fd,St,a5,_⟩:=gc;rcases a5 with ⟨b,e,_⟩ | ⟨d2,_,e,_⟩
  ·exact .inl ⟨b,e⟩
  ·exact .inr ⟨d2,_,e⟩
 rcases c9 with ⟨b,c9⟩ | ⟨d2,g8,c9⟩
 all_goals
  rw [c9] at b1 ca;simp [bsI,az,aH,Bound.av,Bound.cells,b1,hJ,gn,f2,f3,f4,c9];refine ca _ (by simp [b1]) fun k d=>?_
  show upd _ v _ k=_;rw [ad d,ad d]
theorem stC1 (L:List Int) (f:L.length<=1048576) (g d:Nat) (h:g≠d):StC L g d 4 16 30 3615:=by
 have k:=dy L f g d h 1 (by omega) (by omega) 1 0 0 (by omega) (by omega) (by omega) (fun o=>by omega)
 have l:=dy L f g d h 2 (by omega) (by omega) 2 2 241 (by omega) (by omega) (by omega) (fun _=>k)
 have m:=dy L f g d h 3 (by omega) (by omega) 4 6 723 (by omega) (by omega) (by omega) (fun _=>l)
 exact dy L f g d h 4 (by omega) (by omega) 8 14 1687 (by omega) (by omega) (by omega) (fun _=>m)
structure GenP (p:Wb.Prog):Prop where
 arrays:p.arrays.length=3
 small:SmallA p.arrays
 steps:aw p.steps<=32
theorem vz (L:List Int) (a4:L.length<=1048576) (a:Int) (g:Nat) (z:Heap) (f:Nat) (de:SM z g L a) (c4:0<=a) (et:a<100000000) (c8:g<f) :
  ACalls Pg 6 [.ptr g 0 0] ⟨z,f⟩ fun av s'=>(∃ p:Wb.Prog,av=p.av/\GenP p)/\∃ o,a<=o/\o<=a+4000/\SM s'.h g L o/\∀ k,k<f->k≠g->s'.h k=z k:=by
 refine ACalls.deep (fun k=>f<=k) (R:=fun av s'=>∃ (A:List Wb.Array) (F:Nat->Prop) (H:AV) (n:Nat) (x:Nat) (o:Int),av=.agg [.row x 2 0 3,H]/\rN s'.h x A/\SmallA A/\BT 3 s'.h F H n/\f<=x/\(∀ k,F k->f<=k)/\n<=32/\a<=o/\o<=a+4000/\SM s'.h g L o/\∀ k,k<f->k≠g->s'.h k=z k) ?_ ?_
 ·refine Fn6.calls .keep ?_;unfold Fn6.ac;have eo:¬f=f+1:=by omega
  have es:¬f=f+2:=by omega
  simp [bsI,az,aH];obtain ⟨t,R⟩:∃ t,t=upd (upd (upd z f (some (.row 2 [[.nil,.nil]] .live none))) (f+1) (some (.row 1 [[.int 0]] .live none))) (f+1+1) (some (.row 2 [[.str ⟨#[97]⟩,.sl [[.int 12]] true],[.str ⟨#[98]⟩,.sl [[.int 12],[.int 12]] true],[.str ⟨#[99]⟩,.sl [[.int 2]] true]] .live none)):=⟨_,rfl⟩;have dp:t f=some (.row 2 [[.nil,.nil]] .live none):=by rw [R,qv,qv,ae]
  have ds:t (f+1)=some (.row 1 [[.int 0]] .live none):=by rw [R,qv,ae]
  have dv:t (f+2)=some (.row 2 [[.str ⟨#[97]⟩,.sl [[.int 12]] true],[.str ⟨#[98]⟩,.sl [[.int 12],[.int 12]] true],[.str ⟨#[99]⟩,.sl [[.int 2]] true]] .live none):=by rw [R,ae]
  have b0:∀ k,k<f->t k=z k:=fun k d=>by rw [R,qv,qv,qv]
  rw [<-R];refine (stC1 L a4 g (f+1) (by omega) [] 2 0 a t (f+1+1+1) (by simp) (by omega) (by omega) (by unfold SM; rw [b0 g c8]; exact de) c4 (by omega) ds (by omega) (by omega) (by omega) (by omega)).mono ?_
  rintro av ⟨Q,D⟩ c5 ⟨C,y,ey,rfl,a6,eP,cl,O,e2,d1,b3,b4,v,e5,d2,e6,e9,b2,e3,e4,ax⟩;simp only at c5 d1 b3 b4 v d2 b2 ax;have d3:=(ax f (by omega) (by omega) (by omega)).trans dp
  have d4:=(ax (f+2) (by omega) (by omega) (by omega)).trans dv
  have d':∀ k,k<f->k≠g->Q k=z k:=fun k d u=>(ax k (by omega) u (by omega)).trans (b0 k d)
  have a7:¬f=D:=by omega
  have bN:¬D=f:=by omega
  have dl:¬D=g:=by omega
  have bW:¬g=D:=by omega
  simp [aH,a7];refine ACalls.draw (ek L cl 14 g _ _ (by omega) (by unfold SM; rw [ad bW]; exact b2) (by omega) (by omega) a4 (by omega)) fun e' w c0 bc dk ex Z aa b1 M=>?_
  obtain ⟨b,rfl⟩:=dk;have b5:w f=some (.row 2 [[.nil,.nil]] .live none):=by rw [M f (by omega),ad a7]; exact d3
  have b6:w D=some (.row 2 [[.row (f+1+1) 2 0 3,.row y 15 0 C.length]] .live none):=by rw [M D dl,ae]
  have ea:w (f+2)=some (.row 2 [[.str ⟨#[97]⟩,.sl [[.int 12]] true],[.str ⟨#[98]⟩,.sl [[.int 12],[.int 12]] true],[.str ⟨#[99]⟩,.sl [[.int 2]] true]] .live none):=by rw [M _ (by omega),qv]; exact d4
  have ef:w y=some (.row 15 C .live none):=by rw [M _ (by omega),qv]; exact b3
  have b8:BT 2 w (fun k=>O k\/k=y) (.row y 15 0 C.length) a6:=⟨C,fun k=>k=y,O,.inr ⟨y,rfl,rfl,ef⟩,b4.frame fun k d=>by have:=v k d; rw [M _ (by omega),qv],fun k d=>.inr d,fun k d=>.inl d,fun k t Q=>(v k Q).2.2 t⟩
  have b7:∀ k,k<f->k≠g->w k=z k:=fun k d u=>by rw [M k u,qv]; exact d' k d u
  have bi:rN w (f+2) [⟨⟨#[97]⟩,[12]⟩,⟨⟨#[98]⟩,[12,12]⟩,⟨⟨#[99]⟩,[2]⟩]:=⟨_,_,_,_,_,_,_,_,_,rfl,ea,rfl,rfl,rfl,rfl,rfl,rfl⟩;have bl:SmallA [⟨⟨#[97]⟩,[12]⟩,⟨⟨#[98]⟩,[12,12]⟩,⟨⟨#[99]⟩,[2]⟩]:=by
   intro H bm;simp at bm;rcases bm with rfl | rfl | rfl <;> simp
  cases b
  case false=>
   simp [b6,b5,bN];refine ⟨_,fun k=>O k\/k=y,_,a6,f+2,⟨rfl,rfl⟩,?_,bl,(b8.more (by omega)).frame fun k d=>?_,by omega,fun k d=>?_,by omega,bc,by omega,by omega,?_,fun k d u=>?_⟩
   ·obtain ⟨S,T,U,ar,Z,aa,ab,ag,ai,a8,Y,r⟩:=bi;exact ⟨S,T,U,ar,Z,aa,ab,ag,ai,a8,by rw [qv]; exact Y,r⟩
   ·rw [ad];rcases d with d | d
    ·have:=v k d; omega
    ·omega
   ·rcases d with d | d
    ·have:=v k d; omega
    ·omega
   ·unfold SM; rw [qv]; exact b1
   ·rw [qv]; exact b7 k d u
  simp;refine (zS L a4 bc g D (f+2) _ (fun k=>O k\/k=y) _ a6 (by omega) w c0 b1 (by omega) (by omega) (by omega) (by omega) (by omega) bW (by omega) (fun k d=>?_) ⟨b6,bi,bl,b8,by omega,fun d=>?_,fun d=>?_⟩).mono ?_
  ·rcases d with d | d
   ·have:=v k d; omega
   ·omega
  ·rcases d with d | d
   ·have:=v _ d; omega
   ·omega
  ·rcases d with d | d
   ·have:=v _ d; omega
   ·omega
  rintro av ⟨a3,en⟩ c6 ⟨cc,bb,a0,dn,cn,⟨b9,ca,eg,a',fd,fm,fn⟩,fs,cb,b',fa,fb,a9⟩;simp only at c6 b9 ca a' cb b' a9;have c9:¬(O f\/f=y):=fun d=>by
   rcases d with d | d
   ·have:=v _ d; omega
   ·omega
  have el:=(a9 f (by omega) (by omega) a7 (by omega) c9).trans b5
  have bk:∀ k,bb k->f<k:=fun k d=>by
   rcases cb k d with (d | d) | d
   ·have:=v _ d; omega
   ·omega
   ·omega
  have ao:(∃ b,a0=.sl [] b)\/∃ al bx,a0=.row al 15 0 bx:=by
   obtain ⟨C,ch,St,a5,_⟩:=a';rcases a5 with ⟨b,e,_⟩ | ⟨al,_,e,_⟩
   ·exact .inl ⟨b,e⟩
   ·exact .inr ⟨al,_,e⟩
  have c7:∀ J:Heap,(∀ k,k≠f->J k=a3 k)->∃ (A:List Wb.Array) (F:Nat->Prop) (H:AV) (n:Nat) (x:Nat) (o:Int),AV.agg [.row (f+2) 2 0 3,a0]=.agg [.row x 2 0 3,H]/\rN J x A/\SmallA A/\BT 3 J F H n/\f<=x/\(∀ k,F k->f<=k)/\n<=32/\a<=o/\o<=a+4000/\SM J g L o/\∀ k,k<f->k≠g->J k=z k:=by
   intro J G;refine ⟨cc,bb,a0,dn,f+2,cn,rfl,?_,eg,a'.frame fun k d=>G k (by have:=bk k d; omega),by omega,fun k d=>by have:=bk k d; omega,by omega,by omega,by omega,?_,fun k d u=>?_⟩
   ·obtain ⟨S,T,U,ar,Z,aa,ab,ag,ai,a8,Y,r⟩:=ca;exact ⟨S,T,U,ar,Z,aa,ab,ag,ai,a8,(G _ (by omega)).trans Y,r⟩
   ·unfold SM; rw [G g (by omega)]; exact b'
   ·rw [G k (by omega),a9 k (by omega) u (by omega) (by omega) ?_]
    ·exact b7 k d u
    ·intro am;rcases am with am | am
     ·have:=v _ am; omega
     ·omega
  rcases ao with ⟨b,ao⟩ | ⟨al,bx,ao⟩
  all_goals
   subst ao;simp [b9,el,bN];simpa using c7 _ fun k d=>ad d
 ·rintro av s' ⟨A,F,H,n,x,o,rfl,c3,di,a5,c',bj,ez,t,Q,w,a3⟩;obtain ⟨C,ch,St,cp,cq,cs,cx,em⟩:=a5;obtain ⟨ap,eM,bo,bt⟩:=cq.frz (D:=fun k=>f<=k) fun k d=>bj k (cx k d);obtain ⟨S,T,U,ar,Z,aa,ab,ag,ai,rfl,Y,dN,dW,d0,eW,e0,e1⟩:=c3;refine ⟨(Wb.Prog.mk [⟨S,ab⟩,⟨T,ag⟩,⟨U,ai⟩] ap).av,?_,fun a2 G=>⟨⟨_,rfl,rfl,di,by show aw ap<=32; omega⟩,o,t,Q,?_,fun k d u=>?_⟩⟩
  ·refine .agg _ _ (by simp [Prog.av]) ?_
   intro j c N l h
   match j with
   | 0=>
    simp at l h; subst l; subst h;refine .row x 2 0 3 _ .live _ Y (.inl rfl) c' (by simp) (by simp) ?_ ?_
    ·intro i e N m h
     match i with
     | 0=>simp [Array.cells] at m h; subst m; subst h; rfl
     | 1=>simp [Array.cells] at m h; subst m; subst h; rfl
     | 2=>simp [Array.cells] at m h; subst m; subst h; rfl
     | i+3=>simp at h
    ·intro i j e N c bf m h l q
     match i with
     | 0=>
      simp [Array.cells] at m h; subst m; subst h
      match j with
      | 0=>simp at l q; subst l; subst q; exact .leaf _
      | 1=>simp at l q; subst l; subst q; exact .of_norm dN
      | j+2=>simp at l
     | 1=>
      simp [Array.cells] at m h; subst m; subst h
      match j with
      | 0=>simp at l q; subst l; subst q; exact .leaf _
      | 1=>simp at l q; subst l; subst q; exact .of_norm dW
      | j+2=>simp at l
     | 2=>
      simp [Array.cells] at m h; subst m; subst h
      match j with
      | 0=>simp at l q; subst l; subst q; exact .leaf _
      | 1=>simp at l q; subst l; subst q; exact .of_norm d0
      | j+2=>simp at l
     | i+3=>simp at h
   | 1=>
    simp at l h; subst l; subst h;have da:(ap.map Step.cells).length=C.length:=by simpa using bo
    rcases cp with ⟨b,rfl,rfl⟩ | ⟨a1,c1,rfl,c2⟩
    ·have:ap=[]:=s6.1 bo;rw [this]; exact .of_norm rfl
    ·refine .row a1 15 0 C.length _ .live _ c2 (.inl rfl) (bj a1 (cs a1 c1)) (by simp) da ?_ ?_
     ·intro i e N m h;rw [s7] at m;rw [<-Step.list_map] at h;exact (bt i e N m h).1
     ·intro i j e N c bf m h l q;rw [s7] at m;rw [<-Step.list_map] at h;exact (bt i e N m h).2 j c bf l q
   | j+2=>simp at l
  ·have:a2 g=s'.h g:=by
    rcases G g with W | ⟨W,_⟩
    ·exact W
    ·omega
   show SM a2 g L o;unfold SM; rw [this]; exact w
  ·have:a2 k=s'.h k:=by
    rcases G k with W | ⟨W,_⟩
    ·exact W
    ·omega
   exact this.trans (a3 k d u)
end Go.Proofs.YtjhogglgkjcacaaGreat
namespace Go.Proofs.YtjhogglgkjcacaaGreat
section
variable {α:Type} (lt:α->α->Bool)
variable (htr:∀ a b c:α,lt b a=false->lt c b=false->lt c a=false) (has:∀ a b:α,lt a b=true->lt b a=false)
include htr has
omit htr has
end
end Go.Proofs.YtjhogglgkjcacaaGreat
set_option maxRecDepth 20000
set_option maxHeartbeats 4000000
namespace Go.Proofs.YtjhogglgkjcacaaGreat
open Go.AM Go.Wb
theorem wo (l:List Int) (x:Int):an (l++[x])=an l++[[.int x]]:=by simp [an]
theorem pt {l:List Int} {i:Nat} (h:i<l.length):(an l)[i]?=some [.int l[i]]:=by simp [an,h]
abbrev Env:=List (ByteArray×Int)
def aC (e:Env) (n:ByteArray):Int:=(bw e n).getD 0
def fc (e:Env):Prop:=∀ d∈e,-1000000<=d.2/\d.2<=1000000
def eR (f:ByteArray->Int):List Wb.Term->Int->Int
 | [],n=>n
 | d::g,n=>eR f g (n+d.coef*f d.name)
def aN (d:ByteArray->Int) (f:Wb.Form):Int:=eR d f.terms f.const
structure OkForm (f:Wb.Form):Prop where
 const:-1000000<=f.const/\f.const<=1000000
 len:f.terms.length<=12
 coef:∀ t∈f.terms,-1000<=t.coef/\t.coef<=1000
def cO (b:Wb.Bound):Prop:=OkForm b.form/\1<=b.div/\b.div<=1000
theorem kM:∀ {l:List Wb.Term} {last:ByteArray},bB last l=0->∀ t∈l,-1000<=t.coef/\t.coef<=1000
 | [],last,_=>by simp
 | t::m,last,d=>by
  simp only [bB] at d;split at d
  ·cases d
  ·split at d
   ·cases d
   ·rename_i g;split at d
    ·cases d
    ·intro k f;rcases se.1 f with rfl | f
     ·exact sx fun h=>g (.inr h)
     ·exact kM d k f
theorem tk {f:Wb.Form} (h:bC f=0):OkForm f:=by
 simp only [bC] at h;split at h
 ·cases h
 ·rename_i d;split at h
  ·cases h
  ·rename_i g;exact ⟨sx d,by omega,kM h⟩
theorem nj {f:Wb.Form} {L:List ByteArray} (h:cf f L=0):OkForm f:=by
 simp only [cf] at h;split at h
 ·exact tk ‹_›
 ·exact absurd h ‹_›
theorem mc {L:List ByteArray}:∀ {l:List Wb.Form},bU L l=0->∀ f∈l,OkForm f
 | [],_=>by simp
 | f::k,d=>by
  simp only [bU] at d;split at d
  ·intro h g;rcases se.1 g with rfl | g
   ·exact nj ‹_›
   ·exact mc d h g
  ·exact absurd d ‹_›
theorem oj {L:List ByteArray}:∀ {l:List Wb.Bound},bF L l=0->∀ b∈l,cO b
 | [],_=>by simp
 | b::bs,d=>by
  simp only [bF] at d;split at d
  ·split at d
   ·intro g f;rcases se.1 f with rfl | f
    ·exact ⟨nj ‹_›,‹_›⟩
    ·exact oj d g f
   ·cases d
  ·exact absurd d ‹_›
theorem nB {a b:Int} (k:-1000<=a/\a<=1000) (l:-1000000<=b/\b<=1000000):-1000000000<=a*b/\a*b<=1000000000:=by
 have g:=Int.natAbs_mul a b;have d:a.natAbs<=1000:=by omega
 have f:b.natAbs<=1000000:=by omega
 have h:=Nat.mul_le_mul d f;omega
theorem lN {d:ByteArray->Int} (h:∀ n,-1000000<=d n/\d n<=1000000):∀ (l:List Wb.Term) (n B:Int),(∀ t∈l,-1000<=t.coef/\t.coef<=1000) -> -B<=n/\n<=B -> -(B+l.length*1000000000)<=eR d l n/\eR d l n<=B+l.length*1000000000
 | [],n,B,_,f=>by simpa [eR] using f
 | t::m,n,B,g,f=>by
  have p:=nB (g t (r4)) (h t.name);have:=lN h m (n+t.coef*d t.name) (B+1000000000) (fun o k=>g o (r3 _ k)) (by omega)
  simp only [eR,s5];omega
theorem cN {d:ByteArray->Int} (h:∀ n,-1000000<=d n/\d n<=1000000) {f:Wb.Form} (g:OkForm f):-12001000000<=aN d f/\aN d f<=12001000000:=by
 have:=lN h f.terms f.const 1000000 g.coef g.const;have k:=g.len;unfold aN;omega
theorem cY {e:Env} (d:fc e) (n:ByteArray):-1000000<=aC e n/\aC e n<=1000000:=by
 unfold aC
 induction e with
 | nil=>simp [bw]
 | cons h e g=>
  simp only [bw];split
  ·exact d h (r4)
  ·exact g fun k f=>d k (r3 _ f)
def mxI (a b:Int):Int:=if a<b then b else a
def mnI (a b:Int):Int:=if b<a then b else a
def eu (d:ByteArray->Int):List Wb.Bound->Int->Int
 | [],n=>n
 | b::bs,n=>eu d bs (mxI n (upI (aN d b.form) b.div))
def fj (d:ByteArray->Int):List Wb.Bound->Int
 | []=>0
 | b::bs=>eu d bs (upI (aN d b.form) b.div)
def dS (d:ByteArray->Int):List Wb.Bound->Int->Int
 | [],n=>n
 | b::bs,n=>dS d bs (mnI n (aN d b.form / b.div))
def fy (d:ByteArray->Int):List Wb.Bound->Int
 | []=>0
 | b::bs=>dS d bs (aN d b.form / b.div)
theorem gX {a d:Int} (h:1<=d) (B:Int) (g:-B<=a/\a<=B):-B<=a / d/\a / d<=B:=by
 have f:=EL a d;omega
theorem mH {a d:Int} (f:1<=d) (B:Int) (g:-B<=a/\a<=B):-B<=upI a d/\upI a d<=B:=by
 have:=gX (a:=-a) f B (by omega)
 unfold upI;omega
theorem mO {d:ByteArray->Int} (k:∀ n,-1000000<=d n/\d n<=1000000):∀ (l:List Wb.Bound) (n:Int),(∀ b∈l,cO b) -> -12001000000<=n/\n<=12001000000 -> -12001000000<=eu d l n/\eu d l n<=12001000000
 | [],n,_,h=>h
 | b::bs,n,g,h=>by
  have f:=g b (r4);have p:=mH f.2.1 12001000000 (cN k f.1);refine mO k bs _ (fun o m=>g o (r3 _ m)) ?_;unfold mxI; split <;> omega
theorem oD {d:ByteArray->Int} (g:∀ n,-1000000<=d n/\d n<=1000000) {l:List Wb.Bound} (f:∀ b∈l,cO b):-12001000000<=fj d l/\fj d l<=12001000000:=by
 cases l with
 | nil=>simp [fj]
 | cons b bs=>exact mO g bs _ (fun k h=>f k (r3 _ h)) (mH (f b (r4)).2.1 _ (cN g (f b (r4)).1))
theorem lA {d:ByteArray->Int} (k:∀ n,-1000000<=d n/\d n<=1000000):∀ (l:List Wb.Bound) (n:Int),(∀ b∈l,cO b) -> -12001000000<=n/\n<=12001000000 -> -12001000000<=dS d l n/\dS d l n<=12001000000
 | [],n,_,h=>h
 | b::bs,n,g,h=>by
  have f:=g b (r4);have p:=gX f.2.1 12001000000 (cN k f.1);refine lA k bs _ (fun o m=>g o (r3 _ m)) ?_;unfold mnI; split <;> omega
theorem np {d:ByteArray->Int} (g:∀ n,-1000000<=d n/\d n<=1000000) {l:List Wb.Bound} (f:∀ b∈l,cO b):-12001000000<=fy d l/\fy d l<=12001000000:=by
 cases l with
 | nil=>simp [fy]
 | cons b bs=>exact lA g bs _ (fun k h=>f k (r3 _ h)) (gX (f b (r4)).2.1 _ (cN g (f b (r4)).1))
theorem ve {d:ByteArray->Int} (h:∀ n,-1000000<=d n/\d n<=1000000) {l:List Wb.Bound} (f:∀ b∈l,cO b) (g:l≠[]):eu d l (-1099511627776)=fj d l:=by
 cases l with
 | nil=>exact absurd rfl g
 | cons b bs=>
  have k:=mH (f b (r4)).2.1 12001000000 (cN h (f b (r4)).1);simp only [eu,fj,mxI];rw [if_pos (by omega)]
theorem uj {d:ByteArray->Int} (h:∀ n,-1000000<=d n/\d n<=1000000) {l:List Wb.Bound} (f:∀ b∈l,cO b) (g:l≠[]):dS d l 1099511627776=fy d l:=by
 cases l with
 | nil=>exact absurd rfl g
 | cons b bs=>
  have k:=gX (f b (r4)).2.1 12001000000 (cN h (f b (r4)).1);simp only [dS,fy,mnI];rw [if_pos (by omega)]
def fA (A:List Wb.Array) (key:ByteArray) (subs:List Wb.Form):Prop:=∃ (i:Nat) (a:Wb.Array),A[i]?=some a/\bp A key=i/\a.key=key/\a.sizes.length=subs.length/\∀ d∈subs,OkForm d
mutual
def fP (A:List Wb.Array):Wb.Expr->Prop
 | .mk op n form array subs args=>(op=1/\args=[]/\0<=n/\n<=1000002)\/(op=2/\args=[]/\OkForm form)\/(op=3/\args=[]/\fA A array subs)\/(4<=op/\op<=6/\args.length=2/\ic A args)
def ic (A:List Wb.Array):List Wb.Expr->Prop
 | []=>True
 | e::es=>fP A e/\ic A es
end
mutual
def cM:Wb.Expr->Nat
 | .mk op _ _ _ _ args=>if op=3 then 1 else bX args
def bX:List Wb.Expr->Nat
 | []=>0
 | e::es=>cM e+bX es
end
mutual
def ei (A:List Wb.Array) (L:List ByteArray):Wb.Step->Prop
 | .mk kind name low high conds body array subs expr=>
  (kind=1/\inL name L=false/\low≠[]/\high≠[]/\(∀ b∈low,cO b)/\(∀ b∈high,cO b)/\cW A (L++[name]) body) \/
  (kind=2/\(∀ f∈conds,OkForm f)/\cW A L body) \/
  (kind=3/\body=[]/\fA A array subs/\fP A expr/\cM expr<=4096)
def cW (A:List Wb.Array) (L:List ByteArray):List Wb.Step->Prop
 | []=>True
 | s::ss=>ei A L s/\cW A L ss
end
theorem kU {A:List Wb.Array} {L:List ByteArray}:∀ {l:List Wb.Step},cW A L l->∀ s∈l,ei A L s
 | [],_=>by simp
 | s::ss,d=>by
  intro g f;simp only [cW] at d;rcases se.1 f with rfl | f
  ·exact d.1
  ·exact kU d.2 g f
theorem mY {A:List Wb.Array} {key:ByteArray} {subs:List Wb.Form} {L:List ByteArray} (h:bV A key subs L=0):fA A key subs:=by
 simp only [bV] at h;split at h
 ·cases h
 ·rename_i d;split at h
  ·cases h
  ·rename_i f;obtain ⟨i,a,o,g,k,l,m⟩:=iq d;exact ⟨i,a,by rw [q3 o,k],g,l,by rw [<-m]; exact sx f,mc h⟩
mutual
theorem ng {A:List Wb.Array} {L:List ByteArray}:∀ {e:Wb.Expr} {d:Int},aK A L d e=0->fP A e
 | .mk op n form array subs args,d,h=>by
  simp only [aK] at h;split at h
  ·cases h
  ·split at h
   ·cases h
   ·rename_i h1;split at h
    ·cases h
    ·rename_i h2;have h2:aY op n form array subs args=true:=by simpa using h2
     split at h
     ·cases h
     ·rename_i h3;split at h
      ·rename_i h4;exact .inr (.inl ⟨h4,dF h2 (.inr (.inl h4)),nj h⟩)
      ·rename_i h4;split at h
       ·rename_i h5;exact .inr (.inr (.inl ⟨h5,dF h2 (.inr (.inr h5)),mY h⟩))
       ·rename_i h5;by_cases h6:op=1
        ·exact .inl ⟨h6,dF h2 (.inl h6),by omega⟩
        ·refine .inr (.inr (.inr ⟨by omega,by omega,?_,mM h⟩))
         simp [aY,h4,h5,h6] at h2;omega
theorem mM {A:List Wb.Array} {L:List ByteArray}:∀ {l:List Wb.Expr} {d:Int},bv A L d l=0->ic A l
 | [],_,_=>trivial
 | e::es,d,h=>by
  simp only [bv] at h;split at h
  ·exact ⟨ng ‹_›,mM h⟩
  ·exact absurd h ‹_›
end
mutual
theorem kQ {A:List Wb.Array} {L:List ByteArray}:∀ {e:Wb.Expr} {d:Int} {k:Nat},aK A L d e=0->12<=d+k->cM e<=2 ^ k
 | .mk op n form array subs args,d,k,h,hk=>by
  simp only [aK] at h;split at h
  ·cases h
  ·rename_i hd;split at h
   ·cases h
   ·split at h
    ·cases h
    ·rename_i h2;have h2:aY op n form array subs args=true:=by simpa using h2
     split at h
     ·cases h
     ·split at h
      ·rename_i h4;have:=dF h2 (.inr (.inl h4));subst this;simp [cM,h4,bX]
      ·rename_i h4;split at h
       ·rename_i h5;simp only [cM,h5,if_true];exact Nat.one_le_two_pow
       ·rename_i h5;simp only [cM,h5,if_false];by_cases h6:op=1
        ·have:=dF h2 (.inl h6);subst this;simp [bX]
        ·simp [aY,h4,h5,h6] at h2;have hl:args.length=2:=by omega
         match args,hl,h with
         | [a,b],_,h=>
          simp only [bv] at h;split at h
          ·rename_i ha;split at h
           ·rename_i hb;cases k with
            | zero=>
             exfalso;have:(12:Int)<d+1:=by omega
             obtain ⟨_,_,_,_,_,_⟩:=a;simp [aK,this] at ha
            | succ k=>
             have h1:=kQ ha (k:=k) (by omega)
             have h2:=kQ hb (k:=k) (by omega)
             simp only [bX];rw [Nat.pow_succ]; omega
           ·exact absurd h ‹_›
          ·exact absurd h ‹_›
end
theorem pN {A:List Wb.Array} {L:List ByteArray} {e:Wb.Expr} {d:Int} (h:aK A L d e=0) (f:1<=d):cM e<=4096:=by
 have:=kQ h (k:=12) (by omega)
 simpa using this
mutual
theorem tU {A:List Wb.Array}:∀ {s:Wb.Step} {L N:List ByteArray} {d:Int},(aI A L d N s).1=0->ei A L s
 | .mk kind name low high conds body array subs expr,L,N,d,h=>by
  simp only [aI] at h;split at h
  ·cases h
  ·split at h
   ·cases h
   ·rename_i h1;split at h
    ·cases h
    ·rename_i h2;split at h
     ·cases h
     ·split at h
      ·rename_i h3;split at h
       ·rename_i h4;simp only [bD] at h4;split at h4
        ·cases h4
        ·rename_i h5;split at h4
         ·cases h4
         ·rename_i h6;split at h4
          ·cases h4
          ·have hb:=oj h4;refine .inl ⟨h3,by simpa using fun e=>h5 (.inl e),fun e=>h6 (.inl e),fun e=>h6 (.inr e),fun b hm=>hb b (List.mem_append_left _ hm),fun b hm=>hb b (z7 _ hm),gK h⟩
       ·exact absurd h ‹_›
      ·rename_i h3;split at h
       ·rename_i h4;split at h
        ·rename_i h5;simp only [bQ] at h5;split at h5
         ·cases h5
         ·split at h5
          ·cases h5
          ·exact .inr (.inl ⟨h4,mc h5,gK h⟩)
        ·exact absurd h ‹_›
       ·rename_i h4;have h2':bP kind name low high conds body array subs expr=true:=by simpa using h2
        simp [bP,h3,h4] at h2';simp only [cU] at h;split at h
        ·cases h
        ·split at h
         ·exact .inr (.inr ⟨by omega,h2'.2,mY ‹_›,ng h,pN h (by omega)⟩)
         ·exact absurd h ‹_›
theorem gK {A:List Wb.Array}:∀ {l:List Wb.Step} {L N:List ByteArray} {d:Int},(aJ A L d N l).1=0->cW A L l
 | [],_,_,_,_=>trivial
 | s::ss,L,N,d,h=>by
  simp only [aJ] at h;split at h
  ·exact ⟨tU ‹_›,gK h⟩
  ·exact absurd h ‹_›
end
def eV (l:List Int):Int:=l.foldl (·*·) 1
structure OkArray (a:Wb.Array):Prop where
 name:bO a.key=true
 some_:a.sizes≠[]
 len:a.sizes.length<=4
 sizes:∀ n∈a.sizes,1<=n/\n<=20000
 cells:eV a.sizes<=20000
theorem pQ:∀ {l:List Int} {n:Int},(∀ s∈l,1<=s/\s<=20000)->1<=n->n<=l.foldl (·*·) n
 | [],n,_,g=>x7 _
 | s::ss,n,d,g=>by
  rw [vr];have f:n<=n*s:=by have:=x9 (d s (r4)).1 (show 0<=n by omega); simpa using this
  exact A2 f (pQ (fun k h=>d k (r3 _ h)) (by omega))
theorem nK:∀ {l:List Int} {n m:Int},db l n=some m->1<=n->n<=20001->(∀ s∈l,1<=s/\s<=20000)/\(m<=20000->l.foldl (·*·) n<=m)
 | [],n,m,d,_,_=>by
  simp only [db,xk] at d;subst d;exact ⟨by simp,fun _=>x7 _⟩
 | s::ss,n,m,d,q,v=>by
  simp only [db] at d;split at d
  ·rename_i k;have u:1<=n*s:=by have:=v2 q k.1 (by omega) (by omega); simpa using this
   by_cases p:20001<n*s
   ·rw [if_pos p] at d;obtain ⟨g,h⟩:=nK d (by omega) (by omega)
    refine ⟨fun o f=>?_,fun t=>?_⟩
    ·rcases se.1 f with rfl | f
     ·exact k
     ·exact g o f
    ·have:=pQ (n:=20001) g (by omega)
     have:=h t;omega
   ·rw [if_neg p] at d;obtain ⟨g,h⟩:=nK d u (by omega)
    refine ⟨fun o f=>?_,h⟩;rcases se.1 f with rfl | f
    ·exact k
    ·exact g o f
  ·cases d
theorem lh:∀ {l h:List Wb.Array} {cells:Int},bR h l cells=0->0<=cells->cells<=20000->(∀ a∈l,OkArray a)/\(∀ (i:Nat) (a b:Wb.Array),l[i]?=some a->b∈h++l.take i->b.key≠a.key)
 | [],_,_,_,_,_=>⟨by simp,by simp⟩
 | a::l,h,cells,f,H,J=>by
  simp only [bR] at f;split at f
  ·rename_i d;have G:=d;simp only [be] at d;split at d
   ·cases d
   ·rename_i q;split at d
    ·cases d
    ·rename_i t;split at d
     ·cases d
     ·rename_i u;split at d
      ·cases d
      ·rename_i v;cases g:db a.sizes 1 with
       | none=>rw [g] at d; cases d
       | some n=>
        rw [g] at d;simp only at d;split at d
        ·cases d
        ·rename_i w;have D:(be a h cells).2=cells+n:=by simp [be,q,t,u,v,g,w]
         have M:=mA g (by omega)
         rw [D] at f;obtain ⟨x,y⟩:=lh f (by omega) (by omega)
         obtain ⟨z,C⟩:=nK g (by omega) (by omega)
         refine ⟨fun p o=>?_,fun i p b m k=>?_⟩
         ·rcases se.1 o with rfl | o
          ·exact ⟨by simpa using q,u,by omega,z,by have:=C (by omega); unfold eV; omega⟩
          ·exact x p o
         ·cases i with
          | zero=>
           simp at m k;subst m;intro e;exact t (v8.2 ⟨b,k,by simp [e]⟩)
          | succ i=>exact y i p b (by simpa using m) (by simpa using k)
  ·exact absurd f ‹_›
structure Right (p:Wb.Prog):Prop where
 arrays:∀ a∈p.arrays,OkArray a
 apart:∀ (i j:Nat) (a b:Wb.Array),p.arrays[i]?=some a->p.arrays[j]?=some b->j<i->b.key≠a.key
 steps:cW p.arrays [] p.steps
theorem ej {p:Wb.Prog} (h:aR p=0):Right p:=by
 simp only [aR] at h;split at h
 ·cases h
 ·split at h
  ·rename_i d;obtain ⟨f,g⟩:=lh d (by omega) (by omega)
   split at h
   ·rename_i k;refine ⟨f,fun i j a b l o m=>g i a b l ?_,gK k⟩;rw [u5];exact r8 (show (p.arrays.take i)[j]?=some b by rw [tt m]; exact o)
   ·exact absurd h ‹_›
  ·exact absurd h ‹_›
structure Inst where
 num:Nat
 step:Wb.Step
 env:Env
 way:List Int
structure RS where
 rounds:Int
 l:List Inst
mutual
def dE:Wb.Step->Nat
 | .mk kind _ _ _ _ body _ _ _=>(if kind=3 then 1 else 0)+iC body
def iC:List Wb.Step->Nat
 | []=>0
 | s::ss=>dE s+iC ss
end
def cG (f:Int->RS->Int×RS):Nat->Int->RS->Int×RS
 | 0,_,s=>(0,s)
 | g+1,d,s=>if ¬(-1000000<=d/\d<=1000000) then (1,s) else if 200000<s.rounds+1 then (12,{ s with rounds:=s.rounds+1 }) else
  if (f d { s with rounds:=s.rounds+1 }).1=0 then cG f g (d+1) (f d { s with rounds:=s.rounds+1 }).2 else f d { s with rounds:=s.rounds+1 }
mutual
def bL (num:Nat) (e:Env) (way:List Int):Wb.Step->RS->Int×RS
 | .mk kind name low high conds body array subs expr,s=>
  if kind=1 then cG (fun v s=>ba num (e++[(name,v)]) way 0 body s) (fy (aC e) high-fj (aC e) low+1).toNat (fj (aC e) low) s
  else if kind=2 then if conds.all (fun f=>decide (0<=aN (aC e) f))=true then ba num e way 0 body s else (0,s)
  else if s.l.length=50000 then (12,s) else (0,{ s with l:=s.l++[⟨num,.mk kind name low high conds body array subs expr,e,way⟩] })
def ba (num:Nat) (e:Env) (way:List Int) (i:Nat):List Wb.Step->RS->Int×RS
 | [],s=>(0,s)
 | x::xs,s=>if (bL num e (way++[(i:Int)]) x s).1=0 then ba (num+dE x) e way (i+1) xs (bL num e (way++[(i:Int)]) x s).2 else bL num e (way++[(i:Int)]) x s
end
def aB (p:Wb.Prog):Int×RS:=ba 0 [] [] 0 p.steps ⟨0,[]⟩
def dd (d:ByteArray->Int):List Int->List Wb.Form->Int->Bool->Int×Bool
 | g::k,f::h,n,ok=>dd d k h (IntKind.i64.wrap (IntKind.i64.wrap (n*g)+aN d f)) (ok&&decide (0<=aN d f/\aN d f<=g-1))
 | _,_,n,ok=>(n,ok)
def bY (A:List Wb.Array) (d:ByteArray->Int) (key:ByteArray) (subs:List Wb.Form):Wb.Spot×Bool:=(⟨key,(dd d (ii A key) subs 0 true).1⟩,(dd d (ii A key) subs 0 true).2)
mutual
def cZ (A:List Wb.Array) (φ:ByteArray->Int):Wb.Expr->List Wb.Spot×Bool
 | .mk op n form array subs args=>if op=3 then ([(bY A φ array subs).1],(bY A φ array subs).2) else cQ A φ args
def cQ (A:List Wb.Array) (φ:ByteArray->Int):List Wb.Expr->List Wb.Spot×Bool
 | []=>([],true)
 | e::es=>((cZ A φ e).1++(cQ A φ es).1,(cZ A φ e).2&&(cQ A φ es).2)
end
mutual
theorem iB (A:List Wb.Array) (φ:ByteArray->Int):∀ e:Wb.Expr,(cZ A φ e).1.length=cM e
 | .mk op n form array subs args=>by
  simp only [cZ,cM];split
  ·rfl
  ·exact mr A φ args
theorem mr (A:List Wb.Array) (φ:ByteArray->Int):∀ l:List Wb.Expr,(cQ A φ l).1.length=bX l
 | []=>rfl
 | e::es=>by simp [cQ,bX,iB A φ e,mr A φ es]
end
theorem kT:∀ (a b:List Wb.Expr),bX (a++b)=bX a+bX b
 | [],b=>by simp [bX]
 | d::a,b=>by simp [bX,kT a b]; omega
def Step.array:Wb.Step->ByteArray | .mk _ _ _ _ _ _ array _ _=>array
def Step.subs:Wb.Step->List Wb.Form | .mk _ _ _ _ _ _ _ subs _=>subs
def Step.expr:Wb.Step->Wb.Expr | .mk _ _ _ _ _ _ _ _ expr=>expr
def Step.name:Wb.Step->ByteArray | .mk _ name _ _ _ _ _ _ _=>name
def Step.body:Wb.Step->List Wb.Step | .mk _ _ _ _ _ body _ _ _=>body
def Step.kind:Wb.Step->Int | .mk kind _ _ _ _ _ _ _ _=>kind
def Inst.reads (A:List Wb.Array) (i:Inst):List Wb.Spot:=(cZ A (aC i.env) (Step.expr i.step)).1
def Inst.sets (A:List Wb.Array) (i:Inst):Wb.Spot:=(bY A (aC i.env) (Step.array i.step) (Step.subs i.step)).1
def Inst.ok (A:List Wb.Array) (i:Inst):Bool:=(cZ A (aC i.env) (Step.expr i.step)).2&&(bY A (aC i.env) (Step.array i.step) (Step.subs i.step)).2
def AS (t:Nat):Nat:=match t with
 | 23=>220
 | 25=>9
 | t=>t
def AR (f:Nat):Nat:=match f with
 | 5=>210
 | _=>283
def yI:Go.Shelf.Ren:=⟨AR,AS,fun d=>d⟩
theorem vO:SlLaysW.n5 Tryz.prog yI where
 mixed:=by kernel_rfl
 f5 := ⟨ "maps.Clone[warpbeam/wbref2.env,string,int]", by decide, Tryz.func210.trans (congrArg some (by kernel_rfl))⟩
 f7:=Tryz.func283.trans (congrArg some (by kernel_rfl))
 t4:=Tryz.underlying4
 a4:=Tryz.isAgg4
 z4:=Tryz.sizeOf4
 v4:=Tryz.zeroValue4
 t20:=Tryz.underlying20
 a20:=Tryz.isAgg20
 z20:=Tryz.sizeOf20
 v20:=Tryz.zeroValue20
 t23:=Tryz.underlying220
 a23:=Tryz.isAgg220
 z23:=Tryz.sizeOf220
 v23:=Tryz.zeroValue220
theorem rI (g:Nat) (kv:List (AV×AV)) (ver:Nat) (m:Heap) (f:Nat) (G:m g=some (.map kv ver)) :
  ACalls Pg 210 [.map g] ⟨m,f⟩ fun av s'=>av=.map f/\s'=⟨upd m f (some (.map kv f)),f+1⟩:=by
 intro t d T l O;obtain ⟨Q,p⟩:=O
 match T,Q,p with
 | [U],_,p=>
  have R:=p 0 _ U rfl rfl;cases R with
  | map _ q H=>
   obtain ⟨W,Y,k,h,w,x,y,z⟩:=l.map G H;have D:=AnyW.maps_Clone vO q.b k h d w;unfold CallOk;rw [show [Value.map (some q.b)].toArray=#[.map (some q.b)] from rfl,Tryz.call210]
   refine D.mono fun e w' o=>?_;obtain ⟨rfl,rfl⟩:=o;have v:∀ b,b<d.heap.size->(d.alloc (.map k h)).heap[b]?=d.heap[b]?:=fun b C=>heap_alloc_old d _ C;have u:t.Le (t.addLoc f ⟨d.heap.size,1,0⟩):=Gh.le_addLoc l.fresh;have M:=Sim.add (b':=.map kv f) (l':=⟨d.heap.size,1,0⟩) (c':=f+1) (w':=d.alloc (.map k h)) l (q7 _) v (fun _=>q5 _) (by intro Z aa e; injection e with _ e; subst e; exact q5 _)
    ⟨⟨by simp,k,h,heap_alloc_new d _,x,fun i e S o J=>by
     obtain ⟨a,b,c⟩:=y i e S o J;exact ⟨a.mono u,b.mono u,c⟩,z⟩,q7 _⟩
   have N:=Stp.add (b':=.map kv f) (l':=⟨d.heap.size,1,0⟩) (c':=f+1) (w':=d.alloc (.map k h)) l (q7 _) v (fun _=>q5 _) (by simp) rfl rfl rfl
   exact ⟨_,_,_,N,M,.map f ⟨d.heap.size,1,0⟩ (ci _ _ _),rfl,rfl⟩
def dH (h:Heap) (g:Nat) (e:Env):Prop:=∃ ver,h g=some (.map (kvs AV.str AV.int e) ver)
theorem yK {h:Heap} {g:Nat} {e:Env} (d:dH h g e) (x:ByteArray) (c:Nat):lkI (.one .str) (.int 0) false (.map g) (.str x) ⟨h,c⟩=some (.int (aC e x)):=by
 obtain ⟨ver,d⟩:=d;rw [kb jK (f:=AV.int) d x];unfold aC;cases bw e x <;> rfl
theorem lQ (f:Wb.Form) (o:OkForm f) (e:Env) (w:fc e) (g:Nat) (m:Heap) (t:Nat) (p:dH m g e) (Q:g<t) :
  ACalls Pg 208 [.map g,f.av] ⟨m,t⟩ fun av s'=>av=.int (aN (aC e) f)/\s'.h=m:=by
 refine Fn208.calls .frz ?_;unfold Fn208.ac;have M:=cY w;have S:=o.len;simp [Form.av,Form.cells];refine bu 13 Fn208.W0 f.terms (fun i r sl s'=>∃ n:Int,sl 5=.int n/\eR (aC e) r n=aN (aC e) f /\ -(1000000+(i:Int)*1000000000)<=n/\n<=1000000+(i:Int)*1000000000) (by rfl) (by rfl) ?_ ?_ ?_
 ·simp;exact ⟨rfl,o.const⟩
 ·intro O u c q l h;obtain ⟨n,k,h,_⟩:=h;simp at k;simp [q,k];refine ⟨by simpa [eR] using h,?_⟩
  exact aA fun N R=>by rw [l.h N (by omega),qv]
 ·intro i d Y O u c y J z q l h;obtain ⟨n,k,h,U,W⟩:=h;simp at k;have D:=q0 (x:=(i:Int)+1)
  have v:=l.c;have T:=nB (o.coef d (aU z)) (M d.name);have G:=q0 (x:=d.coef*aC e d.name)
  have H:=q0 (x:=n+d.coef*aC e d.name)
  have x:dH (upd u c (some (.row 2 [[.str d.name,.int d.coef]] .live none))) g e:=by
   obtain ⟨ver,p⟩:=p;exact ⟨ver,by rw [qv,l.h g (by omega),qv]; exact p⟩
  have C:=yK x d.name (c+1);simp [q,y,J,Term.cells,k,C,G,H,D];refine ⟨l.upd v (by omega),h,by omega,by omega⟩
theorem xO (al:Wb.Step) (low m:List Wb.Bound) (a4:∃ kind name U body array subs expr,al=.mk kind name low m U body array subs expr) (aa:∀ b∈low,cO b) (Z:∀ b∈m,cO b) (a1:low≠[]) (a0:m≠[]) (e:Env) (H:fc e) (g:Nat) (G:Heap) (v:Nat) (o:dH G g e) (bk:g<v) :
  ACalls Pg 209 [.map g,al.av] ⟨G,v⟩ fun av s'=>av=.tup [.int (fj (aC e) low),.int (fy (aC e) m)]/\s'.h=G:=by
 refine ACalls.small fun ab=>?_;obtain ⟨kind,name,U,body,array,subs,⟨bo,n,bf,bb,bc,a9⟩,rfl⟩:=a4;have z:=cY H;rw [Step.av_mk] at ab ⊢;have bm:low.length<=68719476736/\m.length<=68719476736:=by simp at ab; omega
 refine Fn209.calls .frz ?_;unfold Fn209.ac;simp;refine bu 15 Fn209.W0 low (fun i r sl s'=>∃ n:Int,sl 6=.int n/\eu (aC e) r n=fj (aC e) low /\ -1099511627776<=n/\n<=12001000000) (by rfl) (by rfl) ?_ ?_ ?_
 ·simp;exact ve z aa a1
 ·intro a7 D c x f h;obtain ⟨T,p,h,_⟩:=h;simp at p;simp only [eu] at h;have ao:D v=_:=(f.h v (by omega)).trans ae
  have Y:=f.c;simp [x,ao];refine bu 34 Fn209.W1 m (fun i r sl s'=>∃ n:Int,sl 7=.int n/\sl 6=.int (fj (aC e) low)/\dS (aC e) r n=fy (aC e) m /\ -12001000000<=n/\n<=1099511627776) (by rfl) (by rfl) ?_ ?_ ?_
  ·simp [p,h];exact uj z Z a0
  ·intro a8 W C y u k;obtain ⟨S,t,q,k,_⟩:=k;simp at t q;simp only [dS] at k;simp [y,t,q,k];exact aA fun ai bl=>by rw [u.h ai (by omega),f.h ai (by omega),qv]
  ·intro i b bs a8 W C N R O y u k;obtain ⟨S,t,q,k,a2,a3⟩:=k;simp at t q;have Q:=q0 (x:=(i:Int)+1)
   have ar:=u.c;obtain ⟨d,bd⟩:=b;have l:=Z _ (aU O);have J:-12001000000<=aN (aC e) d/\aN (aC e) d<=12001000000:=cN z l.1;have w:1<=bd:=l.2.1;have ax:=gX (a:=aN (aC e) d) w 12001000000 J;have M:dH (upd W C (some (.row 3 [[.int d.const,row (d.terms.map Term.cells),.int bd]] .live none))) g e:=by
    obtain ⟨ver,o⟩:=o;exact ⟨ver,by rw [qv,u.h g (by omega),f.h g (by omega),qv]; exact o⟩
   simp [y,N,R,Bound.cells,t];refine ACalls.at (lQ d l.1 e H g _ _ M (by omega)) fun am ap=>?_
   simp;refine ACalls.pure (sw _ bd (by omega) (by omega) (by omega)) fun a' bj=>?_
   simp [Q,y,q];refine ⟨u.upd ar (by omega),?_,?_,?_⟩
   ·exact k
   ·show _<=mnI S (_ / _); unfold mnI; split <;> omega
   ·show mnI S (_ / _)<=_; unfold mnI; split <;> omega
 ·intro i b bs a7 D c N R O x f h;obtain ⟨T,p,h,a2,a3⟩:=h;simp at p;have Q:=q0 (x:=(i:Int)+1)
  have Y:=f.c;obtain ⟨d,bd⟩:=b;have l:=aa _ (aU O);have J:-12001000000<=aN (aC e) d/\aN (aC e) d<=12001000000:=cN z l.1;have w:1<=bd:=l.2.1;have a5:=mH w 12001000000 J;have a6:=q0 (x:=-aN (aC e) d)
  have ag:=ah (x:=upI (aN (aC e) d) bd) (by omega) (by omega)
  have ax:=gX (a:=-aN (aC e) d) w 12001000000 (by omega)
  have M:dH (upd D c (some (.row 3 [[.int d.const,row (d.terms.map Term.cells),.int bd]] .live none))) g e:=by
   obtain ⟨ver,o⟩:=o;exact ⟨ver,by rw [qv,f.h g (by omega),qv]; exact o⟩
  simp [x,N,R,Bound.cells,p];refine ACalls.at (lQ d l.1 e H g _ _ M (by omega)) fun C bi=>?_
  simp [a6];refine ACalls.pure (sw _ bd (by omega) (by omega) (by omega)) fun am ap=>?_
  simp only [upI] at ag a5;simp [ag,Q,x];refine ⟨f.upd Y (by omega),?_,?_,?_⟩
  ·exact h
  ·show _<=mxI T (-(-aN (aC e) d / bd)); unfold mxI; split <;> omega
  ·show mxI T (-(-aN (aC e) d / bd))<=_; unfold mxI; split <;> omega
def dP (h:Heap) (g:Nat) (A:List Wb.Array) (S:List Wb.Step) (rounds:Int) (l:AV) (out:Bool) (d:Int):Prop:=h g=some (.row 6 [[row (A.map Array.cells),row (S.map Step.cells),.int rounds,l,.bool out,.int d]] .live none)
theorem mz {A:List Wb.Array} {key:ByteArray} {i:Nat} {a:Wb.Array} (h:A[i]?=some a) (d:bp A key=i):ii A key=a.sizes:=by
 unfold ii;rw [d,show ((i:Int)).toNat=i by omega,h]
theorem sy (A:List Wb.Array) (ar:∀ a∈A,OkArray a) (S:List Wb.Step) (rounds:Int) (l:AV) (out:Bool) (ap:Int) (g:Nat) (key:ByteArray) (subs:List Wb.Form) (a7:fA A key subs) (e:Env) (aa:fc e) (t:Nat) (k:Heap) (d:Nat) (H:dP k g A S rounds l out ap) (b1:g<d) (R:dH k t e) (b2:t<d) :
  ACalls Pg 212 [.ptr g 0 0,.str key,row (subs.map Form.cells),.map t] ⟨k,d⟩ fun av s'=>av=.tup [.agg (Spot.cells (bY A (aC e) key subs).1),.bool (bY A (aC e) key subs).2]/\s'.h=k:=by
 refine ACalls.small fun b6=>?_;have b9:=cY aa;obtain ⟨i,a,y,w,bN,a4,a8⟩:=a7;have Y:=ar a (r8 y);have a5:=Y.len;have a9:=mz y w;have b3:i<A.length:=(q4.1 y).1;have bx:A[i]=a:=(q4.1 y).2;have U:(A.map Array.cells)[i]?=some [.str a.key,row (an a.sizes)]:=by simp [y,Array.cells]
 refine Fn212.calls .frz ?_;unfold Fn212.ac;unfold dP at H;have Q:¬g=d:=by omega
 simp;obtain ⟨M,N⟩:∃ M:Slots->St->Prop,M=fun bi s'=>∃ u,bi 10=.ptr u 0 0/\d+1<=u/\u<s'.c/\s'.h u=some (.row 2 [[.str a.key,row (an a.sizes)]] .live none)/\s'.h d=some (.row 2 [[.str ⟨#[]⟩,.int 0]] .live none)/\∀ h,h<d->s'.h h=k h:=⟨_,rfl⟩;have ab:¬g=d+1:=by omega
 refine roamW_cut [10,16,17,18,19,20,21,22,23,24,25,26,27,28] (by rfl) M ?_ ?_
 ·simp [roamW_t,roamW_f,roamW_n,H,Q,ab];refine ⟨?_,?_⟩
  ·refine ACalls.pure (iL ⟨A,S⟩ key) fun m a0=>?_;simp [w,U,ab,Q,H];rw [N];refine ⟨d+1,by simp,by omega,by show d+1<m; omega,ae,?_,fun h w=>?_⟩
   ·show upd (upd k d _) (d+1) _ d=_;rw [qv,ae]
   ·show upd (upd k d _) (d+1) _ h=_;rw [qv,qv]
  ·refine ACalls.pure (iL ⟨A,S⟩ key) fun m a0=>?_;have a1:¬g=m:=by omega
   simp [roamW_t,roamW_f,roamW_n,w,U,a1,H,Q];rw [N];refine ⟨m,by simp,by omega,by show m<m+1; omega,ae,?_,fun h w=>?_⟩
   ·show upd (upd k d _) m _ d=_;rw [qv,ae]
   ·show upd (upd k d _) m _ h=_;rw [qv,qv]
 ·intro b' bf W;rw [N] at W;obtain ⟨u,C,b7,bb,am,ao,T⟩:=W;obtain ⟨bt,bm⟩:=bf;simp at C;simp only at bb am ao T;have b5:a.sizes.length<=4:=a5;simp [C];obtain ⟨J,x⟩:∃ J:Nat->List Wb.Form->Slots->St->Prop,J=fun i r sl s'=>∃ (n:Int) (ok:Bool),sl 11=.int n/\sl 12=.bool ok/\dd (aC e) (a.sizes.drop i) r n ok=dd (aC e) a.sizes subs 0 true:=⟨_,rfl⟩;refine bu 31 Fn212.W0 subs J (by rfl) (by rfl) ?_ ?_ ?_
  ·rw [x]; exact ⟨by simp,0,true,by simp,by simp,rfl⟩
  ·intro bj G c D p f;rw [x] at f;obtain ⟨n,ok,v,o,f⟩:=f;simp at v o;have bc:a.sizes.drop subs.length=[]:=by rw [<-a4,List.drop_length]
   rw [bc] at f;simp only [dd] at f;have ax:G d=some (.row 2 [[.str ⟨#[]⟩,.int 0]] .live none):=(p.h d (by omega)).trans ao
   simp [D,v,o,ax,aH,Spot.cells,bY,a9,<-f];exact aA fun h w=>by rw [p.h h (by omega)]; exact T h w
  ·intro j q bo bj G c ag al a3 D p f;rw [x] at f;obtain ⟨n,ok,v,o,f⟩:=f;simp at v o;have ai:=q0 (x:=(j:Int)+1)
   have Z:=p.c;have z:j<a.sizes.length:=by omega
   have b8:=Y.sizes a.sizes[j] (u3 z);have a':=q0 (x:=a.sizes[j]-1)
   have a6:=a8 q (aU a3);have O:∀ B,upd G c B u=some (.row 2 [[.str a.key,row (an a.sizes)]] .live none):=fun B=>by rw [qv,p.h u (by omega)]; exact am
   have a2:∀ B,dH (upd G c B) t e:=fun B=>by
    obtain ⟨ver,R⟩:=R;exact ⟨ver,by rw [qv,p.h t (by omega),T t (by omega)]; exact R⟩
   rw [xv z] at f;simp only [dd] at f;have b4:(subs.map Form.cells)[j]?=some [.int q.const,row (q.terms.map Term.cells)]:=by simp [ag,al,Form.cells]
   simp [D,ag,al,Form.cells];refine ACalls.at (lQ q a6 e aa t _ _ (a2 _) (by omega)) fun bk bW=>?_
   cases ok
   ·simp [o,v,C,O,pt z,ai,D];refine ⟨p.upd Z (by omega),?_⟩
    rw [x];exact ⟨_,_,by simp,by simp [o],f⟩
   ·simp [o,v,C,O,pt z,a'];refine ACalls.pure (ct _ _ _) fun bl b0=>?_;simp [o,v,C,O,pt z,ai,D];refine ⟨p.upd Z (by omega),?_⟩
    rw [x];rw [yt] at f;exact ⟨IntKind.i64.wrap (IntKind.i64.wrap (n*a.sizes[j])+aN (aC e) q),decide (0<=aN (aC e) q/\aN (aC e) q<=a.sizes[j]-1),by simp,by simp,f⟩
theorem _root_.Go.AM.retH_at {d g:Nat} {f h:Heap} (k:g<d):retH d f h g=h g:=if_pos k
theorem _root_.Go.AM.retH_out {f g:Nat} {d h:Heap} (l:∀ k,k<f->k≠g->h k=d k):∀ k,k≠g->retH f d h k=d k:=fun k m=>by
 unfold retH; split
 ·exact l k ‹_› m
 ·rfl
theorem mq (A:List Wb.Array) (d:ByteArray->Int):∀ (a b:List Wb.Expr),(cQ A d (a++b)).1=(cQ A d a).1++(cQ A d b).1/\(cQ A d (a++b)).2=((cQ A d a).2&&(cQ A d b).2)
 | [],b=>by simp [cQ]
 | h::a,b=>by
  obtain ⟨f,g⟩:=mq A d a b;simp [cQ,f,g,Bool.and_assoc]
theorem xP (A:List Wb.Array) (bx:∀ a∈A,OkArray a) (S:List Wb.Step) (rounds:Int) (l:AV) (c3:l.cell=true) (t:Int) (g:Nat) (e:Env) (b0:fc e) (u:Nat):∀ (J:Nat) (x:Wb.Expr),SizeOf.sizeOf x<=J->fP A x->cM x<=4096->∀ (out:Bool) (m:Heap) (d:Nat),dP m g A S rounds l out t->g<d->dH m u e->u<d->u≠g ->
  ACalls Pg 211 [.ptr g 0 0,x.av,.map u] ⟨m,d⟩ fun av s'=>av=row ((cZ A (aC e) x).1.map Spot.cells)/\dP s'.h g A S rounds l (out||!(cZ A (aC e) x).2) t/\∀ k,k≠g->s'.h k=m k:=by
 intro J
 induction J with
 | zero=>intro x ao; obtain ⟨_,_,_,_,_,_⟩:=x; simp at ao
 | succ J cs=>
  intro x ao h b8 out m d z a9 C b2 a';obtain ⟨bm,n,w,array,subs,f⟩:=x;refine ACalls.small fun bi=>?_;rw [Expr.av_mk] at bi ⊢;have c4:f.length<=68719476736:=by simp at bi; omega
  refine Fn211.calls .frz ?_;unfold Fn211.ac;have Y:¬g=d:=by omega
  have c2:¬d=g:=by omega
  unfold dP at z;by_cases O:bm=3
  ·subst O;have b':fA A array subs:=by
    simp only [fP] at h;rcases h with h | h | h | h
    ·omega
    ·omega
    ·exact h.2.2
    ·omega
   simp;have b5:dP (upd m d (some (.row 7 [[.int 3,.int n,.int w.const,row (w.terms.map Term.cells),.str array,row (subs.map Form.cells),row (f.map Expr.cells)]] .live none))) g A S rounds l out t:=by unfold dP; rw [ad Y]; exact z
   have b6:dH (upd m d (some (.row 7 [[.int 3,.int n,.int w.const,row (w.terms.map Term.cells),.str array,row (subs.map Form.cells),row (f.map Expr.cells)]] .live none))) u e:=by
    obtain ⟨ver,C⟩:=C;exact ⟨ver,by rw [qv]; exact C⟩
   refine ACalls.at (sy A bx S rounds l out t g array subs b' e b0 u _ _ b5 (by omega) b6 (by omega)) fun a4 bN=>?_
   have am:¬g=a4:=by omega
   have a6:¬a4=g:=by omega
   simp [Spot.cells,Y,am,z];have a8:∀ M:Heap,M g=some (.row 6 [[row (A.map Array.cells),row (S.map Step.cells),.int rounds,l,.bool (out||!(bY A (aC e) array subs).2),.int t]] .live none)->(∀ k,k<d->k≠g->M k=m k)->[[AV.str (bY A (aC e) array subs).1.array,.int (bY A (aC e) array subs).1.cell]]=List.map Spot.cells (cZ A (aC e) (.mk 3 n w array subs f)).1/\dP (retH d m M) g A S rounds l (out||!(cZ A (aC e) (.mk 3 n w array subs f)).2) t/\∀ k,k≠g->retH d m M k=m k:=by
    intro M bo bt;refine ⟨by simp [cZ,Spot.cells],?_,retH_out bt⟩
    unfold dP;rw [retH_at a9,bo]; simp [cZ]
   cases out
   ·simp [z,Y,am,a6,bsI,az];exact a8 _ (by simp) fun k D p=>by rw [ad p,qv,qv]
   ·simp [z,Y,am,a6,bsI,az];exact a8 _ (by simp) fun k D p=>by rw [ad p,qv,qv]
  ·have b9:ic A f:=by
    simp only [fP] at h;rcases h with h | h | h | h
    ·rw [h.2.1]; trivial
    ·rw [h.2.1]; trivial
    ·exact absurd h.1 O
    ·exact h.2.2.2
   have b7:∀ {l:List Wb.Expr},ic A l->∀ a3∈l,fP A a3:=by
    intro l
    induction l with
    | nil=>simp
    | cons a3 ys cx=>
     intro v c1 ap;simp only [ic] at v;rcases se.1 ap with rfl | ap
     ·exact v.1
     ·exact cx v.2 c1 ap
   have ca:cZ A (aC e) (.mk bm n w array subs f)=cQ A (aC e) f:=by simp [cZ,O]
   rw [ca];simp [O];obtain ⟨ab,W⟩:∃ ab:Nat->List Wb.Expr->Slots->St->Prop,ab=fun i r sl s'=>∃ (go:Nat) (o:List Wb.Spot) (y:Bool),sl 9=.row go 2 0 o.length/\d<go/\go<s'.c/\s'.h go=some (.row 2 (o.map Spot.cells) .live none)/\dP s'.h g A S rounds l y t/\(∀ k,k<d->k≠g->s'.h k=m k)/\o=(cQ A (aC e) (f.take i)).1/\y=(out||!(cQ A (aC e) (f.take i)).2):=⟨_,rfl⟩
   refine aZ 41 Fn211.W0 f ab (by rfl) (by rfl) ?_ ?_ ?_
   ·rw [W];refine ⟨by simp,d+1,[],out,by simp,by omega,by show d+1<d+1+1; omega,ae,?_,fun k D p=>?_,by simp [cQ],by simp [cQ]⟩
    ·show upd (upd m d _) (d+1) _ g=_;rw [qv,qv]; exact z
    ·show upd (upd m d _) (d+1) _ k=_;rw [qv,qv]
   ·intro c0 s' Z R;rw [W] at R;obtain ⟨go,o,y,Q,cq,ar,T,G,H,U,aa⟩:=R;obtain ⟨v,c⟩:=s';simp at Q T U aa;simp only at ar G H;have b3:¬go=g:=by omega
    have cc:List.take o.length (o.map Spot.cells)=o.map Spot.cells:=by rw [<-List.length_map (f:=Spot.cells),r0]
    simp [Z,Q,T,cc];rw [<-U];refine ⟨?_,?_,?_⟩
    ·exact cu vh o
    ·rw [aa] at G;unfold dP; rw [retH_at a9,ad (s4 b3)];exact G
    ·exact retH_out fun k D p=>by rw [qv]; exact H k D p
   ·intro i x xs c0 s' bb bk bc Z R;rw [W] at R;obtain ⟨go,o,y,Q,cq,ar,T,G,H,U,aa⟩:=R;obtain ⟨v,c⟩:=s';simp at Q;simp only at ar T G H;have ch:=q0 (x:=(i:Int)+1)
    have bf:x∈f:=aU bc;have cn:=b7 b9 x bf;have cb:SizeOf.sizeOf x<=J:=by
     have:=w8 bf;simp at ao; omega
    have c5:bX f=bX (f.take i)+(cM x+bX xs):=by
     conv=>lhs; rw [bc]
     rw [kT]; rfl
    have c6:bX f<=4096:=by simpa [cM,O] using b8
    have c7:o.length=bX (f.take i):=by rw [U,mr]
    have bj:f.take (i+1)=f.take i++[x]:=by rw [r7,q3 bb,bk]; rfl
    have bN:d<c:=by omega
    have cl:∀ B,dP (upd v c B) g A S rounds l y t:=fun B=>by unfold dP; rw [qv]; exact G
    have b1:∀ B,dH (upd v c B) u e:=fun B=>by
     obtain ⟨ver,C⟩:=C;exact ⟨ver,by rw [qv,H u b2 a']; exact C⟩
    have a7:=fun B=>cs x cb cn (by omega) y (upd v c B) (c+1) (cl B) (by omega) (b1 B) (by omega) a'
    obtain ⟨a1,a0,al,ai,a2,ag⟩:=x;rw [Expr.av_mk] at a7;simp [Z,bb,bk,Expr.cells_mk];refine (a7 _).mono ?_;rintro av ⟨N,q⟩ bW ⟨rfl,bl,ax⟩;simp only at bW bl ax;have b4:N go=some (.row 2 (o.map Spot.cells) .live none):=by rw [ax go (by omega),qv]; exact T
    have a5:=iM (sz:=2) (bytes:=24) (md:=.plain) (es:=o.map Spot.cells) (xs:=(cZ A (aC e) (.mk a1 a0 al ai a2 ag)).1.map Spot.cells) (b:=false) (len:=o.length) (s:=⟨N,q⟩) (by simp) b4 (by simp) (by decide) (by decide) (by decide) (fun a3 cp=>by obtain ⟨c8,_,rfl⟩:=rf.1 cp; rfl) (by simp [iB]; omega)
    simp only [row] at a5 ⊢;simp [Q,a5,ch,Z];rw [W];refine ⟨q,o++(cZ A (aC e) (.mk a1 a0 al ai a2 ag)).1,y||!(cZ A (aC e) (.mk a1 a0 al ai a2 ag)).2,by simp,by omega,by show q<q+1; omega,?_,?_,fun k D p=>?_,?_,?_⟩
    ·show upd (upd N go _) q _ q=_;rw [ae,sh]
    ·show upd (upd N go _) q _ g=_;rw [qv,qv]; exact bl
    ·show upd (upd N go _) q _ k=_;rw [qv,qv,ax k p,qv]; exact H k D p
    ·rw [bj,(mq A (aC e) _ _).1,<-U]; simp [cQ]
    ·rw [bj,(mq A (aC e) _ _).2,aa];simp [cQ,Bool.or_assoc]
theorem ye (l:List Wb.Form) (f:Nat) (a b:List AV) (p:Wb.Form->Bool) (h:Heap) (c:Nat) (u:qw f a b Wb.Form.av h c p l) :
  ACalls Pg 282 [row (l.map Form.cells),.fn (.func f) a b] ⟨h,c⟩ fun av s'=>av=.int (bq p l 0)/\s'.h=h:=by
 refine ACalls.small fun v=>?_;have G:l.length<=68719476736:=by simpa using v.1.1
 refine Fn282.calls .frz ?_;unfold Fn282.ac;simp;refine bM 8 Fn282.W0 l (fun i r sl=>bq p l 0=bq p r i) (by rfl) (by rfl) ?_ ?_ ?_
 ·simp
 ·intro z k g m d;simp [g,d,bq]
 ·intro i x xs z k q y t g m d;have w:=q0 (x:=(i:Int)+1)
  simp [g,q,y,Form.cells];refine ACalls.at (u x (aU t) k m) fun C D=>?_;by_cases o:p x=true
  ·simp [o,d,bq]
  ·simp [o,g,w,d,bq]; omega
theorem xM (l:List Wb.Form) (f:Nat) (a b:List AV) (p:Wb.Form->Bool) (h:Heap) (c:Nat) (d:qw f a b Wb.Form.av h c p l) :
  ACalls Pg 206 [row (l.map Form.cells),.fn (.func f) a b] ⟨h,c⟩ fun av s'=>av=.bool (l.any p)/\s'.h=h:=by
 refine Fn206.calls .frz ?_;unfold Fn206.ac;simp;refine ACalls.at (ye l f a b p h c d) fun g k=>?_;simp [uC]
def l9 (L:List Int) (f:Nat) (g:Heap) (av:AV) (s':St):Prop:=
 Fr f g s'.h s'.c/\((av=.sl [] true/\L=[])\/∃ d,f<=d/\d<s'.c/\av=.row d 1 0 L.length/\s'.h d=some (.row 1 (an L) .live none))
theorem oU (L:List Int) (f:Heap) (d:Nat):ACalls Pg 185 [row (an L)] ⟨f,d⟩ (l9 L d f):=by
 refine ACalls.small fun o=>?_;have m:L.length<=68719476736:=by simpa [an] using o.1.1
 refine Fn185.calls .keep ?_;unfold Fn185.ac;simp;refine lL (fun g=>?_) ?_
 ·have h:L=[]:=by simpa [an] using g
  simp [l9,h];exact Fr.refl _ _
 ·simp [bsI,az];have k:=dr (sz:=1) (bytes:=8) (md:=.plain) (es:=[]) (xs:=an L) (b:=false) (s:=⟨f,d⟩) (by decide) (by decide) (by decide) (by simp) (fun e l=>by
   obtain ⟨q,_,rfl⟩:=rf.1 l; rfl) (by simpa [an] using m) (.inr rfl)
  have p:(an L).length=L.length:=by simp [an]
  simp [k,l9,p];exact ⟨(Fr.refl f d).upd (q5 _) (rv _),d,q5 _,q7 _,rfl,by simp⟩
theorem pK {L:List Int} {h d:Nat} {q f:Heap} {av:AV} (o:Fr h q f d) (u:(av=.sl [] true/\L=[])\/∃ g,h<=g/\g<d/\av=.row g 1 0 L.length/\f g=some (.row 1 (an L) .live none)) (name:Int) (y:(L.length:Int)<=1000000) :
  ∃ l p m,apI 1 8 .fz av (.sl [[.int name]] true) ⟨f,d⟩=some (.row l 1 0 (L.length+1),⟨m,p⟩)/\m l=some (.row 1 (an (L++[name])) .live none)/\Fr h q m p/\h<=l:=by
 have x:an (L++[name])=an L++[[.int name]]:=by simp [an]
 have k:=o.c;rcases u with ⟨rfl,rfl⟩ | ⟨g,v,z,rfl,w⟩
 ·have:=dr (sz:=1) (bytes:=8) (md:=.fz) (es:=[]) (xs:=[[.int name]]) (b:=true) (s:=⟨f,d⟩) (by decide) (by decide) (by decide) (by simp) (fun e t=>by simp at t; subst t; rfl) (by simp) (.inr rfl)
  exact ⟨d,d+1,_,this,by simp [an],o.upd k (rv _),k⟩
 ·have:=bE (sz:=1) (bytes:=8) (len:=L.length) (md:=.fz) (x:=[.int name]) (b:=true) (s:=⟨f,d⟩) (by simp) w (by simp [an]) (by decide) (by decide) (by decide) rfl (by omega)
  exact ⟨d,d+1,_,this,by rw [x]; simp,(o.upd v (q5 _)).upd k (rv _),k⟩
@[simp] theorem _root_.Go.AM.finW_fz_re {P:Program} {d:Option Nat} {f:Nat×Option (Nat×Bool)×I} {re:List (Nat×Option (Nat×Bool)×I)} {r:List AO} {K:Slots->St->Prop} {sl:Slots} {v:AV} {s:St} :
  aT P d .fz (f::re) r K sl v s=@dV (fzI v s) ⟨fun v' s'=>(∀ x∈f::re,fG x sl s')/\aQ P r K (put sl d v') s'⟩:=q6 rfl rfl
theorem xN (f:Wb.Form) (q:OkForm f) (e:Env) (p:fc e) (g k:Nat) (h:Heap) (d:Nat) (o:h k=some (.row 1 [[.map g]] .live none)) (w:k<d) (l:dH h g e) (x:g<d) :
  ACalls Pg 207 [f.av,.ptr k 0 0] ⟨h,d⟩ fun av s'=>av=.bool (decide (aN (aC e) f<0))/\s'.h=h:=by
 refine Fn207.calls .frz ?_;unfold Fn207.ac;have m:¬k=d:=by omega
 simp [Form.av,Form.cells,o,m];have t:dH (upd h d (some (.row 2 [[.int f.const,row (f.terms.map Term.cells)]] .live none))) g e:=by
  obtain ⟨ver,l⟩:=l;exact ⟨ver,by rw [qv]; exact l⟩
 refine ACalls.at (lQ f q e p g _ _ t (by omega)) fun u v=>?_
 simp
def cA (A:List Wb.Array) (i:Inst) (d:Nat):List AV:=
 [.str (Step.name i.step),row (an (i.env.map (·.2)))]++i.step.cells++[.map d,row ((i.reads A).map Spot.cells),.str (i.sets A).array,.int (i.sets A).cell,row (an i.way)]
def UsesAt (h:Heap) (c:Nat) (A:List Wb.Array) (x:AV) (l:List Inst):Prop:=
 ∃ d,RowAt h 22 x d/\d.length=l.length/\∀ (g:Nat) (e:List AV) (i:Inst),d[g]?=some e->l[g]?=some i->∃ f,f<c/\dH h f i.env/\e=cA A i f
structure WInv (h:Heap) (c g:Nat) (A:List Wb.Array) (S:List Wb.Step) (lx:AV) (fault:Int) (s:RS):Prop where
 at_:dP h g A S s.rounds lx (s.l.any fun i=>!i.ok A) fault
 uses:UsesAt h c A lx s.l
 row:∀ k,au lx k->k<c/\k≠g
 gc:g<c
 len:s.l.length<=50000
 rounds:0<=s.rounds/\s.rounds<=200001/\(fault=0->s.rounds<=200000)
theorem UsesAt.frame {h h':Heap} {c c':Nat} {A:List Wb.Array} {x:AV} {l:List Inst} (z:UsesAt h c A x l) (C:c<=c') (g:∀ k,(au x k\/(k<c/\∃ kv ver,h k=some (.map kv ver)))->h' k=h k):UsesAt h' c' A x l:=by
 obtain ⟨m,q,t,u⟩:=z;refine ⟨m,q.frame fun k y=>g k (.inl y),t,fun k e i v w=>?_⟩;obtain ⟨f,o,⟨ver,d⟩,p⟩:=u k e i v w;exact ⟨f,by omega,⟨ver,(g f (.inr ⟨o,_,_,d⟩)).trans d⟩,p⟩
theorem WInv.frame {h h':Heap} {c c' g:Nat} {A:List Wb.Array} {S:List Wb.Step} {m:AV} {f:Int} {s:RS} (w:WInv h c g A S m f s) (o:c<=c') (l:∀ k,k<c->h' k=h k):WInv h' c' g A S m f s:=
 ⟨by unfold dP; rw [l g w.gc]; exact w.at_,w.uses.frame o fun k d=>l k (d.elim (fun h=>(w.row k h).1) fun h=>h.1),fun k d=>⟨by have:=w.row k d; omega,(w.row k d).2⟩,by have:=w.gc; omega,w.len,w.rounds⟩
theorem WInv.cell {h:Heap} {c g:Nat} {A:List Wb.Array} {S:List Wb.Step} {d:AV} {f:Int} {s:RS} (w:WInv h c g A S d f s):d.cell=true:=by
 obtain ⟨l,k,_⟩:=w.uses; exact k.cell
structure WFp (c0 g:Nat) (lx lx':AV) (h0 h:Heap):Prop where
 same:∀ k,k<c0->k≠g->¬au lx k->h k=h0 k
 rows:∀ k,au lx' k->au lx k\/c0<=k
theorem WFp.trans {f c1 g:Nat} {a b k:AV} {l m o:Heap} (x:WFp f g a b l m) (y:WFp c1 g b k m o) (v:f<=c1):WFp f g a k l o:=
 ⟨fun d h q p=>by
  rw [y.same d (by omega) q fun u=>(x.rows d u).elim p fun t=>by omega]; exact x.same d h q p,
  fun d h=>(y.rows d h).elim (x.rows d) fun t=>.inr (by omega)⟩
theorem WFp.ext {d c1 g:Nat} {a b:AV} {f h l:Heap} (x:WFp d g a b f h) (m:∀ k,k<c1->l k=h k) (t:d<=c1):WFp d g a b f l:=
 ⟨fun k o q p=>by rw [m k (by omega)]; exact x.same k o q p,x.rows⟩
theorem WFp.refl {d g:Nat} {a:AV} {h:Heap}:WFp d g a a h h:=⟨fun _ _ _ _=>rfl,fun _ h=>.inl h⟩
theorem WInv.set {h:Heap} {c g:Nat} {A:List Wb.Array} {S:List Wb.Step} {l:AV} {m:Int} {s:RS} (w:WInv h c g A S l m s) (r f:Int) (o:0<=r/\r<=200001/\(f=0->r<=200000)) :
  WInv (upd h g (some (.row 6 [[.sl (A.map Array.cells) false,.sl (S.map Step.cells) false,.int r,l,.bool (s.l.any fun i=>!i.ok A),.int f]] .live none))) c g A S l f ⟨r,s.l⟩:=by
 have k:=w.at_;refine ⟨ae,w.uses.frame (q5 _) fun p d=>ad ?_,w.row,w.gc,w.len,o⟩;rintro rfl;rcases d with d | ⟨_,q,ver,d⟩
 ·exact (w.row p d).2 rfl
 ·unfold dP at k; rw [d] at k; cases k
theorem WFp.self {d g:Nat} {l:AV} {f h:Heap} {b:Option Body} {m:AV} (x:WFp d g l m f h):WFp d g l m f (AM.upd h g b):=
 ⟨fun q o k p=>by rw [ad k]; exact x.same q o k p,x.rows⟩
theorem yZ {e:Env} {name:ByteArray} {v:Int} (h:inL name (e.map (·.1))=false):bG e name v=e++[(name,v)]:=by
 induction e with
 | nil=>rfl
 | cons f e d=>
  simp [inL] at h;simp only [bG,if_neg h.1];rw [d (by simp [inL]; exact h.2)]; rfl
theorem xp (A:List Wb.Array) (gN:∀ a∈A,OkArray a) (S:List Wb.Step) (h:Nat):∀ (b0:Nat) (l:List Wb.Step),aw l<=b0->∀ (ar:Nat) (e:Env) (v:List Int) (s:RS) (bb:AV) (y:Nat) (a9:Heap) (t:Nat),
  cW A (e.map (·.1)) l->fc e->e.length+b0<=100000->v.length+b0<=100000->WInv a9 t h A S bb 0 s->dH a9 y e->y<t->y≠h ->
  ACalls Pg 145 [.ptr h 0 0,row (l.map Step.cells),.map y,row (an (e.map (·.2))),row (an v)] ⟨a9,t⟩ fun av s'=>∃ d2,av=.bool (decide ((ba ar e v 0 l s).1=0))/\WInv s'.h s'.c h A S d2 (ba ar e v 0 l s).1 (ba ar e v 0 l s).2/\WFp t h bb d2 a9 s'.h:=by
 intro b0
 induction b0 with
 | zero=>
  intro l hh;have:l=[]:=by
   cases l with
   | nil=>rfl
   | cons x xs=>obtain ⟨_,_,_,_,_,body,_,_,_⟩:=x; simp [aw,count] at hh
  subst this;intro ar e v s bb y a9 t hn bj hT jj c0 dp hb bx;refine Fn145.calls .keep ?_;unfold Fn145.ac;simp;refine aZ 23 Fn145.W0 ([]:List Wb.Step) (fun i r sl s'=>s'=⟨upd a9 t (some (.row 1 [[.map y]] .live none)),t+1⟩) (by rfl) (by rfl) ?_ ?_ ?_
  ·simp
  ·intro a8 s' a6 a';simp at a6;subst a';simp [a6,ba];exact ⟨bb,c0.frame (by omega) fun d g=>ad (by omega),WFp.refl.ext (c1:=t) (fun d g=>ad (by omega)) (q5 _)⟩
  ·intro i x xs a8 s' f3; simp at f3
 | succ b0 hv=>
  intro l hh ar e v s bb y a9 t hn bj hT jj c0 dp hb bx;refine ACalls.small fun i5=>?_;have kv:l.length<=68719476736:=by simp at i5; omega
  refine Fn145.calls .keep ?_;unfold Fn145.ac;simp;have h4:=c0.gc;obtain ⟨ch,el⟩:∃ ch:Nat->List Wb.Step->Slots->St->Prop,ch=fun i r sl s'=>∃ (k:RS) (q:AV) (Q:Nat),WInv s'.h s'.c h A S q 0 k/\WFp t h bb q a9 s'.h/\(∀ d,au q d->au bb d\/t<d)/\s'.h t=some (.row 1 [[.map y]] .live none)/\t<s'.c/\ba ar e v 0 l s=ba Q e v i r k:=⟨_,rfl⟩;refine aZ 23 Fn145.W0 l ch (by rfl) (by rfl) ?_ ?_ ?_
  ·rw [el];exact ⟨by simp,s,bb,ar,c0.frame (by show t<=t+1; omega) fun d g=>ad (by omega),WFp.refl.ext (c1:=t) (fun d g=>ad (by omega)) (q5 _),fun d g=>.inl g,ae,by show t<t+1; omega,rfl⟩
  ·intro a8 s' a6 a';rw [el] at a';obtain ⟨k,q,Q,dW,d0,gg,gi,hu,d1⟩:=a';have w:ba ar e v 0 l s=(0,k):=by rw [d1]; rfl
   simp [a6,w];exact ⟨q,dW,d0⟩
  ·intro i x xs a8 s' f3 N f6 a6 a';rw [el] at a';obtain ⟨k,q,Q,dW,d0,gg,gi,hu,d1⟩:=a';obtain ⟨ai,c⟩:=s';simp only at dW d0 gi hu;have dN:=q0 (x:=(i:Int)+1)
   have bN:=kU hn x (aU f6);have hS:=fg f6;obtain ⟨kind,name,low,a3,aa,body,array,subs,⟨ax,n,Y,ao,ap,am⟩⟩:=x;have g4:aw body<=b0:=by simp [count] at hS; omega
   have ia:(v.length:Int)<=1000000:=by omega
   obtain ⟨bo,ez⟩:∃ bo,bo=upd ai c (some (.row 15 [(Wb.Step.mk kind name low a3 aa body array subs (.mk ax n Y ao ap am)).cells] .live none)):=⟨_,rfl⟩;simp [a6,f3,N,Step.cells_mk];rw [Step.cells_mk] at ez;rw [<-ez];refine (oU v bo (c+1)).mono ?_;rintro av ⟨bt,j4⟩ hN ⟨g0,g2⟩;simp only at hN g0 g2;obtain ⟨c6,o,cn,hI,hY,hF,hZ⟩:=pK g0 g2 (i:Int) ia;have i3:(an (v++[(i:Int)])).length=v.length+1:=by simp [an]
   have hX:=dj (s:=⟨cn,o⟩) (z:=1) hY i3;obtain ⟨D,he⟩:∃ D,D=upd cn c6 (some (.row 1 (an (v++[(i:Int)])) .frz none)):=⟨_,rfl⟩;have e4:Fr (c+1) bo D o:=by rw [he]; exact hF.upd hZ (q5 _)
   have kn:=e4.c;have eM:∀ d,d<c->D d=ai d:=fun d g=>by rw [e4.h d (by omega),ez,qv]
   have bi:D c=some (.row 15 [[.int kind,.str name,row (low.map Bound.cells),row (a3.map Bound.cells),row (aa.map Form.cells),row (body.map Step.cells),.str array,row (subs.map Form.cells),.int ax,.int n,.int Y.const,row (Y.terms.map Term.cells),.str ao,row (ap.map Form.cells),row (am.map Expr.cells)]] .live none):=by rw [e4.h c (by omega),ez,ae]
   have bf:D t=some (.row 1 [[.map y]] .live none):=(eM t (by omega)).trans gi
   have H:WInv D o h A S q 0 k:=dW.frame (by omega) eM
   have bk:dH D y e:=by
    obtain ⟨ver,dp⟩:=dp;refine ⟨ver,?_⟩;rw [eM y (by omega),d0.same y hb bx ?_]
    ·exact dp
    ·intro w;obtain ⟨hD,e3,_⟩:=c0.uses;rcases e3 with ⟨M,_⟩ | ⟨ef,M,ag⟩
     ·rw [M] at w; exact aL w
     ·rw [M] at w; have:=aq.1 w; subst this; rw [dp] at ag; cases ag
   have g':WFp t h bb q a9 D:=d0.ext eM (by omega)
   simp [bi,bsI,az,hI,hX,-er,<-he];obtain ⟨X,b1⟩:∃ X:Wb.Step,X=.mk kind name low a3 aa body array subs (.mk ax n Y ao ap am):=⟨_,rfl⟩;rw [<-b1] at bN d1 f6;have kx:∀ d,d<o->d≠h->¬au q d->True:=fun _ _ _ _=>trivial;have fm:¬au q t:=fun w=>by
    rcases gg t w with w | w
    ·have:=(c0.row t w).1; omega
    ·omega
   have de:∀ G U al bm,o<=U->WInv G U h A S al 0 bm->WFp o h q al D G->bL Q e (v++[(i:Int)]) X k=(0,bm)->∀ hA,ch (i+1) xs hA ⟨G,U⟩:=by
    intro G U al bm c' ge dk ga hA;rw [el];refine ⟨bm,al,Q+dE X,ge,g'.trans dk (by omega),fun d g=>?_,?_,by show t<U; omega,?_⟩
    ·rcases dk.rows d g with g | g
     ·exact gg d g
     ·exact .inr (by omega)
    ·exact (dk.same t (by omega) (by omega) fm).trans bf
    ·rw [d1]; simp only [ba,ga,if_true]
   have dl:∀ G U al f bm,o<=U->f≠0->WInv G U h A S al f bm->WFp o h q al D G->bL Q e (v++[(i:Int)]) X k=(f,bm) ->
     ¬(ba ar e v 0 l s).1=0/\∃ d2,WInv G U h A S d2 (ba ar e v 0 l s).1 (ba ar e v 0 l s).2/\WFp t h bb d2 a9 G:=by
    intro G U al f bm c' g8 ge dk ga;have w:ba ar e v 0 l s=(f,bm):=by rw [d1]; simp [ba,ga,g8]
    rw [w];exact ⟨g8,al,ge,g'.trans dk (by omega)⟩
   rw [b1] at bN;by_cases hy:kind=2
   ·subst hy;have ho:(∀ f∈aa,OkForm f)/\cW A (e.map (·.1)) body:=by
     simp only [ei] at bN;rcases bN with N | N | N
     ·exact absurd N.1 (by decide)
     ·exact N.2
     ·exact absurd N.1 (by decide)
    have a5:bL Q e (v++[(i:Int)]) X k=if aa.all (fun f=>decide (0<=aN (aC e) f))=true then ba Q e (v++[(i:Int)]) 0 body k else (0,k):=by rw [b1]; simp [bL]
    simp [bi];have hR:qw 207 [] [.ptr t 0 0] Wb.Form.av D o (fun f=>decide (aN (aC e) f<0)) aa:=fun f di hC kd=>xN f (ho.1 f di) e bj y t D hC bf (by omega) bk (by omega)
    refine ACalls.at (xM aa _ _ _ _ D o hR) fun c3 hO=>?_;by_cases em:aa.all (fun f=>decide (0<=aN (aC e) f))=true
    ·have e9:aa.any (fun f=>decide (aN (aC e) f<0))=false:=by
      rw [wy];intro f di;have:=rx.1 em f di;simp at this ⊢; omega
     rw [if_pos em] at a5;simp [e9,bi,bf];have eP:=hv body g4 Q e (v++[(i:Int)]) k q y D c3 ho.2 bj (by omega) (by simp; omega) (H.frame (by omega) fun _ _=>rfl) bk (by omega) bx
     refine eP.mono ?_;rintro av ⟨G,U⟩ c' ⟨al,rfl,O,ab⟩;simp only at c' O ab;have hw:WFp o h q al D G:=⟨fun d g a b=>ab.same d (by omega) a b,fun d g=>(ab.rows d g).imp id fun ai=>by omega⟩
     by_cases J:(ba Q e (v++[(i:Int)]) 0 body k).1=0
     ·simp [J,a6,dN];rw [J] at O;exact de G U al _ (by omega) O hw (by rw [a5]; exact Prod.ext J rfl) _
     ·simp [J];exact dl G U al _ _ (by omega) J O hw a5
    ·have e9:aa.any (fun f=>decide (aN (aC e) f<0))=true:=by
      rw [v8];have:¬∀ f∈aa,decide (0<=aN (aC e) f)=true:=fun ai=>em (rx.2 ai);refine sx fun ai=>this fun f di=>?_;refine sx fun bt=>ai ⟨f,di,?_⟩;simp at bt ⊢; omega
     rw [if_neg em] at a5;simp [e9,a6,dN];exact de D c3 q k (by omega) (H.frame (by omega) fun _ _=>rfl) WFp.refl a5 _
   by_cases hx:kind=1
   ·subst hx;have i0:inL name (e.map (·.1))=false/\low≠[]/\a3≠[]/\(∀ b∈low,cO b)/\(∀ b∈a3,cO b)/\cW A (e.map (·.1)++[name]) body:=by
     simp only [ei] at bN;rcases bN with N | N | N
     ·exact N.2
     ·exact absurd N.1 (by decide)
     ·exact absurd N.1 (by decide)
    obtain ⟨it,h9,h7,hi,hf,hJ⟩:=i0;have g7:=xO (.mk 1 name low a3 aa body array subs (.mk ax n Y ao ap am)) low a3 ⟨_,_,_,_,_,_,_,rfl⟩ hi hf h9 h7 e bj y D o bk (by omega)
    rw [Step.av_mk] at g7;simp [bi,bf];refine ACalls.at g7 fun c3 hO=>?_;have ih:=oD (cY bj) hi;have h8:=np (cY bj) hf;obtain ⟨c1,f7⟩:∃ c1,c1=fj (aC e) low:=⟨_,rfl⟩;obtain ⟨cq,f2⟩:∃ cq,cq=fy (aC e) a3:=⟨_,rfl⟩;obtain ⟨F,gW⟩:∃ F:Int->RS->Int×RS,F=fun a8 s=>ba Q (e++[(name,a8)]) (v++[(i:Int)]) 0 body s:=⟨_,rfl⟩;have a5:bL Q e (v++[(i:Int)]) X k=cG F (cq-c1+1).toNat c1 k:=by rw [b1,f7,f2,gW]; simp [bL]
    rw [<-f7] at ih;rw [<-f2] at h8;simp [<-f7,<-f2];have g6:¬au q c:=fun w=>by have:=(dW.row c w).1; omega
    obtain ⟨hB,e6⟩:∃ ch:Nat->Slots->St->Prop,ch=fun (m:Nat) sl s'=>∃ (a8:Int) (C:RS) (a7:AV),sl 16=.int a8/\m=(cq-a8+1).toNat /\ -12001000000<=a8/\a8<=12001000001/\WInv s'.h s'.c h A S a7 0 C/\WFp o h q a7 D s'.h/\o<=s'.c/\bL Q e (v++[(i:Int)]) X k=cG F m a8 C:=⟨_,rfl⟩;refine cJ Fn145.W1 (by rfl) hB (cq-c1+1).toNat ?_ ?_
    ·rw [e6];exact ⟨c1,k,q,by simp,rfl,by omega,by omega,H.frame (by show o<=c3; omega) fun _ _=>rfl,WFp.refl,by show o<=c3; omega,a5⟩
    ·intro m k8 s' a';rw [e6] at a';obtain ⟨T,C,a7,b',k4,k5,k6,ca,cb,hz,d3⟩:=a';obtain ⟨G,U⟩:=s';simp at b';simp only at ca cb hz;have c8:G t=some (.row 1 [[.map y]] .live none):=(cb.same t (by omega) (by omega) fm).trans bf
     have en:=(cb.same c (by omega) (by omega) g6).trans bi
     by_cases hj:T<=cq
     case neg=>
      have ik:m=0:=by omega
      subst ik;simp [b',hj,a6,dN];exact de G U a7 C hz ca cb d3 _
     obtain ⟨gl,rfl⟩:∃ gl,m=gl+1:=⟨m-1,by omega⟩
     have fa:=ca.at_;unfold dP at fa;have bl:=ca.rounds;simp [b',hj];refine ACalls.pure (ct _ _ _) fun p es=>?_;by_cases b5:-1000000<=T/\T<=1000000
     case neg=>
      simp [b5,fa];refine dl _ p a7 1 C (by omega) (by decide) ((ca.set C.rounds 1 ⟨bl.1,bl.2.1,fun ai=>by cases ai⟩).frame es fun _ _=>rfl) cb.self ?_
      rw [d3]; simp only [cG]; rw [if_pos b5]
     have i8:=q0 (x:=C.rounds+1)
     simp [b5,fa,i8];have k0:=bl.2.2 rfl;have h2:¬t=h:=by omega
     by_cases dv:200000<C.rounds+1
     ·simp [dv];refine dl _ p a7 12 ⟨C.rounds+1,C.l⟩ (by omega) (by decide) ((ca.set (C.rounds+1) 12 ⟨by omega,by omega,fun ai=>by cases ai⟩).frame es fun _ _=>rfl) cb.self ?_
      rw [d3]; simp only [cG]; rw [if_neg (not_not_intro b5),if_pos dv]
     simp [dv,c8,h2];obtain ⟨a2,f0⟩:∃ a2,a2=upd G h (some (.row 6 [[.sl (A.map Array.cells) false,.sl (S.map Step.cells) false,.int (C.rounds+1),a7,.bool (C.l.any fun i=>!i.ok A),.int 0]] .live none)):=⟨_,rfl⟩;have i':WInv a2 p h A S a7 0 ⟨C.rounds+1,C.l⟩:=by rw [f0]; exact (ca.set (C.rounds+1) 0 ⟨by omega,by omega,fun _=>by omega⟩).frame es fun _ _=>rfl
     have et:WFp o h q a7 D a2:=by rw [f0]; exact cb.self
     have ex:¬au q y:=fun w=>by
      obtain ⟨hD,e3,_⟩:=H.uses;obtain ⟨ver,bk⟩:=bk;rcases e3 with ⟨M,_⟩ | ⟨ef,M,ag⟩
      ·rw [M] at w; exact aL w
      ·rw [M] at w; have:=aq.1 w; subst this; rw [bk] at ag; cases ag
     obtain ⟨ver,b2⟩:=bk;have h3:a2 y=some (.map (kvs AV.str AV.int e) ver):=(et.same y (by omega) bx ex).trans b2
     have j':a2 t=some (.row 1 [[.map y]] .live none):=(et.same t (by omega) (by omega) fm).trans bf
     have g5:=(et.same c (by omega) (by omega) g6).trans bi
     rw [<-f0];refine (rI y _ ver a2 p h3).mono ?_;rintro av k7 ki ⟨rfl,rfl⟩;have hm:=iy jK (f:=AV.int) (g:=p) (ver:=p) (m:=e) (s:=⟨upd a2 p (some (.map (kvs AV.str AV.int e) p)),p+1⟩) ae name T;rw [yZ it] at hm;have hQ:¬c=p:=by omega
     simp [g5,hQ,b',hm];obtain ⟨c7,f1⟩:∃ c7,c7=upd a2 p (some (.map (kvs AV.str AV.int (e++[(name,T)])) (p+1))):=⟨_,rfl⟩;have hl:∀ d,d<p->c7 d=a2 d:=fun d g=>by rw [f1,qv]
     rw [<-f1];have h':((e.map (·.2)).length:Int)<=1000000:=by simp; omega
     have eo:=(hl c (by omega)).trans g5
     simp [eo,bsI,az,b'];refine (oU (e.map (·.2)) c7 (p+1+1)).mono ?_;rintro av ⟨j9,j5⟩ hP ⟨e5,g3⟩;simp only at hP e5 g3;obtain ⟨hE,ea,Z,g1,h0,hG,h1⟩:=pK e5 g3 T h';have i4:(an (e.map (·.2)++[T])).length=(e.map (·.2)).length+1:=by simp [an]
     have ha:=dj (s:=⟨Z,ea⟩) (z:=1) h0 i4;obtain ⟨a1,hd⟩:∃ a1,a1=upd Z hE (some (.row 1 (an (e.map (·.2)++[T])) .frz none)):=⟨_,rfl⟩;have eg:Fr (p+1+1) c7 a1 ea:=by rw [hd]; exact hG.upd h1 (q5 _)
     have kk:=eg.c;have hL:=(e5.h c (by omega)).trans eo
     have hK:=(eg.h c (by omega)).trans eo
     have hk:∀ d,d<p->a1 d=a2 d:=fun d g=>(eg.h d (by omega)).trans (hl d g)
     rw [so] at g1 ha;simp [eo,hL,b',bsI,az,g1,ha,-er,<-hd,hK];have hU:dH a1 p (e++[(name,T)]):=⟨_,by rw [eg.h p (by omega),f1,ae]⟩
     have i9:WInv a1 ea h A S a7 0 ⟨C.rounds+1,C.l⟩:=i'.frame (by omega) hk
     have hV:fc (e++[(name,T)]):=fun j2 cx=>by
      rcases rd.1 cx with cx | cx
      ·exact bj j2 cx
      ·simp at cx; subst cx; exact b5
     have eP:=hv body g4 Q (e++[(name,T)]) (v++[(i:Int)]) ⟨C.rounds+1,C.l⟩ a7 p a1 ea (by rw [sh]; exact hJ) hV (by simp; omega) (by simp; omega) i9 hU (by omega) (by omega)
     rw [sh] at eP;refine eP.mono ?_;rintro av ⟨gs,gr⟩ hM ⟨gk,rfl,O,ab⟩;simp only at hM O ab;have hH:F T ⟨C.rounds+1,C.l⟩=ba Q (e++[(name,T)]) (v++[(i:Int)]) 0 body ⟨C.rounds+1,C.l⟩:=by rw [gW]
     rw [<-hH] at O ⊢;have g9:WFp o h q gk D gs:=(et.ext hk (by omega)).trans ab (by omega)
     by_cases J:(F T ⟨C.rounds+1,C.l⟩).1=0
     ·have j0:=q0 (x:=T+1)
      simp [J,b',j0];refine ⟨gl,by omega,?_⟩
      rw [e6];rw [J] at O;refine ⟨T+1,(F T ⟨C.rounds+1,C.l⟩).2,gk,by simp,by omega,by omega,by omega,O,g9,by show o<=gr; omega,?_⟩
      rw [d3]; simp only [cG]; rw [if_neg (not_not_intro b5),if_neg dv,if_pos J]
     ·simp [J];refine dl gs gr gk _ (F T ⟨C.rounds+1,C.l⟩).2 (by omega) J O g9 ?_
      rw [d3]; simp only [cG]; rw [if_neg (not_not_intro b5),if_neg dv,if_neg J]
   have i1:kind=3/\body=[]/\fA A array subs/\fP A (.mk ax n Y ao ap am)/\cM (.mk ax n Y ao ap am)<=4096:=by
    simp only [ei] at bN;rcases bN with N | N | N
    ·exact absurd N.1 hx
    ·exact absurd N.1 hy
    ·exact N
   obtain ⟨rfl,rfl,i6,hW,ix⟩:=i1;have cp:=H.at_;have j1:=H.cell;obtain ⟨R,b9,eW,gc⟩:=H.uses;have i7:=b9.len ⟨D,o⟩;unfold dP at cp;have a5:bL Q e (v++[(i:Int)]) X k=if k.l.length=50000 then (12,k) else (0,{ k with l:=k.l++[⟨Q,X,e,v++[(i:Int)]⟩] }):=by rw [b1]; simp [bL]
   simp [bi,bf,cp,i7];by_cases ks:R.length=50000
   ·have fn:(R.length:Int)=50000:=by omega
    simp [fn,cp];have bl:=H.rounds;refine dl _ o q 12 k (by omega) (by decide) (H.set k.rounds 12 ⟨bl.1,bl.2.1,fun ai=>by cases ai⟩) WFp.refl.self ?_
    rw [a5,if_pos (by omega)]
   have fn:¬(R.length:Int)=50000:=by omega
   have da:¬c=o:=by omega
   have c9:¬t=o:=by omega
   have ey:¬h=o:=by omega
   simp [fn,bi,bf,aH,da,c9];have kt:=bk;obtain ⟨ver,b2⟩:=bk;have ex:¬au q y:=fun w=>by
    rcases b9 with ⟨M,_⟩ | ⟨ef,M,ag⟩
    ·rw [M] at w; exact aL w
    ·rw [M] at w; have:=aq.1 w; subst this; rw [b2] at ag; cases ag
   have hp:=fun B=>xP A gN S k.rounds q j1 0 h e bj y _ (.mk ax n Y ao ap am) (q5 _) hW ix (k.l.any fun i=>!i.ok A) (upd D o B) (o+1) (by unfold dP; rw [ad ey]; exact cp) (by omega) ⟨ver,by rw [qv]; exact b2⟩ (by omega) bx
   rw [Expr.av_mk] at hp;refine (hp _).mono ?_;rintro av ⟨G,U⟩ c' ⟨rfl,O,ab⟩;simp only at c' O ab;have fb:=(ab o (by omega)).trans ae
   have en:G c=_:=(ab c (by omega)).trans ((ad da).trans bi)
   have c8:G t=_:=(ab t (by omega)).trans ((ad c9).trans bf)
   obtain ⟨d4,bl⟩:∃ d4:List (List AV),d4=(cZ A (aC e) (.mk ax n Y ao ap am)).1.map Spot.cells:=⟨_,rfl⟩;obtain ⟨cc,hq⟩:∃ cc:Bool,cc=(cZ A (aC e) (.mk ax n Y ao ap am)).2:=⟨_,rfl⟩;rw [<-hq] at O;rw [<-bl];simp [fb,en,c8,da,c9];obtain ⟨a0,gb⟩:∃ a0,a0=bY A (aC e) array subs:=⟨_,rfl⟩;have h4:h<o:=H.gc;have hr:=fun B=>sy A gN S k.rounds q ((k.l.any fun i=>!i.ok A)||!cc) 0 h array subs i6 e bj y (upd G o B) U (by unfold dP; rw [ad ey]; exact O) (by omega) ⟨ver,by rw [qv,ab y bx,qv]; exact b2⟩ (by omega)
   rw [<-gb] at hr;refine ACalls.at (hr _) fun p es=>?_;unfold dP at O;have gv:¬o=p:=by omega
   have gx:¬p=o:=by omega
   have hc:¬h=p:=by omega
   have gy:¬p=h:=by omega
   have gw:¬o=h:=by omega
   have k2:RowAt G 22 q R:=b9.frame fun d g=>by rw [ab d (H.row d g).2,ad (by have:=(H.row d g).1; omega)]
   have ht:∀ c2∈R,aF 22 c2=true:=fun c2 W=>by
    obtain ⟨d,g,rfl⟩:=Cl W;obtain ⟨j6,_,_,W⟩:=gc d _ k.l[d] (q3 g) (q3 (by omega))
    rw [W];obtain ⟨k3,j3,cl,k9⟩:=k.l[d];obtain ⟨_,_,_,_,_,_,_,_,⟨_,_,_,_,_,_⟩⟩:=j3;rfl
   obtain ⟨bc,e0⟩:∃ bc:List AV,bc=[.str name,row (an (e.map (·.2))),.int 3,.str name,row (low.map Bound.cells),row (a3.map Bound.cells),row (aa.map Form.cells),row [],.str array,row (subs.map Form.cells),.int ax,.int n,.int Y.const,row (Y.terms.map Term.cells),.str ao,row (ap.map Form.cells),row (am.map Expr.cells),.map y,row d4,.str a0.1.array,.int a0.1.cell,.sl (an (v++[(i:Int)])) false]:=⟨_,rfl⟩;have e1:aF 22 bc=true:=by rw [e0]; rfl
   obtain ⟨bW,cs⟩:∃ bW:Inst,bW=⟨Q,X,e,v++[(i:Int)]⟩:=⟨_,rfl⟩;have hs:bc=cA A bW y:=by
    rw [e0,cs,b1,bl,gb]; simp [cA,Step.cells_mk,Step.name,Inst.reads,Inst.sets,Step.expr,Step.array,Step.subs]
   have hg:bW.ok A=(cc&&a0.2):=by rw [cs,b1,hq,gb]; simp [Inst.ok,Step.expr,Step.array,Step.subs]
   have k1:R.length<=50000:=by have:=H.len; omega
   obtain ⟨gp,f9⟩:∃ gp:Bool,gp=((k.l.any fun i=>!i.ok A)||!cc):=⟨_,rfl⟩
   rw [<-f9] at O;cases gp
   case false=>
    have ds:(k.l.any fun i=>!i.ok A)=false/\cc=true:=by
     have:=f9.symm;simp only [Bool.or_eq_false_iff] at this;exact ⟨this.1,by simpa using this.2⟩
    simp [Spot.cells,fb,en,c8,da,c9,gv,gx,hc,ey,gy,gw,O];rw [<-e0];obtain ⟨Z,b4⟩:∃ Z,Z=upd (upd (upd (upd G o (some (.row 22 [[.str name,row (an (e.map (·.2))),.int 3,.str name,row (low.map Bound.cells),row (a3.map Bound.cells),row (aa.map Form.cells),row [],.str array,row (subs.map Form.cells),.int ax,.int n,.int Y.const,row (Y.terms.map Term.cells),.str ao,row (ap.map Form.cells),row (am.map Expr.cells),.map y,row d4,.str ⟨#[]⟩,.int 0,.sl (an (v++[(i:Int)])) false]] .live none))) p (some (.row 2 [[.str a0.1.array,.int a0.1.cell]] .live none))) o (some (.row 22 [bc] .live none))) h (some (.row 6 [[row (A.map Array.cells),row (S.map Step.cells),.int k.rounds,q,.bool (!a0.2),.int 0]] .live none)):=⟨_,rfl⟩;rw [<-b4];have fx:Z h=some (.row 6 [[row (A.map Array.cells),row (S.map Step.cells),.int k.rounds,q,.bool (!a0.2),.int 0]] .live none):=by rw [b4,ae]
    have b7:∀ d,d<o->d≠h->Z d=D d:=fun d g a4=>by rw [b4,ad a4,qv,qv,qv,ab d a4,qv]
    have gf:RowAt Z 22 q R:=b9.frame fun d g=>b7 d (H.row d g).1 (H.row d g).2;obtain ⟨a1,e',i2,f',b8⟩:=gf.push (bytes:=392) (md:=.plain) (c:=p+1) (e:=bc) (b:=true) (by simp) (by decide) (by decide) (by decide) e1 ht (by omega) (fun d g=>by have:=(H.row d g).1; omega)
    have fz:¬au q h:=fun g=>(H.row h g).2 rfl;have fs:=(b8 h (by omega) fz).trans fx
    have fd:=ep (sz:=22) (zs:=[.str ⟨#[]⟩,.nil,.int 0,.str ⟨#[]⟩,.nil,.nil,.nil,.nil,.str ⟨#[]⟩,.nil,.int 0,.int 0,.int 0,.nil,.str ⟨#[]⟩,.nil,.nil,.sc (.map none),.nil,.str ⟨#[]⟩,.int 0,.nil]) (by rfl) (by decide) e1 ⟨Z,p+1⟩
    have h5:¬h=p+1:=by omega
    simp [fd,e',fs,a6,dN];refine de _ (p+1+1) (.row (p+1) 22 0 (R.length+1)) ⟨k.rounds,k.l++[bW]⟩ (by omega) ⟨?_,⟨R++[bc],?_,by simp [eW],fun d c2 z W J=>?_⟩,fun d g=>?_,by omega,?_,H.rounds⟩ ⟨fun d g a4 b6=>?_,fun d g=>?_⟩ ?_ _
    ·unfold dP;rw [ae];simp [yy,hg,ds]
    ·exact f'.frame fun d g=>by rw [ad]; have:=aq.1 g; omega
    ·have dn:∀ u,u<o->u≠h->¬au q u->upd a1 h (some (.row 6 [[row (A.map Array.cells),row (S.map Step.cells),.int k.rounds,.row (p+1) 22 0 (R.length+1),.bool (!a0.2),.int 0]] .live none)) u=D u:=fun u bo bt cn=>by rw [ad bt,b8 u (by omega) cn,b7 u bo bt]
     have f8:∀ u cl,u<o->dH D u cl->u≠h/\¬au q u:=fun u cl h6 ⟨d',b3⟩=>by
      refine ⟨fun e=>?_,fun w=>?_⟩
      ·subst e; rw [cp] at b3; cases b3
      ·rcases b9 with ⟨M,_⟩ | ⟨ef,M,ag⟩
       ·rw [M] at w; exact aL w
       ·rw [M] at w; have:=aq.1 w; subst this; rw [b3] at ag; cases ag
     by_cases b6:d<R.length
     ·rw [sk b6] at W;rw [sk (by omega)] at J
      obtain ⟨u,c4,c5,c6⟩:=gc d c2 z W J;obtain ⟨gm,gn⟩:=f8 u _ c4 c5;obtain ⟨d',e2⟩:=c5;exact ⟨u,by omega,⟨d',(dn u c4 gm gn).trans e2⟩,c6⟩
     ·have f5:d=R.length:=by
       have:=(q4.1 W).1;simp at this; omega
      subst f5;rw [r1 (q5 _),x3] at W;rw [eW,r1 (q5 _),x3] at J;simp at W J;subst W; subst J;have f4:bW.env=e:=by rw [cs]
      refine ⟨y,by omega,⟨ver,?_⟩,hs⟩
      rw [f4];exact (dn y (by omega) bx ex).trans b2
    ·have:=aq.1 g; omega
    ·have:=H.len;simp; omega
    ·rw [ad a4,b8 d (by omega) b6,b7 d g a4]
    ·have:=aq.1 g; exact .inr (by omega)
    ·rw [a5,if_neg (by omega),cs]
   case true=>
    have ds:((k.l.any fun i=>!i.ok A)||!cc)=true:=f9.symm
    simp [Spot.cells,fb,en,c8,da,c9,gv,gx,hc,ey,gy,gw,O];rw [<-e0];obtain ⟨Z,b4⟩:∃ Z,Z=upd (upd (upd (upd G o (some (.row 22 [[.str name,row (an (e.map (·.2))),.int 3,.str name,row (low.map Bound.cells),row (a3.map Bound.cells),row (aa.map Form.cells),row [],.str array,row (subs.map Form.cells),.int ax,.int n,.int Y.const,row (Y.terms.map Term.cells),.str ao,row (ap.map Form.cells),row (am.map Expr.cells),.map y,row d4,.str ⟨#[]⟩,.int 0,.sl (an (v++[(i:Int)])) false]] .live none))) p (some (.row 2 [[.str a0.1.array,.int a0.1.cell]] .live none))) o (some (.row 22 [bc] .live none))) h (some (.row 6 [[row (A.map Array.cells),row (S.map Step.cells),.int k.rounds,q,.bool true,.int 0]] .live none)):=⟨_,rfl⟩;rw [<-b4];have fx:Z h=some (.row 6 [[row (A.map Array.cells),row (S.map Step.cells),.int k.rounds,q,.bool true,.int 0]] .live none):=by rw [b4,ae]
    have b7:∀ d,d<o->d≠h->Z d=D d:=fun d g a4=>by rw [b4,ad a4,qv,qv,qv,ab d a4,qv]
    have gf:RowAt Z 22 q R:=b9.frame fun d g=>b7 d (H.row d g).1 (H.row d g).2;obtain ⟨a1,e',i2,f',b8⟩:=gf.push (bytes:=392) (md:=.plain) (c:=p+1) (e:=bc) (b:=true) (by simp) (by decide) (by decide) (by decide) e1 ht (by omega) (fun d g=>by have:=(H.row d g).1; omega)
    have fz:¬au q h:=fun g=>(H.row h g).2 rfl;have fs:=(b8 h (by omega) fz).trans fx
    have fd:=ep (sz:=22) (zs:=[.str ⟨#[]⟩,.nil,.int 0,.str ⟨#[]⟩,.nil,.nil,.nil,.nil,.str ⟨#[]⟩,.nil,.int 0,.int 0,.int 0,.nil,.str ⟨#[]⟩,.nil,.nil,.sc (.map none),.nil,.str ⟨#[]⟩,.int 0,.nil]) (by rfl) (by decide) e1 ⟨Z,p+1⟩
    have h5:¬h=p+1:=by omega
    simp [fd,e',fs,a6,dN];refine de _ (p+1+1) (.row (p+1) 22 0 (R.length+1)) ⟨k.rounds,k.l++[bW]⟩ (by omega) ⟨?_,⟨R++[bc],?_,by simp [eW],fun d c2 z W J=>?_⟩,fun d g=>?_,by omega,?_,H.rounds⟩ ⟨fun d g a4 b6=>?_,fun d g=>?_⟩ ?_ _
    ·unfold dP;rw [ae];simp [yy,hg,ds];simp at ds;exact ds.imp id .inl
    ·exact f'.frame fun d g=>by rw [ad]; have:=aq.1 g; omega
    ·have dn:∀ u,u<o->u≠h->¬au q u->upd a1 h (some (.row 6 [[row (A.map Array.cells),row (S.map Step.cells),.int k.rounds,.row (p+1) 22 0 (R.length+1),.bool true,.int 0]] .live none)) u=D u:=fun u bo bt cn=>by rw [ad bt,b8 u (by omega) cn,b7 u bo bt]
     have f8:∀ u cl,u<o->dH D u cl->u≠h/\¬au q u:=fun u cl h6 ⟨d',b3⟩=>by
      refine ⟨fun e=>?_,fun w=>?_⟩
      ·subst e; rw [cp] at b3; cases b3
      ·rcases b9 with ⟨M,_⟩ | ⟨ef,M,ag⟩
       ·rw [M] at w; exact aL w
       ·rw [M] at w; have:=aq.1 w; subst this; rw [b3] at ag; cases ag
     by_cases b6:d<R.length
     ·rw [sk b6] at W;rw [sk (by omega)] at J
      obtain ⟨u,c4,c5,c6⟩:=gc d c2 z W J;obtain ⟨gm,gn⟩:=f8 u _ c4 c5;obtain ⟨d',e2⟩:=c5;exact ⟨u,by omega,⟨d',(dn u c4 gm gn).trans e2⟩,c6⟩
     ·have f5:d=R.length:=by
       have:=(q4.1 W).1;simp at this; omega
      subst f5;rw [r1 (q5 _),x3] at W;rw [eW,r1 (q5 _),x3] at J;simp at W J;subst W; subst J;have f4:bW.env=e:=by rw [cs]
      refine ⟨y,by omega,⟨ver,?_⟩,hs⟩
      rw [f4];exact (dn y (by omega) bx ex).trans b2
    ·have:=aq.1 g; omega
    ·have:=H.len;simp; omega
    ·rw [ad a4,b8 d (by omega) b6,b7 d g a4]
    ·have:=aq.1 g; exact .inr (by omega)
    ·rw [a5,if_neg (by omega),cs]
def isLoop (s:Wb.Step):Bool:=decide (Step.kind s=1)
mutual
def dU (around:List Wb.Step):Wb.Step->List (Wb.Step×List Wb.Step)
 | .mk kind name low high conds body array subs expr=>(if kind=3 then [(.mk kind name low high conds body array subs expr,around.filter isLoop)] else [])++bn (around++[.mk kind name low high conds body array subs expr]) body
def bn (around:List Wb.Step):List Wb.Step->List (Wb.Step×List Wb.Step)
 | []=>[]
 | s::ss=>dU around s++bn around ss
end
mutual
theorem mE (around:List Wb.Step):∀ s:Wb.Step,(dU around s).length=dE s
 | .mk kind name low high conds body array subs expr=>by
  simp only [dU,dE,s3,mD _ body];split <;> simp
theorem mD (around:List Wb.Step):∀ l:List Wb.Step,(bn around l).length=iC l
 | []=>rfl
 | s::ss=>by simp only [bn,iC,s3,mE around s,mD around ss]
end
structure InstOk (A:List Wb.Array) (all:List (Wb.Step×List Wb.Step)) (i:Inst):Prop where
 env:fc i.env
 nd:(i.env.map (·.1)).Nodup
 kind:Step.kind i.step=3
 subs:fA A (Step.array i.step) (Step.subs i.step)
 expr:fP A (Step.expr i.step)
 nr:cM (Step.expr i.step)<=4096
 at_:∃ lps:List Wb.Step,all[i.num]?=some (i.step,lps)/\lps.map Step.name=i.env.map (·.1)
theorem qC {x:ByteArray} {l:List ByteArray} (h:inL x l=false):x∉l:=by
 intro d;unfold inL at h;have:=wy.1 h x d;simp at this
theorem oC {F:Int->RS->Int×RS} {Q:RS->Prop} (l:∀ v s,-1000000<=v/\v<=1000000->Q s->Q (F v s).2) (g:∀ s r,Q s->Q { s with rounds:=r }):∀ (k:Nat) (v:Int) (s:RS),Q s->Q (cG F k v s).2
 | 0,_,_,d=>d
 | k+1,v,s,d=>by
  simp only [cG];split
  ·exact d
  ·rename_i f;have f:=Classical.not_not.1 f;split
   ·exact g _ _ d
   ·have h:=l v { s with rounds:=s.rounds+1 } f (g _ _ d);split
    ·exact oC l g k (v+1) _ h
    ·exact h
theorem tN (A:List Wb.Array) (k:List (Wb.Step×List Wb.Step)):∀ (p:Nat) (l:List Wb.Step),aw l<=p->∀ (f:Nat) (e:Env) (o:List Int) (i:Nat) (s:RS) (around:List Wb.Step),cW A (e.map (·.1)) l->fc e->(e.map (·.1)).Nodup->(around.filter isLoop).map Step.name=e.map (·.1) ->
  (∀ (j:Nat) (y:Wb.Step×List Wb.Step),(bn around l)[j]?=some y->k[f+j]?=some y)->(∀ x∈s.l,InstOk A k x)->∀ x∈(ba f e o i l s).2.l,InstOk A k x:=by
 intro p
 induction p with
 | zero=>
  intro l w;cases l with
  | nil=>intro f e o i s around _ _ _ _ _ q; exact q
  | cons x xs=>obtain ⟨_,_,_,_,_,body,_,_,_⟩:=x; simp [aw,count] at w
 | succ p O=>
  intro l
  induction l with
  | nil=>intro _ f e o i s around _ _ _ _ _ q; exact q
  | cons x xs ab=>
   intro w f e o i s around W v z u D t;obtain ⟨N,aa⟩:=W;have J:∀ y∈(bL f e (o++[(i:Int)]) x s).2.l,InstOk A k y:=by
    obtain ⟨kind,name,low,G,C,body,array,subs,expr⟩:=x;have H:aw body<=p:=by simp [aw,count] at w; omega
    have M:kind≠3->∀ (j:Nat) (y:Wb.Step×List Wb.Step),(bn (around++[.mk kind name low G C body array subs expr]) body)[j]?=some y->k[f+j]?=some y:=by
     intro h j y d;refine D j y ?_;simp only [bn,dU,if_neg h,u5];rw [sk (q4.1 d).1]; exact d
    simp only [ei] at N;rcases N with ⟨h,U,_,_,_,_,g⟩ | ⟨h,_,g⟩ | ⟨h,g,Q,R,S⟩
    ·subst h;simp only [bL,if_true];refine oC (Q:=fun s=>∀ y∈s.l,InstOk A k y) (fun ai s Z Y=>?_) (fun s r q=>q) _ _ _ t;refine O body H f (e++[(name,ai)]) _ 0 s (around++[.mk 1 name low G C body array subs expr]) (by rw [sh]; exact g) ?_ ?_ ?_ (M (by decide)) Y
     ·intro ag m;rcases rd.1 m with m | m
      ·exact v ag m
      ·simp at m; subst m; exact Z
     ·rw [sh,va];refine ⟨z,by simp,fun a T b g=>?_⟩
      simp at g; subst g;intro e; subst e;exact qC U T
     ·rw [ti,sh,sh,u];rfl
    ·subst h;simp only [bL,show ¬((2:Int)=1) by decide,if_false,if_true]
     split
     ·refine O body H f e _ 0 s (around++[.mk 2 name low G C body array subs expr]) g v z ?_ (M (by decide)) t
      rw [ti,sh,u];simp [isLoop,Step.kind]
     ·exact t
    ·subst h; subst g;simp only [bL,show ¬((3:Int)=1) by decide,show ¬((3:Int)=2) by decide,if_false]
     split
     ·exact t
     ·intro y d;rcases rd.1 d with d | d
      ·exact t y d
      ·simp at d; subst d;refine ⟨v,z,rfl,Q,R,S,around.filter isLoop,D 0 _ ?_,u⟩;simp [bn,dU]
   simp only [ba];split
   ·refine ab (by simp [aw] at w; omega) _ e o (i+1) _ around aa v z u (fun j y d=>?_) J
    have:=D (dE x+j) y (by
     simp only [bn];rw [r1 (by rw [mE]; omega),mE,EO]; exact d)
    rw [<-Nat.add_assoc] at this;exact this
   ·exact J
theorem fE {p:Wb.Prog} (d:Right p):∀ x∈(aB p).2.l,InstOk p.arrays (bn [] p.steps) x:=
 tN p.arrays _ _ p.steps (q5 _) 0 [] [] 0 ⟨0,[]⟩ [] d.steps (by intro p d; simp at d) (by simp) rfl (fun j g f=>by rw [s7]; exact f) (by simp)
def cP (A:List Wb.Array) (l:List Inst):Int:=(l.map fun i=>((i.reads A).length:Int)+1).sum
def cK (A:List Wb.Array) (l:List Inst):Int:=if (l.any fun i=>!i.ok A)=true then 16 else if 200000<cP A l then 2 else 0
def aV (p:Wb.Prog):Int:=if aR p=0 then if (aB p).1=0 then cK p.arrays (aB p).2.l else (aB p).1 else aR p
theorem ww {A:List Wb.Array} {l:List Inst} {i:Nat} (d:i<l.length):cP A (l.take (i+1))=cP A (l.take i)+((l[i].reads A).length+1):=by
 unfold cP;rw [r7,q3 d,sh,List.sum_append_int];simp
theorem ru {A:List Wb.Array} {d:List (Wb.Step×List Wb.Step)} {x:Inst} (h:InstOk A d x):(x.reads A).length<=4096:=by
 unfold Inst.reads; rw [iB]; exact h.nr
structure UsesOut (p:Wb.Prog) (h0:Heap) (c0:Nat) (lx:AV) (h:Heap) (c:Nat):Prop where
 uses:UsesAt h c p.arrays lx (aB p).2.l
 rows:∀ k,au lx k->c0<=k/\k<c
 fr:Fr c0 h0 h c
 len:(aB p).2.l.length<=50000
theorem zT (p:Wb.Prog) (y:Right p) (b5:aw p.steps<=300) (k:Heap) (d:Nat):ACalls Pg 56 [p.av] ⟨k,d⟩ fun av s'=>
  if (aB p).1=0 then ∃ C,av=.tup [C,.int (aB p).2.rounds,.int 0,.int (cK p.arrays (aB p).2.l)]/\UsesOut p k d C s'.h s'.c
  else av=.tup [.sl [] true,.int 0,.int (aB p).1,.int (aB p).1]/\Fr d k s'.h s'.c:=by
 refine Fn56.calls .keep ?_;unfold Fn56.ac;simp [Prog.av,aH];have b2:¬d=d+1:=by omega
 have b3:¬d=d+2:=by omega
 have b4:¬d+1=d+2:=by omega
 obtain ⟨o,N⟩:∃ o,o=upd (upd (upd k d (some (.row 2 [[row (p.arrays.map Array.cells),row (p.steps.map Step.cells)]] .live none))) (d+1) (some (.row 6 [[row (p.arrays.map Array.cells),row (p.steps.map Step.cells),.int 0,.nil,.bool false,.int 0]] .live none))) (d+1+1) (some (.map [] (d+1+1))):=⟨_,rfl⟩;have bb:Fr d k o (d+1+1+1):=by rw [N]; exact ((((Fr.refl k d).upd (q5 _) (rv _)).upd (by omega) (rv _)).upd (by omega) (rv _))
 rw [<-N];have aa:WInv o (d+1+1+1) (d+1) p.arrays p.steps (.sl [] true) 0 ⟨0,[]⟩:=by
  refine ⟨?_,⟨[],.inl ⟨rfl,rfl⟩,rfl,fun f e i T=>by simp at T⟩,fun f g=>absurd g aL,by omega,by simp,by simp⟩
  unfold dP;rw [N,qv,ae]; rfl
 have a':dH o (d+1+1) []:=⟨d+1+1,by rw [N,ae]; rfl⟩
 have bt:=xp p.arrays y.arrays p.steps (d+1) (aw p.steps) p.steps (q5 _) 0 [] [] ⟨0,[]⟩ (.sl [] true) (d+1+1) o (d+1+1+1) y.steps (by intro p y; simp at y) (by simp; omega) (by simp; omega) aa a' (by omega) (by omega)
 refine bt.mono ?_;rintro av ⟨al,S⟩ a9 ⟨C,rfl,m,ag⟩;simp only at a9 m ag;have bo:ba 0 [] [] 0 p.steps ⟨0,[]⟩=aB p:=rfl;rw [bo] at m ⊢;have M:=m.at_;unfold dP at M;have ao:Fr d k al S:=⟨by omega,fun f g=>by rw [ag.same f (by omega) (by omega) aL]; exact bb.h f g⟩
 by_cases a2:(aB p).1=0
 case neg=>
  simp [a2,M];exact ao
 have bj:=fE y;obtain ⟨D,Z,ar,ax⟩:=m.uses;have bN:=Z.len ⟨al,S⟩;have bl:=m.len;have b8:=m.cell;simp [a2,M,bN];have Q:∀ f,au C f->d<=f/\f<S/\f≠d+1:=fun f g=>⟨by
  rcases ag.rows f g with t | t
  ·exact absurd t aL
  ·omega,(m.row f g)⟩
 obtain ⟨R,J⟩:∃ R:Nat->List (List AV)->Slots->St->Prop,R=fun i r sl s'=>sl 7=.int (cP p.arrays ((aB p).2.l.take i))/\0<=cP p.arrays ((aB p).2.l.take i)/\cP p.arrays ((aB p).2.l.take i)<=4097*i:=⟨_,rfl⟩;refine bu 32 Fn56.W0 D R (by rfl) (by rfl) ?_ ?_ ?_
 ·rw [J]; exact ⟨by simp,by simp [cP],by simp [cP],by simp [cP]⟩
 ·intro b0 t c z h u;rw [J] at u;obtain ⟨l,a3,a4⟩:=u;simp at l;have am:=h.c;have bx:(aB p).2.l.take D.length=(aB p).2.l:=by rw [ar,r0]
  rw [bx] at l a3 a4;have w:=(h.h (d+1) (by omega)).trans M
  have Y:UsesOut p k d C t c:=by
   refine ⟨⟨D,Z.frame fun f g=>h.h f (Q f g).2.1,ar,fun f e i T q=>?_⟩,fun f g=>⟨(Q f g).1,by have:=Q f g; omega⟩,ao.trans h,bl⟩
   obtain ⟨H,a6,⟨b1,a7⟩,a8⟩:=ax f e i T q;exact ⟨H,by omega,⟨b1,(h.h H a6).trans a7⟩,a8⟩
  cases v:(aB p).2.l.any fun i=>!i.ok p.arrays
  ·rw [v] at w;by_cases ap:200000<cP p.arrays (aB p).2.l
   ·simp [z,l,w,ap,cK,v];exact Y
   ·simp [z,l,w,ap,cK,v];exact Y
  ·rw [v] at w;simp [z,l,w,cK,v];exact Y
 ·intro i x xs b0 t c q b7 b6 z h u;rw [J] at u;obtain ⟨l,a3,a4⟩:=u;simp at l;have am:=h.c;have aa:=q0 (x:=(i:Int)+1)
  have W:i<(aB p).2.l.length:=by omega
  rcases Z with ⟨_,G⟩ | ⟨ai,G,a5⟩
  ·rw [G] at q; simp at q
  have bc:=(Q ai (by rw [G]; exact aq.2 rfl)).2.1
  have bf:=(h.h ai bc).trans a5;obtain ⟨H,_,_,bW⟩:=ax i D[i] (aB p).2.l[i] (q3 q) (q3 W);have U:D[i]=cA p.arrays (aB p).2.l[i] H:=bW;have bk:=bj _ (u3 W);have bm:=ru bk;have O:=ww (A:=p.arrays) W;have a0:=ah (x:=(((aB p).2.l[i].reads p.arrays).length:Int)+1) (by omega) (by omega)
  have a1:=ah (x:=cP p.arrays ((aB p).2.l.take i)+((((aB p).2.l[i].reads p.arrays).length:Int)+1)) (by omega) (by omega)
  obtain ⟨ab,bi⟩:∃ ab,ab=(aB p).2.l[i]:=⟨_,rfl⟩;rw [<-bi] at U a0 a1 O bm;obtain ⟨cp,⟨ch,cn,cl,cc,ca,b',b9,cq,⟨c3,c2,c0,cx,c4,c1⟩⟩,cb,cs⟩:=ab;rw [cA,Step.cells_mk] at U;simp [z,q,G,bf,U,l,aa,a0,a1];refine ⟨h.upd am (rv _),?_⟩;rw [J];refine ⟨?_,?_,?_⟩
  ·rw [O]; simp
  ·rw [O]; omega
  ·rw [O]; omega
theorem vA (p:Wb.Prog) (D:aw p.steps<=300) (l:Heap) (d:Nat):ACalls Pg 7 [p.av] ⟨l,d⟩ fun av s'=>
  ∃ h,av=.tup [h,.int (aV p)]/\Fr d l s'.h s'.c/\(∀ k,au h k->d<=k/\k<s'.c)/\if aV p=0 then UsesAt s'.h s'.c p.arrays h (aB p).2.l else h=.sl [] true:=by
 refine Fn7.calls .keep ?_;unfold Fn7.ac;simp [Prog.av];have v:=ux p (by omega)
 have w:=zT p;rw [Prog.av] at v w;refine ACalls.pure v fun u J=>?_;have t:Fr d l (upd l d (some (.row 2 [[row (p.arrays.map Array.cells),row (p.steps.map Step.cells)]] .live none))) u:=(Fr.refl l d).upd (q5 _) (by omega)
 by_cases g:aR p=0
 case neg=>
  simp [g,aV];exact ⟨t,fun k f=>absurd f aL⟩
 simp [g];refine (w (ej g) D _ u).mono ?_;rintro av ⟨H,y⟩ C m;simp only at C m;by_cases o:(aB p).1=0
 case neg=>
  rw [if_neg o] at m;obtain ⟨rfl,z⟩:=m;simp [g,o,aV];exact ⟨t.trans z,fun k f=>absurd f aL⟩
 rw [if_pos o] at m;obtain ⟨h,rfl,q⟩:=m;have G:∀ k,au h k->d<=k/\k<y:=fun k f=>by have:=q.rows k f; omega
 by_cases x:cK p.arrays (aB p).2.l=0
 ·simp [g,o,x,aV];exact ⟨t.trans q.fr,G,q.uses⟩
 ·simp [g,o,x,aV];exact ⟨t.trans q.fr,fun k f=>absurd f aL⟩
def SaysI (f:Nat) (a b:List AV) (k:Heap) (h:Nat) (m:ByteArray->Int):Prop:=∀ g d c,Fr h k d c->ACalls Pg f (a++.str g::b) ⟨d,c⟩ fun r l=>r=.int (m g)/\l.h=d
theorem SaysI.more {f:Nat} {a b:List AV} {h d:Heap} {g c1:Nat} {k:ByteArray->Int} (s:SaysI f a b h g k) (m:Fr g h d c1):SaysI f a b d c1 k:=fun o l c d=>s o l c (m.trans d)
theorem sH (f:Wb.Form) (p:OkForm f) (fn:Nat) (a b:List AV) (h:ByteArray->Int) (O:∀ n,-1000000<=h n/\h n<=1000000) (m:Heap) (u:Nat) (G:SaysI fn a b m u h) :
  ACalls Pg 330 [f.av,.fn (.func fn) a b] ⟨m,u⟩ fun av s'=>av=.int (aN h f)/\s'.h=m:=by
 refine Fn330.calls .frz ?_;unfold Fn330.ac;have T:=p.len;simp [Form.av,Form.cells];obtain ⟨t,o⟩:∃ t:Nat->List Wb.Term->Slots->St->Prop,t=fun (i:Nat) r sl s'=>∃ n:Int,sl 5=.int n/\eR h r n=aN h f /\ -(1000000+(i:Int)*1000000000)<=n/\n<=1000000+(i:Int)*1000000000:=⟨_,rfl⟩;refine bu 13 Fn330.W0 f.terms t (by rfl) (by rfl) ?_ ?_ ?_
 ·rw [o];exact ⟨by simp,f.const,by simp,rfl,by have:=p.const; omega,by have:=p.const; omega⟩
 ·intro Q w c q l g;rw [o] at g;obtain ⟨n,k,g,_⟩:=g;simp at k;simp [q,k];refine ⟨by simpa [eR] using g,?_⟩
  exact aA fun v C=>by rw [l.h v (by omega),qv]
 ·intro i d Z Q w c z N D q l g;rw [o] at g;obtain ⟨n,k,g,W,Y⟩:=g;simp at k;have H:=q0 (x:=(i:Int)+1)
  have x:=l.c;have U:=nB (p.coef d (aU D)) (O d.name);have J:=q0 (x:=d.coef*h d.name)
  have M:=q0 (x:=n+d.coef*h d.name)
  have y:Fr u m (upd w c (some (.row 2 [[.str d.name,.int d.coef]] .live none))) (c+1):=⟨by omega,fun v C=>by rw [qv,l.h v (by omega),qv]⟩
  simp [q,z,N,Term.cells,k];refine ACalls.at (G d.name _ _ y) fun R S=>?_;simp [J,M,H,k,q];refine ⟨l.upd x (by omega),?_⟩
  rw [o];exact ⟨n+d.coef*h d.name,by simp,g,by push_cast; omega,by push_cast; omega⟩
theorem _root_.Go.AM.RowPre.at {h:Heap} {sz:Nat} {x:AV} {es:List (List AV)} (r:RowPre h sz x es) {i:Nat} (f:i<es.length):∃ g d,x=.row g sz 0 es.length/\h g=some (.row sz d .live none)/\d[i]?=es[i]?:=by
 rcases r with ⟨_,rfl⟩ | ⟨g,k,rfl,l⟩
 ·simp at f
 ·exact ⟨g,es++k,rfl,l,by rw [sk f]⟩
structure NowAt (h:Heap) (c gr:Nat) (e:Env) (go:Nat) (nx:Int) (names now:AV):Prop where
 at_:h gr=some (.row 4 [[.ptr go 0 0,.int nx,names,now]] .live none)
 hnames:RowPre h 1 names (ak (e.map (·.1)))
 hnow:RowPre h 1 now (an (e.map (·.2)))
 gr:gr<c
 nb:∀ k,au names k->k<c
 wb:∀ k,au now k->k<c
theorem NowAt.fr {h h':Heap} {c c' k:Nat} {e:Env} {go:Nat} {l:Int} {names now:AV} (n:NowAt h c k e go l names now) (g:Fr c h h' c'):NowAt h' c' k e go l names now:=
 ⟨(g.h k n.gr).trans n.at_,n.hnames.frame fun d f=>g.h d (n.nb d f),n.hnow.frame fun d f=>g.h d (n.wb d f),by have:=n.gr; have:=g.c; omega,fun d f=>by have:=n.nb d f; have:=g.c; omega,fun d f=>by have:=n.wb d f; have:=g.c; omega⟩
theorem uN:∀ {e:Env},(e.map (·.1)).Nodup->∀ {i:Nat} {x:ByteArray} {v:Int},e[i]?=some (x,v)->bw e x=some v
 | [],_,i,x,v,d=>by simp at d
 | h::e,f,0,x,v,d=>by
  simp at d; subst d;simp [bw]
 | h::e,f,i+1,x,v,d=>by
  simp only [s9,y0] at f;have g:e[i]?=some (x,v):=by simpa using d
  have l:x∈e.map (·.1):=rf.2 ⟨(x,v),r8 g,rfl⟩;simp only [bw];rw [if_neg (show ¬x=h.1 from fun k=>f.1 (k▸l))]
  exact uN f.2 g
theorem tB:∀ {e:Env} {x:ByteArray},(∀ (i:Nat) (p:ByteArray×Int),e[i]?=some p->p.1≠x)->bw e x=none
 | [],_,_=>rfl
 | p::e,x,d=>by
  simp only [bw];rw [if_neg fun f=>d 0 p rfl f.symm];exact tB fun i h g=>d (i+1) h (by simpa using g)
theorem yx (e:Env) (U:(e.map (·.1)).Nodup) (a0:e.length<=100000) (x:ByteArray) (w go:Nat) (ao:Int) (names now:AV) (l:Heap) (m:Nat) (Y:NowAt l m w e go ao names now) :
  ACalls Pg 367 [.ptr w 0 0,.str x] ⟨l,m⟩ fun av s'=>av=.int (aC e x)/\s'.h=l:=by
 obtain ⟨u,H,ap,a2,a3,a4⟩:=Y;refine Fn367.calls .frz ?_;unfold Fn367.ac;have z:=H.len ⟨l,m⟩;have t:(ak (e.map (·.1))).length=e.length:=by simp [ak]
 rw [t] at z;have Z:=q0 (x:=(e.length:Int)-1)
 simp [u,z,Z];obtain ⟨p,q⟩:∃ p:Nat->Slots->St->Prop,p=fun (d:Nat) sl s'=>sl 5=.int ((d:Int)-1)/\d<=e.length/\s'=⟨l,m⟩/\∀ (i:Nat) (h:ByteArray×Int),d<=i->e[i]?=some h->h.1≠x:=⟨_,rfl⟩;refine cJ Fn367.W0 (by rfl) p e.length ?_ ?_
 ·rw [q];exact ⟨by simp,q5 _,rfl,fun i h N f=>by have:=(q4.1 f).1; omega⟩
 ·intro d v s' y;rw [q] at y;obtain ⟨k,a1,rfl,C⟩:=y;simp at k;cases d with
  | zero=>
   simp [k,aC,tB fun i h f=>C i h (v7 _) f]
  | succ d=>
   have g:d<e.length:=by omega
   have ab:((d+1:Nat):Int)-1=d:=by omega
   rw [ab] at k;have T:d<(ak (e.map (·.1))).length:=by rw [t]; exact g
   have S:d<(an (e.map (·.2))).length:=by simp [an]; exact g
   obtain ⟨ar,J,G,al,am⟩:=H.at T;obtain ⟨ax,M,D,ag,ai⟩:=ap.at S;rw [t] at G;have O:(an (e.map (·.2))).length=e.length:=by simp [an]
   rw [O] at D;have W:J[d]?=some [.str e[d].1]:=by rw [am]; simp [ak,g]
   have R:M[d]?=some [.int e[d].2]:=by rw [ai]; simp [an,g]
   have aa:=q0 (x:=(d:Int)-1)
   simp [k,u,G,g,al,W];by_cases o:e[d].1=x
   ·simp [o,k,u,D,g,ag,R];have:=uN U (i:=d) (x:=x) (v:=e[d].2) (by rw [q3 g,<-o])
    simp [aC,this]
   ·simp [o,k,aa];refine ⟨d,by omega,?_⟩
    rw [q];refine ⟨by simp,by omega,rfl,fun i h N f=>?_⟩
    by_cases Q:i=d
    ·subst Q;rw [q3 g] at f;injection f with f; rw [<-f]; exact o
    ·exact C i h (by omega) f
theorem Aq (e:Env) (o:(e.map (·.1)).Nodup) (m:e.length<=100000) (d go:Nat) (h:Int) (names now:AV) (g:Heap) (f:Nat) (p:NowAt g f d e go h names now):SaysI 367 [.ptr d 0 0] [] g f (aC e):=
 fun q k c l=>yx e o m q d go h names now k c (p.fr l)
theorem sJ (f:Wb.Form) (o:OkForm f) (e:Env) (m:fc e) (q:(e.map (·.1)).Nodup) (p:e.length<=100000) (h go:Nat) (k:Int) (names now:AV) (g:Heap) (d:Nat) (t:NowAt g d h e go k names now) :
  ACalls Pg 359 [.ptr h 0 0,f.av] ⟨g,d⟩ fun av s'=>av=.int (aN (aC e) f)/\s'.h=g:=by
 refine Fn359.calls .frz ?_;unfold Fn359.ac;simp [Form.av,Form.cells];have l:Fr d g (upd g d (some (.row 2 [[.int f.const,row (f.terms.map Term.cells)]] .live none))) (d+1):=(Fr.refl g d).upd (q5 _) (rv _);refine ACalls.at (sH f o 367 [.ptr h 0 0] [] (aC e) (cY m) _ (d+1) (Aq e q p h go k names now _ _ (t.fr l))) fun u v=>?_;simp
theorem yp (l:List Wb.Form) (D:∀ f∈l,OkForm f) (e:Env) (z:fc e) (J:(e.map (·.1)).Nodup) (H:e.length<=100000) (q go:Nat) (y:Int) (names now:AV) (h:Heap) (p:Nat) (M:NowAt h p q e go y names now) :
  ACalls Pg 328 [.ptr q 0 0,row (l.map Form.cells)] ⟨h,p⟩ fun av s'=>av=.bool (l.all fun f=>decide (0<=aN (aC e) f))/\s'.h=h:=by
 refine ACalls.small fun N=>?_;have W:l.length<=68719476736:=by simp at N; omega
 refine Fn328.calls .frz ?_;unfold Fn328.ac;simp;obtain ⟨o,k⟩:∃ o:Nat->List Wb.Form->Slots->St->Prop,o=fun i r sl s'=>(l.all fun f=>decide (0<=aN (aC e) f))=(r.all fun f=>decide (0<=aN (aC e) f)):=⟨_,rfl⟩;refine bu 9 Fn328.W0 l o (by rfl) (by rfl) ?_ ?_ ?_
 ·rw [k]; exact ⟨by simp,rfl⟩
 ·intro R t c m g d;rw [k] at d;rw [d];simp [m];exact g.retH
 ·intro i f T R t c C Q G m g d;rw [k] at d;have O:=q0 (x:=(i:Int)+1)
  have v:=g.c;have u:Fr p h (upd t c (some (.row 2 [[.int f.const,row (f.terms.map Term.cells)]] .live none))) (c+1):=g.upd v (rv _);have x:=sJ f (D f (aU G)) e z J H q go y names now _ _ (M.fr u);rw [Form.av,Form.cells] at x;rw [d];simp [m,C,Q,Form.cells];refine ACalls.at x fun S U=>?_;by_cases w:aN (aC e) f<0
  ·have:¬0<=aN (aC e) f:=by omega
   simp [w,this];exact u.retH
  ·have:0<=aN (aC e) f:=by omega
   simp [w,this,O,m];refine ⟨g.upd v (by omega),?_⟩
   rw [k];rw [d]; simp [this]
def Bq (f:Nat) (a b:List AV) (k:Heap) (h:Nat) (m:ByteArray->Int):Prop:=∀ g:Wb.Form,OkForm g->∀ d c,Fr h k d c->ACalls Pg f (a++g.av::b) ⟨d,c⟩ fun r l=>r=.int (aN m g)/\l.h=d
theorem yw (a5:Wb.Step) (low v:List Wb.Bound) (bx:∃ kind name T body array subs expr,a5=.mk kind name low v T body array subs expr) (bo:∀ b∈low,cO b) (bl:∀ b∈v,cO b) (bt:low≠[]) (bm:v≠[]) (fn:Nat) (a b:List AV) (d:ByteArray->Int) (a3:∀ n,-1000000<=d n/\d n<=1000000) (l:Heap) (h:Nat) (a1:Bq fn a b l h d) :
  ACalls Pg 358 [a5.av,.fn (.func fn) a b] ⟨l,h⟩ fun av s'=>av=.tup [.int (fj d low),.int (fy d v)]/\s'.h=l:=by
 refine ACalls.small fun a2=>?_;obtain ⟨kind,name,T,body,array,subs,⟨bN,n,ao,a9,a',a7⟩,rfl⟩:=bx;rw [Step.av_mk] at a2 ⊢;have b2:low.length<=68719476736/\v.length<=68719476736:=by simp at a2; omega
 have b3:=r6.2 bt;have b1:=r6.2 bm;refine Fn358.calls .frz ?_;unfold Fn358.ac;simp;obtain ⟨a0,Z⟩:∃ q,q=upd l h (some (.row 15 [[.int kind,.str name,row (low.map Bound.cells),row (v.map Bound.cells),row (T.map Form.cells),row (body.map Step.cells),.str array,row (subs.map Form.cells),.int bN,.int n,.int ao.const,row (ao.terms.map Term.cells),.str a9,row (a'.map Form.cells),row (a7.map Expr.cells)]] .live none)):=⟨_,rfl⟩;rw [<-Z];have ax:Fr h l a0 (h+1):=by rw [Z]; exact (Fr.refl l h).upd (q5 _) (rv _)
 have bf:a0 h=_:=(congrFun Z h).trans ae;obtain ⟨N,G⟩:∃ N:Nat->List Wb.Bound->Slots->St->Prop,N=fun i r sl s'=>∃ n:Int,sl 6=.int n/\(if i=0 then r=low/\n=0 else eu d r n=fj d low):=⟨_,rfl⟩
 refine bu 17 Fn358.W0 low N (by rfl) (by rfl) ?_ ?_ ?_
 ·rw [G]; exact ⟨by simp,0,by simp,rfl,rfl⟩
 ·intro bW R c J p f;rw [G] at f;obtain ⟨b5,x,f⟩:=f;rw [if_neg (by omega)] at f
  simp only [eu] at f;simp at x;have w:=p.c;have D:Fr h l R c:=ax.trans p;have bc:=(p.h h (by omega)).trans bf
  simp [J,bc];obtain ⟨a6,H⟩:∃ N:Nat->List Wb.Bound->Slots->St->Prop,N=fun i r sl s'=>∃ n:Int,sl 7=.int n/\sl 6=.int (fj d low)/\(if i=0 then r=v/\n=0 else dS d r n=fy d v):=⟨_,rfl⟩
  refine bu 41 Fn358.W1 v a6 (by rfl) (by rfl) ?_ ?_ ?_
  ·rw [H]; exact ⟨by simp,0,by simp,by simp [x,f],rfl,rfl⟩
  ·intro b0 U C M z g;rw [H] at g;obtain ⟨b4,ar,ap,g⟩:=g;rw [if_neg (by omega)] at g
   simp only [dS] at g;simp at ar ap;simp [M,ar,ap,g];exact (D.trans z).retH
  ·intro i b bs b0 U C aa al ag M z g;rw [H] at g;have W:Fr h l U C:=D.trans z;obtain ⟨a4,S,y,g⟩:=g;simp at S y;have Q:=q0 (x:=(i:Int)+1)
   have w:=z.c;obtain ⟨k,bd⟩:=b;have q:=bl _ (aU ag);have bk:-12001000000<=aN d k/\aN d k<=12001000000:=cN a3 q.1;have bb:1<=bd:=q.2.1;have Y:Fr h l (upd U C (some (.row 3 [[.int k.const,row (k.terms.map Term.cells),.int bd]] .live none))) (C+1):=⟨by have:=W.c; omega,fun am ab=>by rw [ad (by have:=W.c; omega),W.h am ab]⟩
   have O:=a1 k q.1 _ _ Y;rw [Form.av,Form.cells] at O;simp [M,aa,al,Bound.cells];refine ACalls.at O fun C bi=>?_;simp;refine ACalls.pure (sB _ bd (by omega) (by omega) (by omega)) fun a8 bj=>?_
   obtain ⟨o,m⟩:∃ o,o=aN d k / bd:=⟨_,rfl⟩;rw [<-m];by_cases u:i=0
   ·subst u;have ai:IntKind.i64.wrap 1=1:=by decide
    simp [M,ai,y];refine ⟨z.upd w (by omega),?_⟩
    rw [H];refine ⟨o,by simp,by simp [y],?_⟩
    simp only [if_true] at g;simp only [s7,show ¬(1=0) by decide,if_false]
    rw [<-g.1,m]; rfl
   ·simp only [u,if_false] at g;by_cases t:o<a4
    ·simp [M,u,t,Q,S,y];refine ⟨z.upd w (by omega),?_⟩
     rw [H];refine ⟨o,by simp,by simp [y],?_⟩
     rw [if_neg (by omega),<-g]
     simp only [dS,mnI];rw [if_pos (by rw [<-m]; exact t),<-m]
    ·simp [M,u,t,Q,S,y];refine ⟨z.upd w (by omega),?_⟩
     rw [H];refine ⟨a4,by simp [S],by simp [y],?_⟩
     rw [if_neg (by omega),<-g]
     simp only [dS,mnI];rw [if_neg (by rw [<-m]; exact t)]
 ·intro i b bs bW R c aa al ag J p f;rw [G] at f;have D:Fr h l R c:=ax.trans p;obtain ⟨n,x,f⟩:=f;simp at x;have Q:=q0 (x:=(i:Int)+1)
  have w:=p.c;obtain ⟨k,bd⟩:=b;have q:=bo _ (aU ag);have bk:-12001000000<=aN d k/\aN d k<=12001000000:=cN a3 q.1;have bb:1<=bd:=q.2.1;have Y:Fr h l (upd R c (some (.row 3 [[.int k.const,row (k.terms.map Term.cells),.int bd]] .live none))) (c+1):=⟨by have:=D.c; omega,fun am ab=>by rw [ad (by have:=D.c; omega),D.h am ab]⟩
  have O:=a1 k q.1 _ _ Y;rw [Form.av,Form.cells] at O;simp [J,aa,al,Bound.cells];refine ACalls.at O fun C bi=>?_;simp;refine ACalls.pure (yb _ bd (by omega) (by omega) (by omega)) fun a8 bj=>?_
  obtain ⟨o,m⟩:∃ o,o=upI (aN d k) bd:=⟨_,rfl⟩;rw [<-m];by_cases u:i=0
  ·subst u;have ai:IntKind.i64.wrap 1=1:=by decide
   simp [J,ai];refine ⟨p.upd w (by omega),?_⟩
   rw [G];refine ⟨o,by simp,?_⟩
   simp only [if_true] at f;simp only [s7,show ¬(1=0) by decide,if_false]
   rw [<-f.1,m]; rfl
  ·simp only [u,if_false] at f;by_cases t:n<o
   ·simp [J,u,t,Q,x];refine ⟨p.upd w (by omega),?_⟩
    rw [G];refine ⟨o,by simp,?_⟩
    rw [if_neg (by omega),<-f]
    simp only [eu,mxI];rw [if_pos (by rw [<-m]; exact t),<-m]
   ·simp [J,u,t,Q,x];refine ⟨p.upd w (by omega),?_⟩
    rw [G];refine ⟨n,by simp [x],?_⟩
    rw [if_neg (by omega),<-f]
    simp only [eu,mxI];rw [if_neg (by rw [<-m]; exact t)]
end Go.Proofs.YtjhogglgkjcacaaGreat
