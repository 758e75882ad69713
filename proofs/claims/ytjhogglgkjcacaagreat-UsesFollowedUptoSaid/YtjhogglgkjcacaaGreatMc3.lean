/- Part of the claim: see its last text. -/
import Derived.Test.YtjhogglgkjcacaaGreatMc2
import Derived.Test.YtjhogglgkjcacaaGreatMa21
import Derived.Test.YtjhogglgkjcacaaGreatMc1
import Derived.Shelf.SlSortCmp.Insertion
import Derived.Shelf.SlLaysF0
import Derived.Shelf.Small.Strs
import Derived.Test.YtjhogglgkjcacaaGreatProg
import Derived.KernelRfl
import Derived.Shelf.SlSortCmp.NoneTotal
set_option linter.all false
set_option maxRecDepth 20000
set_option maxHeartbeats 4000000
namespace Go.Proofs.YtjhogglgkjcacaaGreat
open Go.AM Go.Wb
def nw (p:Wb.Prog) (k:ByteArray):Bool:=decide (0<=bp p.arrays k)
def ce (p:Wb.Prog) (a:List ByteArray):Int:=if aV p=0 then cg (nw p) a 0 a else aV p
theorem xG (p:Wb.Prog) (key:ByteArray) (h:Heap) (c g:Nat) (b:h g=some (.row 2 [[row (p.arrays.map Array.cells),row (p.steps.map Step.cells)]] .live none)) (f:g<c) :
  ACalls Pg 182 [.str key,.ptr g 0 0] ⟨h,c⟩ fun av s'=>av=.bool (nw p key)/\s'.h=h:=by
 have a:=lO p key;simp only [Prog.av] at a;refine Fn182.calls .frz ?_;unfold Fn182.ac;simp [b];refine ACalls.pure a fun d e=>?_;simp [nw]
theorem rX (p:Wb.Prog) (H:aw p.steps<=300) (b:List ByteArray) (f:Heap) (a:Nat) :
  ACalls Pg 110 [p.av,row (ak b)] ⟨f,a⟩ fun av s'=>Fr a f s'.h s'.c/\if ce p b=0 then ∃ go m q o l d e,av=.tup [.ptr go 0 0,row (bz (cI p.arrays (aB p).2.l b)),.int 0]/\RanAt s'.h s'.c go p m q o l d e else av=.tup [.nilp,.sl [] true,.int (ce p b)]:=by
 have K:=fun P N=>sf p H P N;simp only [Prog.av] at K;refine Fn110.calls .keep ?_;unfold Fn110.ac;obtain ⟨h,x⟩:∃ h,h=upd f a (some (.row 2 [[row (p.arrays.map Array.cells),row (p.steps.map Step.cells)]] .live none)):=⟨_,rfl⟩;have Q:Fr a f h (a+1):=by rw [x]; exact (Fr.refl _ _).upd (q5 _) (rv _)
 have R:h a=_:=(congrFun x a).trans ae;simp [Prog.av];rw [<-x];refine (K h (a+1)).mono ?_;rintro av ⟨g,z⟩ T ⟨u,k⟩;simp only at T u k;have v:Fr a f g z:=Q.trans u;by_cases c:aV p=0
 case neg=>
  have t:ce p b=aV p:=by unfold ce; rw [if_neg c]
  rw [if_neg c] at k;subst k;simp [c,t];exact v
 rw [if_pos c] at k;obtain ⟨go,m,q,o,l,d,e,rfl,U⟩:=k;have t:ce p b=cg (nw p) b 0 b:=by unfold ce; rw [if_pos c]
 have S:=(u.h a (by omega)).trans R
 simp;refine ACalls.at (rY b 182 [] [.ptr a 0 0] (nw p) g z fun y J O Z=>xG p y g O a S (by omega)) fun C D=>?_
 rw [<-t];by_cases w:ce p b=0
 case neg=>
  simp [w];exact v.trans (Fr.le D)
 have M:RanAt g C go p m q o l d e:=U.re D fun y J=>rfl;simp [w];refine (xH p H c b m q o l d e go g C M).mono ?_;rintro av ⟨Y,W⟩ G ⟨rfl,rfl⟩;simp only at G;simp [w];exact ⟨v.trans (Fr.le (by omega)),m,q,o,l,d,e,M.re G fun y J=>rfl⟩
theorem zI (p:Wb.Prog) (ai:aw p.steps<=300) (l:List ByteArray):aG Pg 40 [p.av,row (ak l)] (.tup [row (if ce p l=0 then an (bJ 0 (cI p.arrays (aB p).2.l l)) else []),.int (ce p l)]):=by
 rintro ⟨t,f⟩;have U:=fun d e=>rX p ai l d e;simp only [Prog.av] at U;refine Fn40.calls .frz ?_;unfold Fn40.ac;obtain ⟨C,T⟩:∃ C,C=upd t f (some (.row 2 [[row (p.arrays.map Array.cells),row (p.steps.map Step.cells)]] .live none)):=⟨_,rfl⟩;have Z:Fr f t C (f+1):=by rw [T]; exact (Fr.refl _ _).upd (q5 _) (rv _)
 simp [Prog.av];rw [<-T];refine (U C (f+1)).mono ?_;rintro av ⟨N,q⟩ ag ⟨O,y⟩;simp only at ag O y;have P:Fr f t N q:=Z.trans O;by_cases h:ce p l=0
 case neg=>
  rw [if_neg h] at y;subst y;simp [h];exact P.retH
 rw [if_pos h] at y;obtain ⟨go,a9,bb,a',a8,a3,a4,rfl,a7⟩:=y;have ap:aV p=0:=by
  unfold ce at h;by_cases d:aV p=0
  ·exact d
  ·rw [if_neg d] at h; exact absurd h d
 obtain ⟨bc,bf,bi,bj⟩:=fB ap;obtain ⟨a,Q⟩:∃ a,a=cI p.arrays (aB p).2.l l:=⟨_,rfl⟩;have a5:a.length<=200000:=by rw [Q,fF]; have:=kc p.arrays (aB p).2.l; omega
 rw [<-Q];obtain ⟨z,M⟩:∃ z,z=upd N q (some (.row 1 [] .live none)):=⟨_,rfl⟩;have ax:∀ c,c<f->z c=t c:=fun c x=>by rw [M,qv]; exact P.h c x
 have a0:z q=_:=(congrFun M q).trans ae;simp [h,fL];rw [<-M];obtain ⟨J,v⟩:∃ J:Nat->List Bool->Slots->St->Prop,J=fun (i:Nat) r a1 m=>∃ go,a1 9=.row go 1 0 (bJ 0 (a.take i)).length/\f<=go/\go<m.c/\m.h go=some (.row 1 (an (bJ 0 (a.take i))) .live none)/\∀ c,c<f->m.h c=t c:=⟨_,rfl⟩;refine aZ 24 Fn40.W0 a J (by rfl) (by rfl) ?_ ?_ ?_
 ·rw [v]; exact ⟨by simp,q,by simp [bJ],by omega,q7 _,by simpa [bJ,an] using a0,ax⟩
 ·intro a2 m G u;rw [v,r0] at u;obtain ⟨go,g,Y,H,k,o⟩:=u;obtain ⟨d,e⟩:=m;simp at g;simp only at H k o;have al:(an (bJ 0 a)).length=(bJ 0 a).length:=by simp [an]
  have ar:List.take (bJ 0 a).length (an (bJ 0 a))=an (bJ 0 a):=q8 (by omega)
  simp [G,g,k,ar,al];exact aA fun c x=>by rw [qv]; exact o c x
 ·intro i b bs a2 m D R a6 G u;rw [v] at u;obtain ⟨go,g,Y,H,k,o⟩:=u;obtain ⟨d,e⟩:=m;simp at g;simp only at H k o;have W:=q0 (x:=(i:Int)+1)
  have S:(bz a)[i]?=some [.bool b]:=by simp [bz,D,R]
  have ao:(a.take i).length=i:=by rw [tm]; omega
  have w:bJ 0 (a.take (i+1))=bJ 0 (a.take i)++(if b then [] else [(i:Int)]):=by
   rw [r7,q3 D,R,x4,nq,ao]; simp [bJ]
  have am:=nv 0 (a.take i);obtain ⟨K,aa⟩:∃ K,K=bJ 0 (a.take i):=⟨_,rfl⟩;rw [<-aa] at g k w am;cases b
  ·have ab:=bE (sz:=1) (bytes:=8) (md:=.plain) (len:=K.length) (x:=[.int (i:Int)]) (b:=true) (s:=⟨d,e⟩) (by simp) k (by simp [an]) (by decide) (by decide) (by decide) rfl (by omega)
   simp [G,D,S,g,bsI,az,ab,W];rw [v];refine ⟨e,by rw [w]; simp,by omega,q7 _,?_,fun c x=>?_⟩
   ·show upd (upd d go none) e _ e=_;rw [ae,w]; simp [an]
   ·show upd (upd d go none) e _ c=_;rw [qv,qv]; exact o c x
  ·simp [G,D,S,W];rw [v];exact ⟨go,by rw [w]; simp [g],Y,H,by rw [w]; simpa using k,o⟩
theorem oV (f:Wb.Form):aG Pg 258 [f.av] f.av:=by
 rintro ⟨d,a⟩;refine Fn258.calls .frz ?_;unfold Fn258.ac;obtain ⟨c,g⟩:∃ c,c=upd (upd d a (some (.row 2 [[.int f.const,row (f.terms.map Term.cells)]] .live none))) (a+1) (some (.row 2 [[.int 0,.sl [] true]] .live none)):=⟨_,rfl⟩;have x:Fr a d c (a+1+1):=by rw [g]; exact ((Fr.refl _ _).upd (q5 _) (rv _)).upd (by omega) (rv _)
 have t:c a=_:=(congrFun g a).trans (by rw [qv,ae])
 have u:c (a+1)=_:=(congrFun g (a+1)).trans ae;simp [Form.av,Form.cells];rw [<-g];refine (iD f.terms c (a+1+1)).mono ?_;rintro av ⟨w,M⟩ y ⟨e,q⟩;simp only at y e q;have l:=(e.h a (by omega)).trans t
 have m:=(e.h (a+1) (by omega)).trans u
 have p:∀ k:Heap,(∀ b,b<a->k b=w b)->retH a d k=d:=fun k z=>aA fun b h=>by rw [z b h,e.h b (by omega)]; exact x.h b h
 rcases q with ⟨K,rfl,v⟩ | ⟨o,N,O,rfl,J⟩
 ·simp [l,m,aH,v];exact p _ fun b h=>by first | rfl | rw [qv]
 ·have G:¬o=a+1:=by omega
  have H:¬a+1=o:=by omega
  have C:aP (List.take f.terms.length (dc f.terms))=f.terms.map Term.cells:=by
   rw [q8 (by simp [dc])]; exact oI _
  have D:f.terms.length<=(dc f.terms).length:=by simp [dc]
  simp [l,m,aH,J,G,H,C,D];exact p _ fun b h=>by rw [qv,qv]
theorem oX (l:List Wb.Form):aG Pg 314 [row (l.map Form.cells),.fn (.func 258) [] []] (row (l.map Form.cells)):=by
 rintro ⟨y,p⟩;refine ACalls.small fun J=>?_;have U:l.length<=68719476736:=by simp at J; omega
 refine Fn314.calls .frz ?_;unfold Fn314.ac;simp;obtain ⟨v,q⟩:∃ v:Nat->List Wb.Form->Slots->St->Prop,v=fun (i:Nat) r P c=>∃ go,P 5=.row go 2 0 i/\p<=go/\go<c.c/\c.h go=some (.row 2 ((l.take i).map Form.cells) .live none)/\∀ a,a<p->c.h a=y a:=⟨_,rfl⟩;refine aZ 10 Fn314.W0 l v (by rfl) (by rfl) ?_ ?_ ?_
 ·rw [q]; exact ⟨by simp,p,by simp,q5 _,q7 _,by simp,fun a k=>by show upd y p _ a=_; rw [qv]⟩
 ·intro Q c t h;rw [q,r0] at h;obtain ⟨go,g,N,u,m,o⟩:=h;obtain ⟨w,e⟩:=c;simp at g;simp only at u m o;have K:aP (List.take l.length (l.map Form.cells))=l.map Form.cells:=by rw [q8 (by simp),oH]
  simp [t,g,m,K];exact aA fun a k=>by rw [qv]; exact o a k
 ·intro i f R Q c G D T t h;rw [q] at h;obtain ⟨go,g,N,u,m,o⟩:=h;obtain ⟨w,e⟩:=c;simp at g;simp only at u m o;have M:=q0 (x:=(i:Int)+1)
  have C:=oV f;simp only [Form.av,Form.cells] at C;obtain ⟨b,x⟩:∃ b,b=upd w e (some (.row 2 [[.int f.const,row (f.terms.map Term.cells)]] .live none)):=⟨_,rfl⟩;have H:∀ a,a<e->b a=w a:=fun a k=>by rw [x,qv]
  have W:b e=_:=(congrFun x e).trans ae;have O:=(H go u).trans m;have z:=fun d=>bE (sz:=2) (bytes:=32) (md:=.plain) (len:=i) (x:=[.int f.const,row (f.terms.map Term.cells)]) (b:=true) (s:=⟨b,d⟩) (by simp) O (by simp; omega) (by decide) (by decide) (by decide) rfl (by omega)
  simp only [row] at z;simp [t,G,D,Form.cells];rw [<-x];refine ACalls.pure C fun d S=>?_;simp [g,bsI,az,z,t,M];rw [q];refine ⟨d,by simp,by omega,q7 _,?_,fun a k=>?_⟩
  ·show upd (upd b go none) d _ d=_;rw [ae,r7,q3 G,D]; simp [Form.cells]
  ·show upd (upd b go none) d _ a=_;rw [qv,qv,H a (by omega)]; exact o a k
theorem sF (l:List Wb.Bound):aG Pg 313 [row (l.map Bound.cells),.fn (.func 258) [] []] (row (l.map Bound.cells)):=by
 rintro ⟨z,p⟩;refine ACalls.small fun K=>?_;have Y:l.length<=68719476736:=by simp at K; omega
 refine Fn313.calls .frz ?_;unfold Fn313.ac;simp;obtain ⟨v,q⟩:∃ v:Nat->List Wb.Bound->Slots->St->Prop,v=fun (i:Nat) r R d=>∃ go,R 5=.row go 3 0 i/\p<=go/\go<d.c/\d.h go=some (.row 3 ((l.take i).map Bound.cells) .live none)/\∀ a,a<p->d.h a=z a:=⟨_,rfl⟩;refine aZ 10 Fn313.W0 l v (by rfl) (by rfl) ?_ ?_ ?_
 ·rw [q]; exact ⟨by simp,p,by simp,q5 _,q7 _,by simp,fun a k=>by show upd z p _ a=_; rw [qv]⟩
 ·intro S d t h;rw [q,r0] at h;obtain ⟨go,g,O,u,m,o⟩:=h;obtain ⟨w,f⟩:=d;simp at g;simp only at u m o;have M:aP (List.take l.length (l.map Bound.cells))=l.map Bound.cells:=by rw [q8 (by simp),tD]
  simp [t,g,m,M];exact aA fun a k=>by rw [qv]; exact o a k
 ·intro i b T S d H G W t h;rw [q] at h;obtain ⟨go,g,O,u,m,o⟩:=h;obtain ⟨w,f⟩:=d;simp at g;simp only at u m o;have N:=q0 (x:=(i:Int)+1)
  obtain ⟨b,y⟩:=b;have D:=oV b;simp only [Form.av,Form.cells] at D;obtain ⟨c,x⟩:∃ c,c=upd w f (some (.row 3 [[.int b.const,row (b.terms.map Term.cells),.int y]] .live none)):=⟨_,rfl⟩;have J:∀ a,a<f->c a=w a:=fun a k=>by rw [x,qv]
  have P:c f=_:=(congrFun x f).trans ae;have Q:=(J go u).trans m;have C:=fun e=>bE (sz:=3) (bytes:=40) (md:=.plain) (len:=i) (x:=[.int b.const,row (b.terms.map Term.cells),.int y]) (b:=true) (s:=⟨c,e⟩) (by simp) Q (by simp; omega) (by decide) (by decide) (by decide) rfl (by omega)
  simp only [row] at C;simp [t,H,G,Bound.cells];rw [<-x];refine ACalls.pure D fun e U=>?_;simp [g,P,bsI,az,aH,C,t,N];rw [q];refine ⟨e,by simp,by omega,q7 _,?_,fun a k=>?_⟩
  ·show upd (upd c go none) e _ e=_;rw [ae,r7,q3 H,G]; simp [Bound.cells]
  ·show upd (upd c go none) e _ a=_;rw [qv,qv,J a (by omega)]; exact o a k
theorem yk:∀ (o:Nat) (x:Wb.Expr),SizeOf.sizeOf x<=o->aG Pg 315 [x.av,.fn (.func 258) [] []] x.av:=by
 intro o
 induction o with
 | zero=>intro x R; obtain ⟨_,_,_,_,_,_⟩:=x; simp at R
 | succ o a4=>
  rintro x R ⟨O,b⟩;refine ACalls.small fun aa=>?_;obtain ⟨al,n,C,array,subs,c⟩:=x;rw [Expr.av_mk] at aa ⊢;have b2:c.length<=68719476736:=by simp at aa; omega
  have W:=oV C;simp only [Form.av,Form.cells] at W;refine Fn315.calls .frz ?_;unfold Fn315.ac;obtain ⟨k,u⟩:∃ k,k=upd (upd O b (some (.row 7 [(Wb.Expr.mk al n C array subs c).cells] .live none))) (b+1) (some (.row 7 [[.int 0,.int 0,.int 0,.sl [] true,.str ⟨#[]⟩,.sl [] true,.sl [] true]] .live none)):=⟨_,rfl⟩;have a5:∀ a,a<b->k a=O a:=fun a d=>by rw [u,qv,qv]
  have T:k b=_:=(congrFun u b).trans (by rw [qv,ae])
  have ao:k (b+1)=_:=(congrFun u (b+1)).trans ae;rw [Expr.cells_mk] at u T;simp;rw [<-u];refine ACalls.pure W fun bx bW=>?_;simp [T];refine ACalls.pure (oX subs) fun e b0=>?_;obtain ⟨m,P⟩:∃ m,m=upd k b (some (.row 7 [[.int al,.int n,.int C.const,row (C.terms.map Term.cells),.str array,row (subs.map Form.cells),row (c.map Expr.cells)]] .live none)):=⟨_,rfl⟩;have ag:∀ a,a≠b->m a=k a:=fun a d=>by rw [P,ad d]
  have bf:m b=_:=(congrFun P b).trans ae;have bj:=(ag (b+1) (by omega)).trans ao
  simp;rw [<-P];obtain ⟨h,Q⟩:∃ h,h=upd m e (some (.row 7 [] .live none)):=⟨_,rfl⟩;have S:∀ a,a≠e->h a=m a:=fun a d=>by rw [Q,ad d]
  have am:=(S b (by omega)).trans bf
  have bk:=(S (b+1) (by omega)).trans bj
  have bm:h e=_:=(congrFun Q e).trans ae;rw [<-Q];simp [am];obtain ⟨M,D⟩:∃ M:Nat->List Wb.Expr->Slots->St->Prop,M=fun (i:Nat) r bb g=>∃ go,bb 5=.row go 7 0 i/\b+1<go/\go<g.c/\g.h go=some (.row 7 ((c.take i).map Expr.cells) .live none)/\g.h b=h b/\g.h (b+1)=h (b+1)/\∀ a,a<b->g.h a=O a:=⟨_,rfl⟩;refine aZ 21 Fn315.W0 c M (by rfl) (by rfl) ?_ ?_ ?_
  ·rw [D]; exact ⟨by simp,e,by simp,by omega,by show e<e+1; omega,by simpa using bm,rfl,rfl,fun a d=>by show h a=_; rw [S a (by omega),ag a (by omega)]; exact a5 a d⟩
  ·intro bc g H t;rw [D,r0] at t;obtain ⟨go,q,a3,J,v,w,y,z⟩:=t;obtain ⟨N,p⟩:=g;simp at q;simp only at J v w y z;have bi:=w.trans am;have bl:=y.trans bk;have a6:¬go=b:=by omega
   have ai:¬go=b+1:=by omega
   have a7:¬b=go:=by omega
   have a8:¬b+1=go:=by omega
   have a1:aP (List.take c.length (c.map Expr.cells))=c.map Expr.cells:=by rw [q8 (by simp)]; exact ul c
   simp [H,q,bi,bl,v,a6,ai,a7,a8,a1];exact aA fun a d=>by rw [qv,qv,qv]; exact z a d
  ·intro i x xs bc g Y ab ap H t;rw [D] at t;obtain ⟨go,q,a3,J,v,w,y,z⟩:=t;obtain ⟨N,p⟩:=g;simp at q;simp only at J v w y z;have a2:=q0 (x:=(i:Int)+1)
   have ar:x∈c:=aU ap;have ax:SizeOf.sizeOf x<=o:=by
    have:=w8 ar;simp at R; omega
   have Z:=a4 x ax;obtain ⟨f,G⟩:∃ f,f=upd N p (some (.row 7 [x.cells] .live none)):=⟨_,rfl⟩;have K:∀ a,a<p->f a=N a:=fun a d=>by rw [G,qv]
   have a9:f p=_:=(congrFun G p).trans ae;have a':=(K go J).trans v;have U:=fun e=>bE (sz:=7) (bytes:=112) (md:=.plain) (len:=i) (x:=x.cells) (b:=true) (s:=⟨f,e⟩) (by simp) a' (by simp; omega) (by decide) (by decide) (by decide) (rH x) (by omega)
   have a0:c.take (i+1)=c.take i++[x]:=by rw [r7,q3 Y,ab]; rfl
   have b3:(x.cells)=x.cells:=rfl;obtain ⟨b4,ai,bN,bt,b5,bo⟩:=x;rw [Expr.av_mk] at Z;rw [Expr.cells_mk] at G a9;simp only [Expr.cells_mk,row] at U;simp [H,Y,ab,Expr.cells_mk];rw [<-G];refine ACalls.pure Z fun l b1=>?_;simp [q,bsI,az,U,H,a2];rw [D];refine ⟨l,by simp,by omega,q7 _,?_,?_,?_,fun a d=>?_⟩
   ·show upd (upd f go none) l _ l=_;rw [ae,a0]; simp [Expr.cells_mk]
   ·show upd (upd f go none) l _ b=_;rw [qv,qv,K b (by omega)]; exact w
   ·show upd (upd f go none) l _ (b+1)=_;rw [qv,qv,K (b+1) (by omega)]; exact y
   ·show upd (upd f go none) l _ a=_;rw [qv,qv,K a (by omega)]; exact z a d
theorem nP (X:Wb.Step) (p:aG Pg 316 [row ((Step.body X).map Step.cells),.fn (.func 258) [] []] (row ((Step.body X).map Step.cells))):aG Pg 257 [X.av,.fn (.func 258) [] []] X.av:=by
 rintro ⟨o,a⟩;obtain ⟨kind,name,low,t,h,body,array,subs,⟨w,v,m,k,l,f⟩⟩:=X;have q:=yk _ (.mk w v m k l f) (q5 _);rw [Expr.av_mk] at q;simp only [Step.body] at p;rw [Step.av_mk];refine Fn257.calls .frz ?_;unfold Fn257.ac;obtain ⟨e,c⟩:∃ e,e=upd (upd o a (some (.row 15 [(Wb.Step.mk kind name low t h body array subs (.mk w v m k l f)).cells] .live none))) (a+1) (some (.row 15 [rW] .live none)):=⟨_,rfl⟩;have x:∀ d,d<a->e d=o d:=fun d u=>by rw [c,qv,qv]
 have b:e a=_:=(congrFun c a).trans (by rw [qv,ae])
 have g:e (a+1)=_:=(congrFun c (a+1)).trans ae;rw [Step.cells_mk] at c b;simp only [rW] at c g;simp;rw [<-c];refine ACalls.pure (sF low) fun z K=>?_;simp [b];refine ACalls.pure (sF t) fun C M=>?_;simp [b];refine ACalls.pure (oX h) fun D N=>?_;simp [b];refine ACalls.pure (oX subs) fun G O=>?_;simp [b];refine ACalls.pure q fun H P=>?_;simp [b];refine ACalls.pure p fun J Q=>?_;have y:¬a=a+1:=by omega
 simp [b,g,y];exact aA fun d u=>x d u
theorem yl:∀ (d:Nat) (l:List Wb.Step),aw l<d->aw l<=1000->aG Pg 316 [row (l.map Step.cells),.fn (.func 258) [] []] (row (l.map Step.cells)):=by
 intro d
 induction d with
 | zero=>intro l Q; omega
 | succ d Y=>
  rintro l Q ao ⟨z,m⟩;have ar:=fi l;refine Fn316.calls .frz ?_;unfold Fn316.ac;simp;obtain ⟨u,p⟩:∃ u:Nat->List Wb.Step->Slots->St->Prop,u=fun (i:Nat) r aa b=>∃ go,aa 5=.row go 15 0 i/\m<=go/\go<b.c/\b.h go=some (.row 15 ((l.take i).map Step.cells) .live none)/\∀ a,a<m->b.h a=z a:=⟨_,rfl⟩;refine aZ 10 Fn316.W0 l u (by rfl) (by rfl) ?_ ?_ ?_
  ·rw [p]; exact ⟨by simp,m,by simp,q5 _,q7 _,by simp,fun a g=>by show upd z m _ a=_; rw [qv]⟩
  ·intro ab b q f;rw [p,r0] at f;obtain ⟨go,e,W,t,h,k⟩:=f;obtain ⟨w,v⟩:=b;simp at e;simp only at t h k;have T:aP (List.take l.length (l.map Step.cells))=l.map Step.cells:=by rw [q8 (by simp)]; exact kS l
   simp [q,e,h,T];exact aA fun a g=>by rw [qv]; exact k a g
  ·intro i x xs ab b G J R q f;rw [p] at f;obtain ⟨go,e,W,t,h,k⟩:=f;obtain ⟨w,v⟩:=b;simp at e;simp only at t h k;have U:=q0 (x:=(i:Int)+1)
   have O:aw l=aw (l.take i)+(count x+aw xs):=by
    conv=>lhs; rw [R]
    rw [dB]; rfl
   have S:l.take (i+1)=l.take i++[x]:=by rw [r7,q3 G,J]; rfl
   have D:aw (Step.body x)<d/\aw (Step.body x)<=1000:=by
    obtain ⟨kind,name,low,P,N,body,array,subs,expr⟩:=x;simp only [count,Step.body] at O ⊢;omega
   have H:=nP x (Y (Step.body x) D.1 D.2);obtain ⟨c,y⟩:∃ c,c=upd w v (some (.row 15 [x.cells] .live none)):=⟨_,rfl⟩;have K:∀ a,a<v->c a=w a:=fun a g=>by rw [y,qv]
   have Z:=(K go t).trans h;have C:=fun M=>bE (sz:=15) (bytes:=272) (md:=.plain) (len:=i) (x:=x.cells) (b:=true) (s:=⟨c,M⟩) (by simp) Z (by simp; omega) (by decide) (by decide) (by decide) (ig x) (by omega)
   obtain ⟨kind,name,low,P,N,body,array,subs,⟨a0,ax,am,ai,al,ag⟩⟩:=x;rw [Step.av_mk] at H;rw [Step.cells_mk] at y;simp only [Step.cells_mk,row] at C;simp [q,G,J,Step.cells_mk];rw [<-y];refine ACalls.pure H fun o ap=>?_;simp [e,bsI,az,C,q,U];rw [p];refine ⟨o,by simp,by omega,q7 _,?_,fun a g=>?_⟩
   ·show upd (upd c go none) o _ o=_;rw [ae,S]; simp [Step.cells_mk]
   ·show upd (upd c go none) o _ a=_;rw [qv,qv,K a (by omega)]; exact k a g
theorem xJ (X:Wb.Step) (u:aw (Step.body X)<=1000):aG Pg 186 [X.av] X.av:=by
 rintro ⟨g,a⟩;have h:=nP X (yl _ (Step.body X) (q7 _) u);obtain ⟨kind,name,low,v,o,body,array,subs,⟨x,w,t,p,q,l⟩⟩:=X;rw [Step.av_mk] at h ⊢;refine Fn186.calls .frz ?_;unfold Fn186.ac;obtain ⟨d,c⟩:∃ d,d=upd (upd g a (some (.row 15 [(Wb.Step.mk kind name low v o body array subs (.mk x w t p q l)).cells] .live none))) (a+1) (some (.row 15 [rW] .live none)):=⟨_,rfl⟩;have k:∀ b,b<a->d b=g b:=fun b e=>by rw [c,qv,qv]
 have m:d a=_:=(congrFun c a).trans (by rw [qv,ae])
 have f:d (a+1)=_:=(congrFun c (a+1)).trans ae;rw [Step.cells_mk] at c m;simp only [rW] at c f;simp;rw [<-c];refine ACalls.pure h fun y z=>?_;simp [f];exact aA fun b e=>by first | exact k b e | (rw [qv]; exact k b e)
mutual
def cm (names:List ByteArray):Wb.Step->List Wb.Step
 | .mk kind name low high conds body array subs expr=>if kind=3 then (if inL name names=true then [] else [.mk kind name low high conds body array subs expr]) else match aW names body with
  | []=>[]
  | b::bs=>[.mk kind name low high conds (b::bs) array subs expr]
def aW (names:List ByteArray):List Wb.Step->List Wb.Step
 | []=>[]
 | s::ss=>cm names s++aW names ss
end
theorem kq (names:List ByteArray):∀ (a b:List Wb.Step),aW names (a++b)=aW names a++aW names b
 | [],b=>rfl
 | c::a,b=>by simp only [t1,aW,kq names a b,u0]
mutual
theorem qr (names:List ByteArray):∀ s:Wb.Step,aw (cm names s)<=count s
 | .mk kind name low high conds body array subs expr=>by
  have:=eJ names body;simp only [cm,count];split
  ·split <;> simp [aw,count]
  ·cases h:aW names body with
   | nil=>simp [aw]
   | cons b bs=>rw [h] at this; simp only [aw,count] at this ⊢; omega
theorem eJ (names:List ByteArray):∀ l:List Wb.Step,aw (aW names l)<=aw l
 | []=>by simp [aW,aw]
 | s::ss=>by
  have h1:=qr names s;have h2:=eJ names ss;simp only [aW,aw,dB]; omega
end
theorem sd (names:List ByteArray):∀ (U:Nat) (l:List Wb.Step),aw l<U->aw l<=1000->aG Pg 115 [row (l.map Step.cells),row (ak names)] (row ((aW names l).map Step.cells)):=by
 intro U
 induction U with
 | zero=>intro l bk; omega
 | succ U bx=>
  rintro l bk b2 ⟨H,o⟩;have b3:=fi l;refine Fn115.calls .frz ?_;unfold Fn115.ac;simp;obtain ⟨M,P⟩:∃ M:Nat->List Wb.Step->Slots->St->Prop,M=fun (i:Nat) r b0 z=>∃ go,b0 5=.row go 15 0 (aW names (l.take i)).length/\o<=go/\go<z.c/\z.h go=some (.row 15 ((aW names (l.take i)).map Step.cells) .live none)/\∀ a,a<o->z.h a=H a:=⟨_,rfl⟩;refine aZ 11 Fn115.W0 l M (by rfl) (by rfl) ?_ ?_ ?_
  ·rw [P]; exact ⟨by simp,o,by simp [aW],q5 _,q7 _,by simp [aW],fun a e=>by show upd H o _ a=_; rw [qv]⟩
  ·intro b1 z y O;rw [P,r0] at O;obtain ⟨go,h,a5,Z,J,T⟩:=O;obtain ⟨ao,D⟩:=z;simp at h;simp only at Z J T;have bm:aP (List.take (aW names l).length ((aW names l).map Step.cells))=(aW names l).map Step.cells:=by rw [q8 (by simp)]; exact kS _
   simp [y,h,J,bm];exact aA fun a e=>by rw [qv]; exact T a e
  ·intro i x xs b1 z a2 a4 bl y O;rw [P] at O;obtain ⟨go,h,a5,Z,J,T⟩:=O;obtain ⟨ao,D⟩:=z;simp at h;simp only at Z J T;have Y:=q0 (x:=(i:Int)+1)
   have bf:aw l=aw (l.take i)+(count x+aw xs):=by
    conv=>lhs; rw [bl]
    rw [dB]; rfl
   have S:aW names (l.take (i+1))=aW names (l.take i)++cm names x:=by
    rw [r7,q3 a2,a4,x4,kq]; simp [aW]
   have bo:=eJ names (l.take i);have bt:=fi (aW names (l.take i));obtain ⟨k,a9⟩:∃ k,k=aW names (l.take i):=⟨_,rfl⟩;rw [<-a9] at h J S bo bt;obtain ⟨kind,name,low,u,p,body,array,subs,⟨w,v,f,q,t,m⟩⟩:=x;simp only [count] at bf;have ar:=fun (b:List Wb.Step) (Q:aw b<=1000)=>xJ (.mk kind name low u p b array subs (.mk w v f q t m)) Q;simp only [Step.av_mk] at ar;have bj:=bx body (by omega) (by omega)
   obtain ⟨g,W⟩:∃ g,g=upd ao D (some (.row 15 [(Wb.Step.mk kind name low u p body array subs (.mk w v f q t m)).cells] .live none)):=⟨_,rfl⟩;have a6:∀ a,a<D->g a=ao a:=fun a e=>by rw [W,qv]
   have K:g D=_:=(congrFun W D).trans ae;have ab:=(a6 go Z).trans J;have aa:∀ a,a<o->g a=H a:=fun a e=>(a6 a (by omega)).trans (T a e)
   rw [Step.cells_mk] at W K;have same:cm names (.mk kind name low u p body array subs (.mk w v f q t m))=[]->∀ (C:Slots) (c:Heap) (d:Nat),C 5=.row go 15 0 k.length->c go=some (.row 15 (k.map Step.cells) .live none)->go<d->(∀ a,a<o->c a=H a)->M (i+1) xs C ⟨c,d⟩:=by
    intro N C c d ax al am a7;rw [P];exact ⟨go,by rw [S,N]; simpa using ax,a5,am,by rw [S,N]; simpa using al,a7⟩
   have more:∀ (b:List Wb.Step) (ai:List AV),ai=(Wb.Step.mk kind name low u p b array subs (.mk w v f q t m)).cells->cm names (.mk kind name low u p body array subs (.mk w v f q t m))=[.mk kind name low u p b array subs (.mk w v f q t m)]->∀ (C:Slots) (c:Heap) (d:Nat),go<d->(∀ a,a<o->c a=H a)->C 5=.row d 15 0 (k.length+1)->M (i+1) xs C ⟨upd (upd c go none) d (some (.row 15 (k.map Step.cells++[ai]) .live none)),d+1⟩:=by
    intro b ai bi N C c d ax al am;rw [P];refine ⟨d,by rw [S,N]; simpa using am,by omega,q7 _,?_,fun a e=>?_⟩
    ·show upd (upd c go none) d _ d=_;rw [ae,S,N,bi]; simp
    ·show upd (upd c go none) d _ a=_;rw [qv,qv]; exact al a e
   have ap:=fun (b:List Wb.Step) (c:Heap) (G:Nat) (bW:c go=some (.row 15 (k.map Step.cells) .live none))=>bE (sz:=15) (bytes:=272) (md:=.plain) (len:=k.length) (x:=(Wb.Step.mk kind name low u p b array subs (.mk w v f q t m)).cells) (b:=true) (s:=⟨c,G⟩) (by simp) bW (by simp) (by decide) (by decide) (by decide) (ig _) (by omega)
   simp only [Step.cells_mk,row] at ap;simp [y,a2,a4,Step.cells_mk];rw [<-W];by_cases e:kind=3
   ·subst e;simp [K];refine ACalls.pure (dz names name) fun d bb=>?_;cases a3:inL name names with
    | true=>
     simp [y,Y];exact same (by simp [cm,a3]) _ _ _ (by simp [h]) ab (by omega) aa
    | false=>
     simp [K];refine ACalls.pure (ar body (by omega)) fun G bc=>?_
     simp [h,bsI,az,ap body g _ ab,y,Y];refine more body _ (by rw [Step.cells_mk]) (by simp [cm,a3]) _ g G (by omega) aa ?_
     simp
   ·simp [K,e];refine ACalls.pure bj fun d bb=>?_;cases Q:aW names body with
    | nil=>
     simp [y,Y];exact same (by simp [cm,e,Q]) _ _ _ (by simp [h]) ab (by omega) aa
    | cons ag bs=>
     have a':=eJ names body;rw [Q] at a';have a1:=ar [] (by simp [aw])
     simp only [EE] at a1;simp [K];refine ACalls.pure a1 fun G bc=>?_;obtain ⟨c,R⟩:∃ c,c=upd g D (some (.row 15 [[.int kind,.str name,row (low.map Bound.cells),row (u.map Bound.cells),row (p.map Form.cells),row ((ag::bs).map Step.cells),.str array,row (subs.map Form.cells),.int w,.int v,.int f.const,row (f.terms.map Term.cells),.str q,row (t.map Form.cells),row (m.map Expr.cells)]] .live none)):=⟨_,rfl⟩;have a8:c go=_:=(by rw [R,qv]:c go=g go).trans ab
     have bN:∀ a,a<o->c a=H a:=fun a e=>by rw [R,qv]; exact aa a e
     have a0:=ap (ag::bs) c G a8;simp only [s9] at a0 R;simp [K,bsI,az];simp only [row] at R;rw [<-R];simp [h,a0,y,Y];refine more (ag::bs) _ (by rw [Step.cells_mk]; rfl) (by simp [cm,e,Q]) _ c G (by omega) bN ?_
     simp
mutual
def iu:Wb.Step->Prop
 | .mk kind _ _ _ _ body _ _ _=>(kind=3->body=[])/\ma body
def ma:List Wb.Step->Prop
 | []=>True
 | s::ss=>iu s/\ma ss
end
mutual
theorem yM {A:List Wb.Array} {L:List ByteArray}:∀ {s:Wb.Step},ei A L s->iu s
 | .mk kind name low high conds body array subs expr,h=>by
  simp only [ei] at h;rcases h with ⟨hk,_,_,_,_,_,h3⟩ | ⟨hk,_,h3⟩ | ⟨hk,rfl,_⟩
  ·exact ⟨fun e=>by omega,j8 h3⟩
  ·exact ⟨fun e=>by omega,j8 h3⟩
  ·exact ⟨fun _=>rfl,trivial⟩
theorem j8 {A:List Wb.Array} {L:List ByteArray}:∀ {l:List Wb.Step},cW A L l->ma l
 | [],_=>trivial
 | s::ss,h=>by
  simp only [cW] at h;exact ⟨yM h.1,j8 h.2⟩
end
theorem qW:∀ {l:List Wb.Step},ma l->∀ s∈l,iu s
 | [],_,s,a=>by simp at a
 | c::l,b,s,a=>by
  rcases se.1 a with rfl | a
  ·exact b.1
  ·exact qW b.2 s a
theorem wZ (names:List ByteArray):∀ (U:Nat) (l:List Wb.Step),aw l<U->aw l<=1000->ma l->aG Pg 126 [row (l.map Step.cells),row (ak names)] (row ((aW names l).map Step.cells)):=by
 intro U
 induction U with
 | zero=>intro l b0; omega
 | succ U b4=>
  rintro l b0 b9 bN ⟨G,w⟩;have ca:=fi l;refine Fn126.calls .frz ?_;unfold Fn126.ac;simp;obtain ⟨K,P⟩:∃ K:Nat->List Wb.Step->Slots->St->Prop,K=fun (i:Nat) r b6 C=>∃ go,b6 5=.row go 15 0 (aW names (l.take i)).length/\w<=go/\go<C.c/\C.h go=some (.row 15 ((aW names (l.take i)).map Step.cells) .live none)/\∀ a,a<w->C.h a=G a:=⟨_,rfl⟩;refine aZ 10 Fn126.W0 l K (by rfl) (by rfl) ?_ ?_ ?_
  ·rw [P]; exact ⟨by simp,w,by simp [aW],q5 _,q7 _,by simp [aW],fun a e=>by show upd G w _ a=_; rw [qv]⟩
  ·intro b7 C z O;rw [P,r0] at O;obtain ⟨go,t,a7,aa,H,T⟩:=O;obtain ⟨al,v⟩:=C;simp at t;simp only at aa H T;have b1:aP (List.take (aW names l).length ((aW names l).map Step.cells))=(aW names l).map Step.cells:=by rw [q8 (by simp)]; exact kS _
   simp [z,t,H,b1];exact aA fun a e=>by rw [qv]; exact T a e
  ·intro i x xs b7 C a3 a6 a5 z O;rw [P] at O;obtain ⟨go,t,a7,aa,H,T⟩:=O;obtain ⟨al,v⟩:=C;simp at t;simp only at aa H T;have Z:=q0 (x:=(i:Int)+1)
   have bm:aw l=aw (l.take i)+(count x+aw xs):=by
    conv=>lhs; rw [a5]
    rw [dB]; rfl
   have S:aW names (l.take (i+1))=aW names (l.take i)++cm names x:=by
    rw [r7,q3 a3,a6,x4,kq]; simp [aW]
   have b2:=eJ names (l.take i);have b3:=fi (aW names (l.take i));obtain ⟨u,bj⟩:∃ u,u=aW names (l.take i):=⟨_,rfl⟩;rw [<-bj] at t H S b2 b3;have bW:=qW bN x (aU a5);obtain ⟨kind,name,low,o,h,body,array,subs,⟨q,p,f,k,m,g⟩⟩:=x;obtain ⟨bt,bx⟩:=bW;simp only [count] at bm;have am:=b4 body (by omega) (by omega) bx
   obtain ⟨y,Y⟩:∃ y,y=upd al v (some (.row 15 [(Wb.Step.mk kind name low o h body array subs (.mk q p f k m g)).cells] .live none)):=⟨_,rfl⟩;have a9:∀ a,a<v->y a=al a:=fun a e=>by rw [Y,qv]
   have J:y v=_:=(congrFun Y v).trans ae;have a':=(a9 go aa).trans H;have a8:∀ a,a<w->y a=G a:=fun a e=>(a9 a (by omega)).trans (T a e)
   rw [Step.cells_mk] at Y J;have same:cm names (.mk kind name low o h body array subs (.mk q p f k m g))=[]->∀ (D:Slots) (c:Heap) (d:Nat),D 5=.row go 15 0 u.length->c go=some (.row 15 (u.map Step.cells) .live none)->go<d->(∀ a,a<w->c a=G a)->K (i+1) xs D ⟨c,d⟩:=by
    intro N D c d ax ag ai bb;rw [P];exact ⟨go,by rw [S,N]; simpa using ax,a7,ai,by rw [S,N]; simpa using ag,bb⟩
   have more:∀ (b:List Wb.Step) (ab:List AV),ab=(Wb.Step.mk kind name low o h b array subs (.mk q p f k m g)).cells->cm names (.mk kind name low o h body array subs (.mk q p f k m g))=[.mk kind name low o h b array subs (.mk q p f k m g)]->∀ (D:Slots) (c:Heap) (d:Nat),go<d->(∀ a,a<w->c a=G a)->D 5=.row d 15 0 (u.length+1)->K (i+1) xs D ⟨upd (upd c go none) d (some (.row 15 (u.map Step.cells++[ab]) .live none)),d+1⟩:=by
    intro b ab bo N D c d ax ag ai;rw [P];refine ⟨d,by rw [S,N]; simpa using ai,by omega,q7 _,?_,fun a e=>?_⟩
    ·show upd (upd c go none) d _ d=_;rw [ae,S,N,bo]; simp
    ·show upd (upd c go none) d _ a=_;rw [qv,qv]; exact ag a e
   have a1:=fun (b:List Wb.Step) (c:Heap) (M:Nat) (b5:c go=some (.row 15 (u.map Step.cells) .live none))=>bE (sz:=15) (bytes:=272) (md:=.plain) (len:=u.length) (x:=(Wb.Step.mk kind name low o h b array subs (.mk q p f k m g)).cells) (b:=true) (s:=⟨c,M⟩) (by simp) b5 (by simp) (by decide) (by decide) (by decide) (ig _) (by omega)
   simp only [Step.cells_mk,row] at a1;have bi:∀ (b:List Wb.Step),∃ c,c=upd y v (some (.row 15 [[.int kind,.str name,row (low.map Bound.cells),row (o.map Bound.cells),row (h.map Form.cells),row (b.map Step.cells),.str array,row (subs.map Form.cells),.int q,.int p,.int f.const,row (f.terms.map Term.cells),.str k,row (m.map Form.cells),row (g.map Expr.cells)]] .live none)):=fun b=>⟨_,rfl⟩;obtain ⟨B,W⟩:∃ B,B=aW names body:=⟨_,rfl⟩;rw [<-W] at am;obtain ⟨c,R⟩:=bi B;have a0:c go=_:=(by rw [R,qv]:c go=y go).trans a'
   have ap:∀ a,a<w->c a=G a:=fun a e=>by rw [R,qv]; exact a8 a e
   have ar:c v=_:=(congrFun R v).trans ae;have a2:=fun M=>a1 B c M a0;simp [z,a3,a6,Step.cells_mk];rw [<-Y];by_cases e:kind=3
   ·subst e;obtain rfl:=bt rfl;have bc:B=[]:=by rw [W]; rfl
    simp [J];refine ACalls.pure (dz names name) fun d bl=>?_;cases a4:inL name names with
    | true=>
     simp [z,Z];exact same (by simp [cm,a4]) _ _ _ (by simp [t]) a' (by omega) a8
    | false=>
     simp [J];refine ACalls.pure am fun M b'=>?_;simp [J];rw [<-R];simp [ar,t,bsI,az,a2,z,Z];refine more B _ (by rw [Step.cells_mk]) (by rw [bc]; simp [cm,a4]) _ c M (by omega) ap ?_
     simp
   ·simp [J,e];refine ACalls.pure am fun d bl=>?_;simp [J];rw [<-R];by_cases Q:B=[]
    ·have ao:cm names (.mk kind name low o h body array subs (.mk q p f k m g))=[]:=by
      simp only [cm,if_neg e]; rw [<-W,Q]
     simp [ar,e,Q,z,Z];exact same ao _ _ _ (by simp [t]) a0 (by omega) ap
    ·have ao:cm names (.mk kind name low o h body array subs (.mk q p f k m g))=[.mk kind name low o h B array subs (.mk q p f k m g)]:=by
      simp only [cm,if_neg e];rw [<-W];cases bf:B with
      | nil=>exact absurd bf Q
      | cons b8 bs=>rfl
     have bk:0<B.length:=r6.2 Q;simp [ar,e,Q,bk,t,bsI,az,a2,z,Z];refine more B _ (by rw [Step.cells_mk]) ao _ c d (by omega) ap ?_
     simp
theorem vC (l:List Wb.Array):∀ e∈l.map Array.cells,aF 2 e=true:=fun e a=>by obtain ⟨b,_,rfl⟩:=rf.1 a; rfl
theorem ij (l:List Wb.Array) (c:Heap) (a:Nat):ACalls Pg 125 [row (l.map Array.cells)] ⟨c,a⟩ fun av s'=>Fr a c s'.h s'.c/\((∃ b,av=.sl [] b/\l=[])\/∃ g,a<=g/\g<s'.c/\av=.row g 2 0 l.length/\s'.h g=some (.row 2 (l.map Array.cells) .live none)):=by
 refine ACalls.small fun k=>?_;have h:l.length<=68719476736:=by simp at k; omega
 refine Fn125.calls .keep ?_;unfold Fn125.ac;simp;refine lL (fun e=>?_) ?_
 ·have f:l=[]:=by simpa using e
  simp [f];exact Fr.refl _ _
 ·simp [bsI,az];have d:=dr (sz:=2) (bytes:=40) (md:=.plain) (es:=[]) (xs:=l.map Array.cells) (b:=false) (s:=⟨c,a⟩) (by decide) (by decide) (by decide) (by simp) (vC l) (by simpa using h) (.inr rfl)
  simp at d;simp [d];exact ⟨(Fr.refl c a).upd (q5 _) (rv _),a,q5 _,q7 _,rfl,by simp⟩
theorem lG:∀ {L:List (List AV)} {i:Nat} {x:List AV},(aP L)[i]?=some (br x)->aP (L.set i x)=aP L
 | [],i,x,a=>rfl
 | b::c,0,x,a=>by simp [aP] at a; simp [aP,a]
 | b::c,i+1,x,a=>by simp [aP] at a ⊢; exact lG a
theorem rZ (l:List Wb.Array):aG Pg 114 [row (l.map Array.cells)] (row (l.map Array.cells)):=by
 rintro ⟨z,y⟩;refine ACalls.small fun ao=>?_;have a9:l.length<=68719476736:=by simp at ao; omega
 refine Fn114.calls .frz ?_;unfold Fn114.ac;simp;refine (ij l z y).mono ?_;rintro av ⟨a6,a4⟩ ag ⟨C,u⟩;simp only at ag C u;rcases u with ⟨a3,rfl,rfl⟩ | ⟨q,a',ar,rfl,ax⟩
 ·simp;refine bM 9 Fn114.W0 ([]:List Unit) (fun i r a1=>True) (by rfl) (by rfl) ?_ ?_ ?_
  ·simp
  ·intro O p c a7 f;simp at c;simp [c];exact C.retH
  ·intro i bf ys O p g; simp at g
 ·simp;obtain ⟨w,m⟩:∃ w:Nat->List Wb.Array->Slots->St->Prop,w=fun (i:Nat) r a1 e=>(∃ L:List (List AV),e.h q=some (.row 2 L .live none)/\aP L=l.map Array.cells/\L.length=l.length/\∀ j,i<=j->L[j]?=(l.map Array.cells)[j]?)/\q<e.c/\∀ b,b<y->e.h b=z b:=⟨_,rfl⟩;refine aZ 9 Fn114.W0 l w (by rfl) (by rfl) ?_ ?_ ?_
  ·rw [m]; exact ⟨by simp,⟨l.map Array.cells,ax,kf l,by simp,fun j _=>rfl⟩,ar,C.h⟩
  ·intro O e c f;rw [m] at f;obtain ⟨⟨L,h,M,N,v⟩,k,o⟩:=f;obtain ⟨Q,p⟩:=e;simp only at h k o;have K:aP (List.take l.length L)=l.map Array.cells:=by rw [q8 (by omega),M]
   have am:l.length<=L.length:=by omega
   simp [c,h,am,K];exact aA fun b d=>by rw [qv]; exact o b d
  ·intro i a a2 O e g ab a8 c f;rw [m] at f;obtain ⟨⟨L,h,M,N,v⟩,k,o⟩:=f;obtain ⟨Q,p⟩:=e;simp only at h k o;have S:=q0 (x:=(i:Int)+1)
   have H:L[i]?=some [.str a.key,row (an a.sizes)]:=by rw [v i (q5 _),rb,q3 g,ab]; rfl
   have t:i<L.length:=by omega
   have G:L[i]=[.str a.key,row (an a.sizes)]:=by rw [q3 t] at H; exact ty H
   have R:∀ x:AV,norm x=row (an a.sizes)->aP (L.set i [.str a.key,x])=l.map Array.cells:=by
    intro x u;rw [<-M];refine lG (x:=[.str a.key,x]) ?_;rw [rp H];show some _=some [norm (AV.str a.key),norm x];rw [u];have Y:norm (row (an a.sizes))=row (an a.sizes):=by simp [row]
    show some [norm (AV.str a.key),norm (row (an a.sizes))]=_;rw [Y]
   simp [c,g,h,t,G];refine (oU a.sizes Q p).mono ?_;rintro av ⟨aa,a5⟩ J ⟨D,T⟩;simp only at J D T;have P:=(D.h q k).trans h;have U:∀ b,b<y->aa b=z b:=fun b d=>(D.h b (by omega)).trans (o b d)
   rcases T with ⟨rfl,W⟩ | ⟨Z,bb,bc,rfl,a0⟩
   ·simp [P,g,t,G,c,S];rw [m];refine ⟨⟨_,ae,R _ (by rw [W]; rfl),by simp [N],fun j al=>?_⟩,ro k J,fun b d=>by show upd _ _ _ b=_; rw [qv]; exact U b d⟩
    rw [B0 (by omega)]; exact v j (by omega)
   ·have ap:¬q=Z:=by omega
    have K:aP (List.take a.sizes.length (an a.sizes))=an a.sizes:=by rw [q8 (by simp [an]),vg]
    have ai:a.sizes.length<=(an a.sizes).length:=by simp [an]
    simp [a0,K,ai,P,ap,g,t,G,c,S];rw [m];refine ⟨⟨_,ae,R _ (by simp),by simp [N],fun j al=>?_⟩,ro k J,fun b d=>by show upd (upd _ _ _) _ _ b=_; rw [qv,qv]; exact U b d⟩
    rw [B0 (by omega)]; exact v j (by omega)
def NmI (c:Nat) (v:List (Wb.Step×List Wb.Step)) (F:Nat->Prop) (h:Heap):Prop:=
 ∃ b,h c=some (.row 1 [[b]] .live none)/\RowAt h 1 b (ak ((v.filter dq).map nm))/\∀ a,F a↔a=c\/au b a
theorem xI (y:Wb.Step×List Wb.Step) (x:AV) (d:Nat) (v:List (Wb.Step×List Wb.Step)) (a4:v.length<=1000000) (F:Nat->Prop) (g:Heap) (c:Nat) (ab:NmI d v F g) (M:∀ k,F k->k<c) (a5:x.val=true) :
  ACalls Pg 184 [y.1.av,x,.ptr d 0 0] ⟨g,c⟩ fun av s'=>∃ z,NmI d (v++[y]) z s'.h/\(∀ k,z k->F k\/(c<=k/\k<s'.c))/\∀ k,k<c->¬F k->s'.h k=g k:=by
 obtain ⟨⟨kind,name,low,Q,G,body,array,subs,⟨U,T,K,H,J,C⟩⟩,W⟩:=y;obtain ⟨r,u,w,f⟩:=ab;have ao:=M d ((f d).2 (.inl rfl));have t:=fun k a=>M k ((f k).2 (.inr a));rw [Step.av_mk];refine Fn184.calls .keep ?_;unfold Fn184.ac;have Z:¬d=c:=by omega
 by_cases p:kind=3
 ·subst p;obtain ⟨h,m⟩:∃ h,h=upd g c (some (.row 15 [(Wb.Step.mk 3 name low Q G body array subs (.mk U T K H J C)).cells] .live none)):=⟨_,rfl⟩;rw [Step.cells_mk] at m;have q:∀ k,k<c->h k=g k:=fun k a=>by rw [m,qv]
  have am:h c=_:=(congrFun m c).trans ae;have D:=(q d ao).trans u;have ap:RowAt h 1 r (ak ((v.filter dq).map nm)):=w.frame fun k a=>q k (t k a);have a2:(v.filter dq).length<=v.length:=vn _ _;obtain ⟨aa,ag,ai,a1,N⟩:=ap.push (c:=c+1) (bytes:=16) (md:=.plain) (b:=true) (e:=[.str name]) (by decide) (by decide) (by decide) (by decide) rfl (fun e P=>by simp [ak] at P; obtain ⟨ax,b,_,rfl⟩:=P; rfl) (by simp [ak]; omega) (fun k a=>by have:=t k a; omega)
  have a3:¬d=c+1:=by omega
  have ar:¬au r d:=fun o=>by
   rcases w with ⟨e,_⟩ | ⟨a0,e,l⟩
   ·rw [e] at o; exact aL o
   ·rw [e] at o; have:=aq.1 o; subst this; rw [u] at l; simp [ak] at l;cases O:List.filter dq v with
    | nil=>simp [O] at l
    | cons y ys=>simp [O] at l; rw [l.1] at e; cases e
  have Y:=(N d (by omega) ar).trans D
  simp;rw [<-m];simp [D,am,bsI,az,aH,ag,Y];have al:aa (c+1)=some (.row 1 (ak (((v++[(Wb.Step.mk 3 name low Q G body array subs (.mk U T K H J C),W)]).filter dq).map nm)) .live none):=by
   rw [ai,ti]; simp [dq,Step.kind,ak,nm,Step.name]
  refine ⟨fun k=>k=d\/k=c+1,⟨_,ae,.inr ⟨c+1,?_,by rw [qv]; exact al⟩,fun k=>by rw [aq]⟩,fun k a=>?_,fun k a R=>?_⟩
  ·rw [ti]; simp [dq,Step.kind,ak]
  ·rcases a with rfl | rfl
   ·exact .inl ((f _).2 (.inl rfl))
   ·exact .inr ⟨by omega,by omega⟩
  ·have S:k≠d/\¬au r k:=⟨fun e=>R ((f k).2 (.inl e)),fun e=>R ((f k).2 (.inr e))⟩;rw [ad S.1,N k (by omega) S.2]
   exact q k a
 ·simp [p];refine ⟨F,⟨r,by rw [ad Z]; exact u,?_,f⟩,fun k a=>.inl a,fun k a _=>by rw [qv]⟩
  rw [ti];simp [dq,Step.kind,p];exact w.frame fun k a=>ad (by have:=t k a; omega)
theorem Ao (d:Nat):Sees 184 [] [.ptr d 0 0] (NmI d) 1000 (fun _=>True):=by
 have q:∀ {e F c l},NmI d e F c->(∀ a,F a->l a=c a)->NmI d e F l:=by
  rintro e F c l ⟨r,m,o,g⟩ t;exact ⟨r,(t d ((g d).2 (.inl rfl))).trans m,o.frame fun a b=>t a ((g a).2 (.inr b)),g⟩
 have u:∀ {e F c},NmI d e F c->∀ a,F a->pA c a:=by
  rintro e F c ⟨r,m,o,g⟩ a b P z w O f;rcases (g a).1 b with rfl | b
  ·rw [m] at f; cases f
  ·rcases o with ⟨k,_⟩ | ⟨S,k,G⟩
   ·rw [k] at b; exact aL b
   ·rw [k] at b; have:=aq.1 b; subst this; rw [G] at f; cases f
 refine ⟨q,u,fun e F X around x c p aa Z D C J W=>?_⟩;have K:x.val=true:=by
  rcases J with ⟨_,Q,rfl⟩ | ⟨T,w,ab,rfl,_⟩ <;> rfl
 refine ACalls.dropF p (xI (X,around) x d e (by omega) F c p D C K) ?_
 rintro av ⟨U,R⟩ Y ⟨y,v,M,N⟩;refine ⟨y,q v fun a b=>jA (u v a b),M,fun a b H=>(fM b).trans (N a b H),fun a b P z w O f=>?_⟩;obtain ⟨_,h⟩:=eC f;rcases h with h | h
 ·omega
 ·exact h _ _ _ _ rfl
theorem Ap (l:List Wb.Step):((bS [] l).filter dq).map nm=aX l:=by
 rw [<-jl l [],jg,y3]; rfl
theorem wV (p:Wb.Prog) (N:aw p.steps<=300):aG Pg 111 [p.av] (.tup [row (if aR p=0 then ak (aX p.steps) else []),.int (aR p)]):=by
 rintro ⟨m,d⟩;have w:=uA p (by omega)
 simp only [Prog.av] at w;refine Fn111.calls .frz ?_;unfold Fn111.ac;simp [Prog.av];refine ACalls.pure w fun b O=>?_;by_cases h:aR p=0
 case neg=>
  simp [h]
 obtain ⟨c,g⟩:∃ c,c=upd (upd m d (some (.row 2 [[row (p.arrays.map Array.cells),row (p.steps.map Step.cells)]] .live none))) b (some (.row 1 [[AV.nil]] .live none)):=⟨_,rfl⟩;have y:c d=some (.row 2 [[row (p.arrays.map Array.cells),row (p.steps.map Step.cells)]] .live none):=by rw [g,qv,ae]
 have z:c b=some (.row 1 [[.nil]] .live none):=by rw [g,ae]
 have C:∀ a,a<d->c a=m a:=fun a e=>by rw [g,qv,qv]
 have J:=oT (Ao b) (aw p.steps) p.steps (q5 _) [] (fun a=>a=b) [] (.sl [] true) c (b+1) (by simp; omega) (fun _ _=>trivial) ⟨_,z,.inl ⟨rfl,rfl⟩,fun a=>⟨.inl,fun l=>l.elim id fun l=>absurd l aL⟩⟩ (fun a e=>by omega) (.inl ⟨rfl,rfl⟩) (by simp; omega)
 simp [h];rw [<-g];simp [y];refine J.mono ?_;rintro av ⟨G,M⟩ H ⟨K,⟨r,k,q,x⟩,t,u,_,_⟩;rw [u5,Ap] at q;simp only at H k q x t u;have v:∀ a,a<d->G a=m a:=fun a e=>(u a (by omega) (by omega) aL).trans (C a e)
 rcases q with ⟨rfl,D⟩ | ⟨f,rfl,o⟩
 ·simp [k,D];exact aA v
 ·have Q:=t f ((x f).2 (.inr (aq.2 rfl)));have R:¬b=f:=by rintro rfl; rw [k] at o; cases h:aX p.steps <;> simp [h,ak] at o
  have P:d<=f:=by omega
  simp [k,o,ak];refine ⟨?_,?_⟩
  ·rw [q8 (by simp)]; exact eE _
  ·exact aA fun a e=>by rw [qv]; exact v a e
def ed (p:Wb.Prog) (names:List ByteArray):Int:=if aR p=0 then cg (fun a=>inL a (aX p.steps)) names 0 names else aR p
def fw (p:Wb.Prog) (names:List ByteArray):Wb.Prog:=⟨p.arrays,aW names p.steps⟩
def noProg:Wb.Prog:=⟨[],[]⟩
theorem wW (a:List ByteArray) (key:ByteArray) (h:Heap) (c g:Nat) (b:h g=some (.row 1 [[row (ak a)]] .live none)) (f:g<c) :
  ACalls Pg 113 [.str key,.ptr g 0 0] ⟨h,c⟩ fun r s'=>r=.bool (inL key a)/\s'.h=h:=by
 refine Fn113.calls .frz ?_;unfold Fn113.ac;simp [b];refine ACalls.pure (dz a key) fun d e=>?_;simp [inL]
theorem zJ (p:Wb.Prog) (D:aw p.steps<=300) (names:List ByteArray):aG Pg 41 [p.av,row (ak names)] (.tup [(if ed p names=0 then fw p names else noProg).av,.int (ed p names)]):=by
 rintro ⟨o,b⟩;have v:=wV p D;have z:=rZ p.arrays;have G:=sd names _ p.steps (q7 _) (by omega)
 simp only [Prog.av] at v;refine Fn41.calls .frz ?_;unfold Fn41.ac;obtain ⟨e,q⟩:∃ e,e=upd o b (some (.row 2 [[row (p.arrays.map Array.cells),row (p.steps.map Step.cells)]] .live none)):=⟨_,rfl⟩;have u:∀ a,a<b->e a=o a:=fun a g=>by rw [q,qv]
 have C:e b=_:=(congrFun q b).trans ae;simp [Prog.av];rw [<-q];refine ACalls.pure v fun d N=>?_;by_cases k:aR p=0
 case neg=>
  have m:ed p names=aR p:=by unfold ed; rw [if_neg k]
  have R:¬b+1=d:=by omega
  have h:(upd (upd e (b+1) (some (.row 2 [[AV.nil,AV.nil]] .live none))) d (some (.row 1 [[row []]] .live none))) (b+1)=some (.row 2 [[AV.nil,AV.nil]] .live none):=by rw [qv,ae]
  simp [k,m,noProg,aH,h];exact aA fun a g=>by rw [qv,qv]; exact u a g
 have m:ed p names=cg (fun a=>inL a (aX p.steps)) names 0 names:=by unfold ed; rw [if_pos k]
 obtain ⟨c,f⟩:∃ c,c=upd (upd e (b+1) (some (.row 2 [[AV.nil,AV.nil]] .live none))) d (some (.row 1 [[row (ak (aX p.steps))]] .live none)):=⟨_,rfl⟩;have l:c b=some (.row 2 [[row (p.arrays.map Array.cells),row (p.steps.map Step.cells)]] .live none):=by rw [f,qv,qv]; exact C
 have h:c (b+1)=some (.row 2 [[AV.nil,AV.nil]] .live none):=by rw [f,qv,ae]
 have x:c d=some (.row 1 [[row (ak (aX p.steps))]] .live none):=by rw [f,ae]
 have t:∀ a,a<b->c a=o a:=fun a g=>by rw [f,qv,qv]; exact u a g
 simp [k];simp only [row] at f;rw [<-f];refine ACalls.at (rY names 113 [] [.ptr d 0 0] (fun a=>inL a (aX p.steps)) c (d+1) fun a g y M=>wW (aX p.steps) a c y d x (by omega)) fun H O=>?_
 rw [<-m];by_cases w:ed p names=0
 case neg=>
  simp [w,noProg,h,aH];exact aA t
 simp [w,l];refine ACalls.pure z fun J P=>?_;simp [l];refine ACalls.pure G fun K Q=>?_;simp [l,h,aH];exact ⟨⟨rfl,rfl⟩,aA t⟩
theorem uz (p:Wb.Prog) (J:aw p.steps<=1000) (N:ma p.steps) (names:List ByteArray):aG Pg 47 [p.av,row (ak names)] (fw p names).av:=by
 rintro ⟨g,b⟩;have t:=wZ names _ p.steps (q7 _) J N;refine Fn47.calls .frz ?_;unfold Fn47.ac;obtain ⟨e,l⟩:∃ e,e=upd g b (some (.row 2 [[row (p.arrays.map Array.cells),row (p.steps.map Step.cells)]] .live none)):=⟨_,rfl⟩;have O:∀ a,a<b->e a=g a:=fun a d=>by rw [l,qv]
 have H:e b=_:=(congrFun l b).trans ae;simp [Prog.av];rw [<-l];obtain ⟨c,k⟩:∃ c,c=upd e (b+1) (some (.row 2 [[AV.nil,AV.nil]] .live none)):=⟨_,rfl⟩;have x:c b=some (.row 2 [[row (p.arrays.map Array.cells),row (p.steps.map Step.cells)]] .live none):=by rw [k,qv]; exact H
 have y:c (b+1)=some (.row 2 [[AV.nil,AV.nil]] .live none):=by rw [k,ae]
 have z:∀ a,a<b->c a=g a:=fun a d=>by rw [k,qv]; exact O a d
 rw [<-k];refine (ij p.arrays c (b+1+1)).mono ?_;rintro av ⟨G,S⟩ K ⟨h,u⟩;simp only at K h u;have f:=(h.h b (by omega)).trans x
 have m:=(h.h (b+1) (by omega)).trans y
 have o:∀ a,a<b->G a=g a:=fun a d=>(h.h a (by omega)).trans (z a d)
 rcases u with ⟨R,rfl,D⟩ | ⟨q,T,U,rfl,Q⟩
 ·simp [f];refine ACalls.pure t fun C M=>?_;simp [f,m,aH];exact ⟨⟨by rw [fw,D],rfl⟩,aA o⟩
 ·have P:aP (List.take p.arrays.length (p.arrays.map Array.cells))=p.arrays.map Array.cells:=by rw [q8 (by simp),kf]
  have v:¬b=q:=by omega
  have w:¬b+1=q:=by omega
  simp [f,Q,P,v,w];refine ACalls.pure t fun C M=>?_;simp [f,m,aH,v,w];exact ⟨⟨rfl,rfl⟩,aA fun a d=>by rw [qv]; exact o a d⟩
def rT (l:List Inst) (t:Nat):Nat:=match l[t]? with | some a=>a.num | none=>0
def lE (l:List Inst) (t:Nat):ByteArray:=match l[t]? with | some a=>Step.name a.step | none=>⟨#[]⟩
def kD (l:List Inst) (b:List Bool) (i:Nat) (j:Nat):Bool:=(List.range i).any fun a=>decide (rT l a=j)&&b.getD a false
def fI (l:List Inst) (b:List Bool) (i:Nat) (n:ByteArray):Bool:=(List.range i).any fun a=>b.getD a false&&decide (lE l a=n)
def dropF (S:List (Wb.Step×List Wb.Step)) (K:List Bool) (i:Nat):List ByteArray:=((List.range i).filter fun j=>!K.getD j false).map fun j=>((S.map nm)[j]?).getD ⟨#[]⟩
def fu (p:Wb.Prog) (a:List ByteArray):List ByteArray:=(aX p.steps).filter fun n=>!fI (aB p).2.l (cI p.arrays (aB p).2.l a) (aB p).2.l.length n
theorem uY (S:List (Wb.Step×List Wb.Step)) (K:List Bool) (i:Nat):dropF S K (i+1)=dropF S K i++(if K.getD i false then [] else [((S.map nm)[i]?).getD ⟨#[]⟩]):=by
 unfold dropF;rw [EI,ti,sh];congr 1;cases a:K.getD i false
 ·simp only [EG,a]; rfl
 ·simp only [EG,a]; rfl
theorem sP {b:Type} {f g:b->Bool}:∀ {l:List b},(∀ x∈l,f x=g x)->l.any f=l.any g
 | [],_=>rfl
 | x::xs,a=>by rw [Ew,Ew,a x (by simp),sP fun d c=>a d (by simp [c])]
theorem vR (S:List (Wb.Step×List Wb.Step)) (K:List Bool) (i:Nat):(dropF S K i).length<=i:=by
 unfold dropF;rw [so];exact ts (vn _ _) (by simp)
theorem Az (p:Wb.Prog) (O:aR p=0) (l:∀ x∈(aB p).2.l,InstOk p.arrays (bn [] p.steps) x) (m:List ByteArray) (K:List Bool) (h:∀ j,j<(bn [] p.steps).length->K.getD j false=kD (aB p).2.l (cI p.arrays (aB p).2.l m) (aB p).2.l.length j) :
  dropF (bn [] p.steps) K (bn [] p.steps).length=fu p m:=by
 have q:=uw O;unfold fu dropF;rw [<-jl p.steps []];obtain ⟨b,C⟩:∃ b,b=bn [] p.steps:=⟨_,rfl⟩;obtain ⟨a,J⟩:∃ a,a=(aB p).2.l:=⟨_,rfl⟩;rw [<-C] at q l h ⊢;rw [<-J] at l h ⊢;obtain ⟨f,D⟩:∃ f,f=cI p.arrays a m:=⟨_,rfl⟩;rw [<-D] at h ⊢;have M:b.map nm=(List.range b.length).map fun j=>((b.map nm)[j]?).getD ⟨#[]⟩:=by
  refine zi (by simp) fun j g o=>?_
  simp at g;simp [g]
 have H:(b.map nm).filter (fun n=>!fI a f a.length n)=((List.range b.length).filter fun j=>!fI a f a.length (((b.map nm)[j]?).getD ⟨#[]⟩)).map fun j=>((b.map nm)[j]?).getD ⟨#[]⟩:=by
  conv=>lhs; rw [M]
  rw [List.filter_map]; rfl
 rw [H];congr 1;refine List.filter_congr fun j d=>?_;have d:=uc.1 d;rw [h j d];congr 1;unfold kD fI;refine sP fun c e=>?_;have e:=uc.1 e;have P:=l a[c] (u3 e);obtain ⟨Q,G,_⟩:=P.at_;obtain ⟨t,N⟩:=q4.1 G;have v:rT a c=a[c].num:=by unfold rT; rw [q3 e]
 have w:lE a c=Step.name a[c].step:=by unfold lE; rw [q3 e]
 have y:((b.map nm)[j]?).getD ⟨#[]⟩=nm b[j]:=by simp [d]
 have z:Step.name a[c].step=nm b[a[c].num]:=by rw [N]; rfl
 rw [v,w,y,z,Bool.and_comm];congr 1;by_cases k:a[c].num=j
 ·subst k; simp
 ·rw [decide_eq_false k,decide_eq_false];intro u;refine k ?_;have g:(b.map nm)[a[c].num]?=some (nm b[a[c].num]):=by simp [t]
  have o:(b.map nm)[j]?=some (nm b[a[c].num]):=by rw [u]; simp [d]
  exact (List.getElem?_inj (by simpa using t) q).1 (g.trans o.symm)
theorem _root_.Go.AM.ACalls.fzA {P:Program} {f:FuncId} {xs ys:List AV} {g sz z len:Nat} {es:List (List AV)} {s:St} {R:AV->St->Prop} (C:s.h g=some (.row sz es .live none)) (G:es.length=len)
  (h:ACalls P f (xs++.sl (aP es) false::ys) ⟨upd s.h g (some (.row sz es .frz none)),s.c⟩ R):ACalls P f (xs++.row g z 0 len::ys) s R:=by
 intro m O b y a;have D:xs.length<b.length:=by have:=a.1; simp at this; omega
 have J:Rep m (.row g z 0 len) b[xs.length]:=a.2 xs.length _ _ (by simp) (by simp)
 obtain ⟨p,l,K,M⟩:=pS (dj (z:=z) C G) J y;refine (h p O b K ⟨by have:=a.1; simp at this ⊢; omega,fun j q e c d=>?_⟩).mono fun e Q ⟨av,o,N,u,v,w,x⟩=>⟨av,o,N,l.trans u,v,w,x⟩
 by_cases t:j=xs.length
 ·subst t;simp at c;subst c;have:b[xs.length]=e:=by rw [q3 D] at d; exact ty d
  rw [<-this]; exact M
 ·refine (a.2 j q e ?_ d).mono l.le;rw [<-c];by_cases h:j<xs.length
  ·rw [sk h,sk h]
  ·rw [r1 (by omega),r1 (by omega)]
   obtain ⟨k,H⟩:∃ k,j-xs.length=k+1:=⟨j-xs.length-1,by omega⟩
   rw [H]; rfl
theorem zK (p:Wb.Prog) (di:aw p.steps<=300) (u:List ByteArray):aG Pg 42 [p.av,row (ak u)] (.tup [(if ce p u=0 then fw p (fu p u) else noProg).av,.int (if ce p u=0 then ((fu p u).length:Int) else 0),.int (ce p u)]):=by
 rintro ⟨bb,l⟩;have ca:=fun f k=>rX p di u f k;have c':=rZ p.arrays;have ch:=sd (fu p u) _ p.steps (q7 _) (by omega)
 simp only [Prog.av] at ca;refine Fn42.calls .frz ?_;unfold Fn42.ac;obtain ⟨J,ax⟩:∃ J,J=upd (upd bb l (some (.row 2 [[row (p.arrays.map Array.cells),row (p.steps.map Step.cells)]] .live none))) (l+1) (some (.row 2 [[AV.nil,AV.nil]] .live none)):=⟨_,rfl⟩;have c5:Fr l bb J (l+1+1):=by rw [ax]; exact ((Fr.refl _ _).upd (q5 _) (rv _)).upd (by omega) (rv _)
 have cx:J l=some (.row 2 [[row (p.arrays.map Array.cells),row (p.steps.map Step.cells)]] .live none):=by rw [ax,qv,ae]
 have c0:J (l+1)=some (.row 2 [[AV.nil,AV.nil]] .live none):=by rw [ax,ae]
 simp [Prog.av];rw [<-ax];refine (ca J (l+1+1)).mono ?_;rintro av ⟨C,d⟩ de ⟨al,Z⟩;simp only at de al Z;have b2:Fr l bb C d:=c5.trans al;have c1:=(al.h l (by omega)).trans cx
 have bN:=(al.h (l+1) (by omega)).trans c0
 by_cases M:ce p u=0
 case neg=>
  rw [if_neg M] at Z;subst Z;simp [M,bN,aH,noProg];exact b2.retH
 rw [if_pos M] at Z;obtain ⟨go,es,ez,ey,f1,cs,c3,rfl,D⟩:=Z;have d0:aV p=0:=by
  unfold ce at M;by_cases f:aV p=0
  ·exact f
  ·rw [if_neg f] at M; exact absurd M f
 obtain ⟨cq,f2,f3,f4⟩:=fB d0;have bj:=fE (ej cq);have bo:=Az p cq bj u;obtain ⟨K,c8⟩:∃ K,K=fu p u:=⟨_,rfl⟩;rw [<-c8] at bo ch ⊢;obtain ⟨m,Y⟩:∃ m,m=(aB p).2.l:=⟨_,rfl⟩;obtain ⟨o,bc⟩:∃ o,o=cI p.arrays m u:=⟨_,rfl⟩;have e6:o.length=m.length:=by rw [bc,fF]
 have fm:m.length<=200000:=by have:=kc p.arrays m; rw [Y] at this ⊢; omega
 obtain ⟨c,W⟩:∃ c,c=bn [] p.steps:=⟨_,rfl⟩;rw [<-W,<-Y,<-bc] at bo;rw [<-W,<-Y] at bj;have bl:=D.obj;have a4:=D.plo.hwhich.len;have bm:=D.plo.hstm.len;rw [<-Y] at a4 ⊢;rw [<-bc];rw [<-W] at bm;have e5:c.length<=300:=by
  have b1:=congrArg List.length (jl p.steps []);have C:=fk p.steps;rw [<-W] at b1; simp at b1; omega
 have bW:(an (m.map fun i=>(i.num:Int))).length=m.length:=by simp [an]
 have b0:(c.map stCells).length=c.length:=by simp
 rw [bW] at a4;rw [b0] at bm;have dv:msI 1 [.bool false] 1 (.int (c.length:Int)) (.int (c.length:Int)) ⟨C,d⟩=some (.row d 1 0 c.length,⟨upd C d (some (.row 1 (bz (List.replicate c.length false)) .live none)),d+1⟩):=by
  have T:bz (List.replicate c.length false)=List.replicate c.length [.bool false]:=by simp [bz]
  have y:(c.length:Int)<=68719476736:=by omega
  simp [msI,newRow,T];omega
 have cc:=D.plo.hwhich;have cb:=D.plo.hstm;have fn:∀ a,tG go es ez ey cs c3 a->a<d:=fun a h=>D.lt h;have b6:go<d:=D.plo.goc;have d4:=D.plo.wb;have d1:=D.plo.sb;rw [<-Y] at cc;rw [<-W] at cb;obtain ⟨ai,bf⟩:∃ ai,ai=upd C d (some (.row 1 (bz (List.replicate c.length false)) .live none)):=⟨_,rfl⟩;have cn:∀ a,a<d->ai a=C a:=fun a h=>by rw [bf,qv]
 have en:ai d=_:=(congrFun bf d).trans ae;have em:=(cn go b6).trans bl;simp [M,bl,a4,bm,dv];rw [<-bf];simp [em,a4];obtain ⟨H,t⟩:∃ H:Nat->List Inst->Slots->St->Prop,H=fun (i:Nat) r cp g=>∃ e:List Bool,e.length=c.length/\(∀ j,j<c.length->e.getD j false=kD m o i j)/\g.h d=some (.row 1 (bz e) .live none)/\(∀ a,a<d->g.h a=C a)/\d<g.c:=⟨_,rfl⟩;refine aZ 38 Fn42.W0 m H (by rfl) (by rfl) ?_ ?_ ?_
 ·rw [t];exact ⟨by simp,List.replicate c.length false,by simp,fun j bk=>by simp [kD,r9,bk],en,cn,q7 _⟩
 ·intro et g a2 v;rw [t] at v;obtain ⟨e,ag,bt,N,O,S⟩:=v;obtain ⟨f,k⟩:=g;simp only at N O S;have d3:=bo e bt;have c7:(bz e).length=c.length:=by rw [fL,ag]
  have ao:e.length=c.length:=ag;simp [a2,N,c7];obtain ⟨U,ar⟩:∃ U,U=upd f k (some (.row 1 [] .live none)):=⟨_,rfl⟩;have ef:∀ a,a<d->U a=C a:=fun a h=>by rw [ar,qv]; exact O a h
  have ea:U d=some (.row 1 (bz e) .live none):=by rw [ar,qv]; exact N
  have eo:U k=some (.row 1 [] .live none):=by rw [ar,ae]
  rw [<-ar];clear t H;obtain ⟨H,t⟩:∃ H:Nat->List Bool->Slots->St->Prop,H=fun (i:Nat) r cp g=>∃ q,cp 13=.row q 1 0 (dropF c e i).length/\d<q/\q<g.c/\g.h q=some (.row 1 (ak (dropF c e i)) .live none)/\g.h d=some (.row 1 (bz e) .live none)/\∀ a,a<d->g.h a=C a:=⟨_,rfl⟩;refine aZ 59 Fn42.W1 e H (by rfl) (by rfl) ?_ ?_ ?_
  ·rw [t]; exact ⟨by simp,k,by simp [dropF],S,q7 _,by simpa [dropF,ak] using eo,ea,ef⟩
  ·intro ex g a3 v;rw [t,ao,d3] at v;obtain ⟨q,y,cl,a5,G,P,z⟩:=v;obtain ⟨f,k⟩:=g;simp at y;simp only at a5 G P z;have a8:=(z l (by omega)).trans c1
   have c2:=(z (l+1) (by omega)).trans bN
   have b8:aP (List.take K.length (ak K))=ak K:=by rw [q8 (by simp [ak]),eE]
   have b9:K.length<=(ak K).length:=by simp [ak]
   simp [a3,ao,a8,y,G,b8,b9];refine ACalls.pure c' fun eW e9=>?_;simp [a8,y,G,b8,b9];refine ACalls.fzA (xs:=[_]) (ys:=[]) G (by simp [ak]) ?_
   rw [eE];refine ACalls.pure ch fun e0 e'=>?_;have eg:¬l=q:=by omega
   have el:¬l+1=q:=by omega
   simp [a8,c2,y,eg,el,aH];exact ⟨⟨rfl,rfl⟩,aA fun a h=>by rw [qv,z a (by omega)]; exact b2.h a h⟩
  ·intro i b bs ex g w b4 fd a3 v;rw [t] at v;obtain ⟨q,y,cl,a5,G,P,z⟩:=v;obtain ⟨f,k⟩:=g;simp at y;simp only at a5 G P z;have a0:i<c.length:=by omega
   have aa:=q0 (x:=(i:Int)+1)
   have b5:(bz e)[i]?=some [.bool b]:=by simp [bz,w,b4]
   have dl:=(z go b6).trans bl;obtain ⟨a9,Q,bx⟩:=cb.at (i:=i) (by simpa using a0)
   have dn:a9<d:=d1 a9 (by rw [Q]; exact aq.2 rfl)
   have a6:=(z a9 dn).trans bx;rw [b0] at Q;have dk:=vR c e i;have R:=uY c e i;have c6:e.getD i false=b:=by rw [r9,q3 w,b4]; rfl
   have dW:((c.map nm)[i]?).getD ⟨#[]⟩=nm c[i]:=by simp [a0]
   have d2:(stCells c[i])[1]?=some (.str (nm c[i])):=by
    obtain ⟨⟨kind,name,low,fa,e1,body,array,subs,⟨f0,fz,e4,e2,e3,eP⟩⟩,eM⟩:=c[i];simp [stCells,Step.cells_mk,nm,Step.name]
   rw [c6,dW] at R;obtain ⟨a7,c4⟩:∃ a7,a7=dropF c e i:=⟨_,rfl⟩;rw [<-c4] at y G R dk;subst Q;cases b
   ·have c9:=bE (sz:=1) (bytes:=16) (md:=.plain) (len:=a7.length) (x:=[.str (nm c[i])]) (b:=true) (s:=⟨f,k⟩) (by simp) G (by simp [ak]) (by decide) (by decide) (by decide) rfl (by omega)
    simp [a3,w,a0,P,b5,dl,a6,d2,y,bsI,az,c9,aa,ao];rw [t];refine ⟨k,by rw [R]; simp,by omega,q7 _,?_,?_,fun a h=>?_⟩
    ·show upd (upd f q none) k _ k=_;rw [ae,R]; simp [ak]
    ·show upd (upd f q none) k _ d=_;rw [qv,qv]; exact P
    ·show upd (upd f q none) k _ a=_;rw [qv,qv]; exact z a h
   ·simp [a3,w,a0,P,b5,aa,ao];rw [t];exact ⟨q,by rw [R]; simp [y],cl,a5,by rw [R]; simpa using G,P,z⟩
 ·intro i x xs et g w ab fb a2 v;rw [t] at v;obtain ⟨e,ag,bt,N,O,S⟩:=v;obtain ⟨f,k⟩:=g;simp only at N O S;have aa:=q0 (x:=(i:Int)+1)
  obtain ⟨a',Q,bx⟩:=cc.at (i:=i) (by simpa [an] using w)
  have dp:a'<d:=d4 a' (by rw [Q]; exact aq.2 rfl)
  have a6:=(O a' dp).trans bx;have b7:(an (m.map fun i=>(i.num:Int)))[i]?=some [.int (x.num:Int)]:=by simp [an,w,ab]
  rw [bW] at Q;have b3:=dA (o:=o) (i:=i) (by omega)
  have bi:i<o.length:=by omega
  have d':=bj x (by rw [<-ab]; exact u3 w)
  obtain ⟨fx,da,_⟩:=d'.at_;obtain ⟨dN,fs⟩:=q4.1 da;have a1:x.num<e.length:=by omega
  have am:=dA a1;have ds:∀ j,kD m o (i+1) j=(kD m o i j||(decide (x.num=j)&&o.getD i false)):=fun j=>by
   unfold kD;rw [EI,yy];simp [rT,w,ab]
  have ap:∀ b,b=(e.getD x.num false||o.getD i false)->∀ j,j<c.length->(e.set x.num b).getD j false=kD m o (i+1) j:=by
   intro b J j bk;rw [ds j,<-bt j bk];by_cases T:x.num=j
   ·subst T; subst J;simp [r9,a1]
   ·rw [decide_eq_false T];simp [r9,B0 T]
  subst Q;have b':x.num<c.length:=dN;cases h:e.getD x.num false
  ·rw [h] at am ap;simp [a2,w,ab,b',a6,b7,N,am,a1,b3,bi,aa,gU];rw [t];refine ⟨e.set x.num (o.getD i false),by simpa using ag,ap _ (by simp),?_,fun a h=>?_,S⟩
   ·show upd f d _ d=_;rw [ae]; simp [r9,bi]
   ·show upd f d _ a=_;rw [qv]; exact O a h
  ·rw [h] at am ap;simp [a2,w,ab,b',a6,b7,N,am,a1,b3,bi,aa,gU];rw [t];refine ⟨e.set x.num true,by simpa using ag,ap _ (by simp),?_,fun a h=>?_,S⟩
   ·show upd f d _ d=_;rw [ae]
   ·show upd f d _ a=_;rw [qv]; exact O a h
theorem uh (f:ByteArray->Bool) (a:List ByteArray) (i:Nat) (c:i<a.length):(a.take (i+1)).filter f=(a.take i).filter f++(if f a[i] then [a[i]] else []):=by
 rw [r7,q3 c,ti];cases b:f a[i] <;> simp [b]
theorem wQ (A:List Wb.Array) (i:Inst) (a:Nat):(cA A i a).all AV.cell=true:=by
 obtain ⟨l,⟨kind,name,low,h,c,body,array,subs,⟨m,k,g,d,f,b⟩⟩,e,o⟩:=i;unfold cA;simp only [Step.cells_mk];rfl
theorem zP (p:Wb.Prog) (cq:aw p.steps<=1000) (c1:ma p.steps) (b2:(aB p).2.l.length<=1000000) (c8:∀ i∈(aB p).2.l,(i.reads p.arrays).length<=4096) (x:AV) (c7:norm x=x) (G:List ByteArray) (y:Heap) (a:Nat) (M:UsesN y a p.arrays x (aB p).2.l) (a0:∀ k,au x k->k<a) :
  ACalls Pg 49 [p.av,x,row (ak G)] ⟨y,a⟩ fun av s'=>av=.tup [(fw p (fu p G)).av,.int ((fu p G).length:Int)]/\s'.h=y:=by
 have a9:=fun h d M=>sj p.arrays (aB p).2.l b2 c8 x G h d M;have b4:=qu _ p.steps (q7 _) (by omega)
 have a':=uz p cq c1 (fu p G);simp only [Prog.av] at a';obtain ⟨bj,bt⟩:∃ bj,bj=fu p G:=⟨_,rfl⟩;have H:=bt;unfold fu at H;rw [<-bt] at a' ⊢;obtain ⟨c,c5⟩:∃ c,c=(aB p).2.l:=⟨_,rfl⟩;rw [<-c5] at M b2 a9 H;obtain ⟨g,bx⟩:∃ g,g=cI p.arrays c G:=⟨_,rfl⟩;have dN:g.length=c.length:=by rw [bx,fF]
 rw [<-bx] at a9 H;obtain ⟨l,bo⟩:∃ l,l=aX p.steps:=⟨_,rfl⟩;rw [<-bo] at b4 H;refine Fn49.calls .frz ?_;unfold Fn49.ac;obtain ⟨v,ap⟩:∃ v,v=upd (upd y a (some (.row 2 [[row (p.arrays.map Array.cells),row (p.steps.map Step.cells)]] .live none))) (a+1) (some (.row 2 [[AV.nil,AV.nil]] .live none)):=⟨_,rfl⟩;have b9:v a=some (.row 2 [[row (p.arrays.map Array.cells),row (p.steps.map Step.cells)]] .live none):=by rw [ap,qv,ae]
 have b':v (a+1)=some (.row 2 [[AV.nil,AV.nil]] .live none):=by rw [ap,ae]
 have bk:∀ k,k<a->v k=y k:=fun k e=>by rw [ap,qv,qv]
 simp [Prog.av];rw [<-ap,c7];refine ACalls.at (a9 v (a+1+1) (M.frL a0 bk (by omega)) (fun k e=>by have:=a0 k e; omega)) fun ag dW=>?_
 obtain ⟨u,Y⟩:∃ u,u=upd v ag (some (.row 1 [] .live none)):=⟨_,rfl⟩;have bl:u a=some (.row 2 [[row (p.arrays.map Array.cells),row (p.steps.map Step.cells)]] .live none):=by rw [Y,qv]; exact b9
 have cb:u (a+1)=some (.row 2 [[AV.nil,AV.nil]] .live none):=by rw [Y,qv]; exact b'
 have ch:∀ k,k<a->u k=y k:=fun k e=>by rw [Y,qv]; exact bk k e
 have cc:u ag=some (.row 1 [] .live none):=by rw [Y,ae]
 simp;rw [<-Y];simp [bl];refine ACalls.pure b4 fun ca d0=>?_;have cn:(ak l).length=l.length:=by simp [ak]
 have c4:=fun s=>M.len s;obtain ⟨w,b1⟩:∃ w:ByteArray->Bool,w=fun n=>!fI c g c.length n:=⟨_,rfl⟩;rw [<-b1] at H;have dv:l.length<=1000:=by have:=fk p.steps; rw [bo]; omega
 simp [cn];obtain ⟨T,U⟩:∃ T:Nat->List ByteArray->Slots->St->Prop,T=fun (i:Nat) r bc s'=>∃ f,bc 9=.row f 1 0 ((l.take i).filter w).length/\a+1<f/\f<s'.c/\s'.h f=some (.row 1 (ak ((l.take i).filter w)) .live none)/\s'.h a=u a/\s'.h (a+1)=u (a+1)/\∀ k,k<a->s'.h k=y k:=⟨_,rfl⟩;refine aZ 22 Fn49.W0 l T (by rfl) (by rfl) ?_ ?_ ?_
 ·rw [U]; exact ⟨by simp,ag,by simp,by omega,by show ag<ca; omega,by simpa [ak] using cc,rfl,rfl,ch⟩
 ·intro de s' Z q;rw [U,r0,<-H] at q;obtain ⟨f,z,b6,bb,Q,R,S,aa⟩:=q;obtain ⟨h,d⟩:=s';simp at z;simp only at bb Q R aa S;rw [bl] at R;rw [cb] at S;have ea:¬a=f:=by omega
  have da:¬a+1=f:=by omega
  simp [Z,z,R];refine ACalls.fzA (xs:=[_]) (ys:=[]) Q (by simp [ak]) ?_
  rw [eE];refine ACalls.pure a' fun dp d1=>?_;simp [z,da,S];exact aA fun k e=>by rw [qv]; exact aa k e
 ·intro i n ef de s' a7 b3 d3 Z q;rw [U] at q;obtain ⟨f,z,b6,bb,Q,R,S,aa⟩:=q;obtain ⟨h,d⟩:=s';simp at z;simp only at bb Q R aa S;have b5:=q0 (x:=(i:Int)+1)
  have c3:(ak l)[i]?=some [.str n]:=by simp [ak,a7,b3]
  have K:=uh w l i a7;rw [b3] at K;have c2:((l.take i).filter w).length<=l.length:=ts (vn _ _) (by simp; omega)
  obtain ⟨ab,cl⟩:∃ ab,ab=(l.take i).filter w:=⟨_,rfl⟩;rw [<-cl] at z Q K c2;simp [Z,a7,c3,c4];obtain ⟨bi,al⟩:∃ T:Nat->List Inst->Slots->St->Prop,T=fun (k:Nat) r bc s'=>bc 12=.bool (fI c g k n)/\s'.h f=some (.row 1 (ak ab) .live none)/\s'.h a=u a/\s'.h (a+1)=u (a+1)/\(∀ k,k<a->s'.h k=y k)/\d<=s'.c:=⟨_,rfl⟩;refine aZ 28 Fn49.W1 c bi (by rfl) (by rfl) ?_ ?_ ?_
  ·rw [al]; exact ⟨by simp,by simp [fI],Q,R,S,aa,q5 _⟩
  ·intro di s' C q;rw [al] at q;obtain ⟨m,N,O,P,D,a1⟩:=q;obtain ⟨h,d⟩:=s';simp at m;simp only at N O P D a1;have J:w n=!fI c g c.length n:=by rw [b1]
   cases e:fI c g c.length n
   ·rw [e] at m J;have cp:=bE (sz:=1) (bytes:=16) (md:=.plain) (len:=ab.length) (x:=[.str n]) (b:=true) (s:=⟨h,d⟩) (by simp) N (by simp [ak]) (by decide) (by decide) (by decide) rfl (by omega)
    simp [C,m,z,bsI,az,cp,Z,b5];rw [U];refine ⟨d,by rw [K,J]; simp,by omega,q7 _,?_,?_,?_,fun k e=>?_⟩
    ·show upd (upd h f none) d _ d=_;rw [ae,K,J]; simp [ak]
    ·show upd (upd h f none) d _ a=_;rw [qv,qv]; exact O
    ·show upd (upd h f none) d _ (a+1)=_;rw [qv,qv]; exact P
    ·show upd (upd h f none) d _ k=_;rw [qv,qv]; exact D k e
   ·rw [e] at m J;simp [C,m,Z,b5];rw [U];exact ⟨f,by rw [K,J]; simp [z],b6,by show f<d; omega,by rw [K,J]; simpa using N,O,P,D⟩
  ·intro k el ys di s' e d' d4 C q;rw [al] at q;obtain ⟨m,N,O,P,D,a1⟩:=q;obtain ⟨h,d⟩:=s';simp at m;simp only at N O P D a1;have ax:=q0 (x:=(k:Int)+1)
   have c9:UsesN h d p.arrays x c:=M.frL a0 D (by omega)
   obtain ⟨ds,a4,a3,b7,dk,b8⟩:=c9.at e;obtain ⟨em,en,eo,dl,dn,es⟩:=qM p.arrays c[k] a3;have d2:a4<a:=a0 a4 (by rw [b7]; exact aq.2 rfl)
   have W:=dA (o:=g) (i:=k) (by omega)
   have a8:k<g.length:=by omega
   have t:fI c g (k+1) n=(fI c g k n||(g.getD k false&&decide (lE c k=n))):=by
    unfold fI;rw [EI,yy];simp
   have c6:lE c k=Step.name c[k].step:=by unfold lE; rw [q3 e]
   rw [c6] at t;subst b7;obtain ⟨o,am⟩:∃ o,o=cA p.arrays c[k] a3:=⟨_,rfl⟩;have b0:o[0]?=some (.str (Step.name c[k].step)):=by rw [am]; exact dl
   have cx:o.length=22:=by rw [am]; exact dn
   have c0:List.take 22 o=o:=q8 (by omega)
   have cs:List.drop 22 o=[]:=u2 (by omega)
   rw [<-am] at b8;have eg:¬a4=d:=by omega
   have bW:∀ x∈o,AV.cell x=true:=by rw [am]; exact rx.1 (wQ p.arrays c[k] a3)
   unfold AV.cell at bW;simp [C,e,dk,b8,c0,cx,cs];rw [if_pos bW];have a5:upd h d (some (.row 22 [o] .live none)) d=some (.row 22 [o] .live none):=ae;obtain ⟨ai,a6⟩:∃ ai,ai=upd h d (some (.row 22 [o] .live none)):=⟨_,rfl⟩;rw [<-a6] at a5;have a2:∀ k,k<d->ai k=h k:=fun k e=>by rw [a6,qv]
   rw [<-a6];have ao:∀ b bf,b=fI c g (k+1) n->bf 12=.bool b->bi (k+1) ys bf ⟨ai,d+1⟩:=fun b bf v c'=>by
    rw [al];exact ⟨by rw [c',v],(a2 f (by omega)).trans N,(a2 a (by omega)).trans O,(a2 _ (by omega)).trans P,fun k e=>(a2 k (by omega)).trans (D k e),ts a1 (rv _)⟩
   cases bm:fI c g k n
   ·rw [bm] at m t;cases bN:g.getD k false
    ·rw [bN] at W t;simp [m,W,a8,C,ax];exact ao _ _ t.symm (by simp)
    ·rw [bN] at W t;by_cases ar:Step.name c[k].step=n
     ·rw [decide_eq_true ar] at t;simp [m,W,a8,C,ax,a5,b0,ar];exact ao _ _ t.symm (by simp)
     ·rw [decide_eq_false ar] at t;simp [m,W,a8,C,ax,a5,b0,ar];exact ao _ _ t.symm (by simp)
   ·rw [bm] at m t;simp [m,C,ax];exact ao _ _ t.symm (by simp)
def cL:Code->Code | .seq a _=>a | c=>c
def cR:Code->Code | .seq _ b=>b | c=>c
def cB:Code->Code | .block _ c=>c | .loop c=>c | c=>c
def rfA:Code->Code | .rangeFunc _ _ a _=>a | c=>c
def rfB:Code->Code | .rangeFunc _ _ _ b=>b | c=>c
def AP:Op->Call | .call c=>c | _=>{ callee:=.value (.tmp 0),args:=#[],argTypes:=#[] }
def l7:Code->Array Oper | .region _ a _=>a | _=>#[]
theorem fD {P:Program} {n nF:Nat} {md:Tmp->Md} {d:Array Oper} {cs:List AO} {id:Nat} (f:d.toList.mapM (cD P n md d)=some cs) {K:Slots->St->Prop} {sl:Slots} {s:St} {G:Gh} {w:World} {a:Act} {e:Exit->Act->World->Prop}
  (l:aQ P cs K sl s) (k:Sim G s w) (o:RepSl G sl a) (m:n<=a.tmps.size)
  (h:∀ g s' c b w',K g s'->Stp G s w c s' w'->Sim c s' w'->RepSl c g b->b.tmps.size=a.tmps.size->b.defers=a.defers->e .normal b w'):(Code.region id d false).wpIn Fence.wide nF P e a w:=
 wpIn_wide.2 (wp_region_list (oe (jZ f) _ _ f l k o m h))
theorem wH {G:Gh} {l:Nat} {v:Value} (h:Rep G (.fn (.yield l) [] []) v):v=.func (.yield l) #[] #[]:=by
 cases h with
 | fn _ _ _ a b e f _ _=>
  have c:a=#[]:=by apply sp; simpa using e.symm
  have d:b=#[]:=by apply sp; simpa using f.symm
  rw [c,d]
theorem ut {G:Gh} {b:Bool} {v:Value} (h:Rep G (.bool b) v):v=.bool b:=by
 cases h; rfl
theorem nf {G:Gh} {sl:Slots} {a:Act} (h:RepSl G sl a) {t:Nat} {b:Bool} (c:sl t=.bool b):a.eval (.tmp t)=.bool b:=by
 have:=h t;rw [c] at this;exact ut this
def bZ (m:List (Wb.Spot×Bool)) (i:Nat):AV:=match m[i]? with
 | some a=>aM a.1
 | none=>.undef
def okK (m:List (Wb.Spot×Bool)) (pre:List AV) (x:AV):Prop:=(∃ a∈m,x=aM a.1)/\pre.length<m.length
theorem Ak:∃ (d e f a:Array Oper) (p l:List Oper) (b:Oper) (c:Call),
  Tryz.f194.body=some (.seq (.region 0 d false) (.block 0 (.loop (.seq (.region 1 e false) (.seq (.cond (.tmp 7) .skip (.exit 0)) (.block 1 (.seq (.region 2 f false) (.seq (.region 3 a false) (.cond (.tmp 13) .ret .skip))))))))) /\
  d.toList.mapM (cD Pg Tryz.f194.ntmps Pmd d)=some [Ol 4 1,Oo 5 (.rg (.t 4))] /\
  e.toList.mapM (cD Pg Tryz.f194.ntmps Pmd e)=some [Oo 6 (.nx (.t 5)),Oo 7 (.ex (.t 6) 0)] /\
  f.toList.mapM (cD Pg Tryz.f194.ntmps Pmd f)=some [Oo 8 (.nt (.t 5)),Oo 9 (.ex (.t 8) 0),Oo 3 (.al [.str ⟨#[]⟩,.int 0]),Ow (.st 2 (.t 3) (.t 9))] /\
  a.toList=p++b::l /\
  p.mapM (cD Pg Tryz.f194.ntmps Pmd a)=some [Om 10 0,Oo 11 (.ld (some 2) (.t 3))] /\
  l.mapM (cD Pg Tryz.f194.ntmps Pmd a)=some [Oo 13 (.un .not (.t 12))] /\
  (∀ (j:Nat) o t,a[j]?=some o->o.dst=some t->t<Tryz.f194.ntmps) /\
  b.op=.call c/\c.callee=.value (.tmp 10)/\c.args=#[.tmp 11]/\b.dst=some 12/\b.guard=none:=by
 let h:=(Tryz.f194.body).getD .skip;let k:=cB (cB (cR h));let g:=cB (cR (cR k));let a:=l7 (cL (cR g));let b:=(a.toList.drop 2).headD default;let m:Call:=AP b.op;refine ⟨l7 (cL h),l7 (cL k),l7 (cL g),a,a.toList.take 2,a.toList.drop 3,b,m,by kernel_rfl,by kernel_rfl,by kernel_rfl,by kernel_rfl,by kernel_rfl,by kernel_rfl,by kernel_rfl,?_,by kernel_rfl,by kernel_rfl,by kernel_rfl,by kernel_rfl,by kernel_rfl⟩
 have q:a.toList.mapM (cD Pg Tryz.f194.ntmps Pmd a)=some [Om 10 0,Oo 11 (.ld (some 2) (.t 3)),Oo 12 (.callv (.t 10) [(.t 11)]),Oo 13 (.un .not (.t 12))]:=by kernel_rfl
 exact jZ q
theorem BU:yH Pg Tryz.f194.results=some []:=by kernel_rfl
theorem wt (m:List (Wb.Spot×Bool)) (g ver bb l:Nat) (Y:Loop) {b7:Gh} {J:List AV->(Nat->Prop)->St->Prop} (K:YieldOk Pg b7 l Y (okK m) J) {G:Gh} {s:St} {w:World} {D:Nat->Prop} {a8:Value}
  (cp:J [] D s) (M:s.h bb=some (.row 1 [[.map g]] .live none)) (T:s.h g=some (.map (kvs aM AV.bool m) ver)) (e2:¬D g) (bi:Sim G s w) (f3:b7.Le G) (gc:Rep G (.ptr bb 0 0) a8) (fs:w.heap[l]?=some (.loop Y)) :
  CallsIn Fence.wide 0 Pg 194 #[.func (.yield l) #[] #[],a8] w fun e w'=>(∃ v,e=.returned v)/\w'.heap[l]?=some (.loop Y)/\∃ (S:Gh) (s':St) (R:Nat->Prop) (L:List Nat),Stp G s w S s' w'/\Sim S s' w'/\L.Nodup/\(∀ i,i<m.length->i∈L)/\(∀ i∈L,i<m.length)/\J (L.map (bZ m)) R s'/\(∀ k,R k->D k\/(s.c<=k/\k<s'.c))/\∀ k,k<s.c->¬D k->s'.h k=s.h k:=by
 obtain ⟨hz,bx,bN,bW,gW,g0,hA,hy,g2,gv,gw,gx,g1,gy,gN,dn,gm,gn,gp,gr,gs⟩:=Ak;refine callsIn_of_wp Tryz.func194 g2 trivial ?_;obtain ⟨t,cq⟩:∃ t:Ending->World->Prop,t=fun e w'=>(∃ v,e=.returned v)/\w'.heap[l]?=some (.loop Y)/\∃ (S:Gh) (s':St) (R:Nat->Prop) (L:List Nat),Stp G s w S s' w'/\Sim S s' w'/\L.Nodup/\(∀ i,i<m.length->i∈L)/\(∀ i∈L,i<m.length)/\J (L.map (bZ m)) R s'/\(∀ k,R k->D k\/(s.c<=k/\k<s'.c))/\∀ k,k<s.c->¬D k->s'.h k=s.h k:=⟨_,rfl⟩;rw [<-cq];have gg:Rep G (.fn (.yield l) [] []) (.func (.yield l) #[] #[]):=.fn _ [] [] #[] #[] rfl rfl (fun j u v b=>by simp at b) (fun j u v b=>by simp at b)
 have f':RepSl G (jp [.fn (.yield l) [] [],.ptr bb 0 0]) { tmps:=#[.func (.yield l) #[] #[],a8]++Array.replicate (Tryz.f194.ntmps-2) undef,defers:=[] }:=by
  intro a7
  match a7 with
  | 0=>exact gg
  | 1=>exact gc
  | a7+2=>exact .undef _
 have fa:g<s.c:=bi.hLt T;have de:Tryz.f194.ntmps<=(#[Value.func (.yield l) #[] #[],a8]++Array.replicate (Tryz.f194.ntmps-2) undef).size:=by simp
 refine wpIn_seq (fD gv (K:=fun a5 c=>a5 0=.fn (.yield l) [] []/\a5 5=.ptr s.c 0 0/\c=⟨upd s.h s.c (some (.iter g ver [])),s.c+1⟩) ?_ bi f' de ?_)
 ·obtain ⟨b,u⟩:=s;simp only at M T;simp [jp,M,rgI,T]
 intro a5 c H eo C ⟨b1,b2,f7⟩ d3 g9 g' ha hb;show (Code.block 0 _).wpIn _ _ _ _ _ _;refine wpIn_block ?_;obtain ⟨d,ao⟩:∃ d,d=s.c:=⟨_,rfl⟩;obtain ⟨Q,bc⟩:∃ Q:Nat->Prop,Q=fun k=>∀ (L:List Nat) (q:Nat->Prop) (a4:Slots) (c:St) (H:Gh) (a:Act) (C:World),m.length-L.length=k->a4 0=.fn (.yield l) [] []->a4 5=.ptr d 0 0->c.h d=some (.iter g ver L)->c.h g=some (.map (kvs aM AV.bool m) ver)->¬q d->¬q g->J (L.map (bZ m)) q c->L.Nodup->(∀ i∈L,i<m.length) ->
   Stp G s w H c C->Sim H c C->RepSl H a4 a->Tryz.f194.ntmps<=a.tmps.size->a.defers=[]->C.heap[l]?=some (.loop Y)->(∀ k,q k->D k\/(s.c<=k/\k<c.c))->(∀ k,k<s.c->¬D k->c.h k=s.h k) ->
   Code.roundsIn Fence.wide 0 Pg (.seq (.region 1 bx false) (.seq (.cond (.tmp 7) .skip (.exit 0)) (.block 1 (.seq (.region 2 bN false) (.seq (.region 3 bW false) (.cond (.tmp 13) .ret .skip)))))) (Exit.inBlock 0 (bodyPost Pg Tryz.f194 t)) (k+1) a C:=⟨_,rfl⟩
 have d2:∀ k,(∀ W,k=W+1->Q W)->Q k:=by
  intro k bt;rw [bc];intro L q a4 c H a C f d4 b4 ap y bf cn ai a0 ax bj al ga c9 c3 fx bk c7;rw [roundsIn_succ];have hw:=al.hLt ap;have fb:=al.hLt y;refine wpIn_seq (fD gw (K:=fun aa p=>aa 0=.fn (.yield l) [] []/\aa 5=.ptr d 0 0/\((aa 7=.bool false/\p=c/\∀ i,i<m.length->i∈L)\/∃ i o,m[i]?=some o/\i∉L/\aa 7=.bool true/\p=⟨upd c.h d (some (.iter g ver (L++[i]))),c.c⟩)) ?_ al ga c9 ?_)
  ·obtain ⟨hr,ho⟩:=c;simp only at ap y;simp [b4];show nxW _ _ _;simp only [nxW,ap,y];refine ⟨trivial,fun am=>?_,fun i o a1 U=>?_⟩
   ·have fm:(kvs aM AV.bool m).length=m.length:=by simp [kvs]
    rw [fm] at am;simp [d4,b4];exact am
   ·unfold kvs at a1;rw [rb] at a1;cases x:m[i]? with
    | none=>rw [x] at a1; cases a1
    | some dN=>
     simp [d4,b4];refine ⟨i,?_,U,rfl⟩;obtain ⟨d1,b'⟩:=dN;cases b'
     ·exact ⟨d1,.inl x⟩
     ·exact ⟨d1,.inr x⟩
  intro aa p el b8 hc ⟨b1,b2,e6⟩ ds a2 a3 g3 dv;have c8:=ds.obj al fx trivial;have cs:=bj.trans ds;rcases e6 with ⟨b3,z,am⟩ | ⟨i,o,x,U,b3,z⟩
  ·refine wpIn_seq (wpIn_cond_false (nf a3 b3) (wpIn_exit ?_));show bodyPost Pg Tryz.f194 t .normal b8 hc;subst z;obtain ⟨v,g4,dN⟩:=uO (P:=Pg) (av:=.tup []) a2 a3 BU rfl;refine ⟨by rw [dv,c3],v,g4,?_⟩
   rw [cq];exact ⟨⟨v,rfl⟩,c8,el,p,q,L,cs,a2,a0,am,ax,ai,bk,c7⟩
  ·refine wpIn_seq (wpIn_cond_true (nf a3 b3) (wpIn_skip ?_));show (Code.block 1 _).wpIn _ _ _ _ _ _;refine wpIn_block ?_;have bl:i<m.length:=(q4.1 x).1;have a':p.h d=some (.iter g ver (L++[i])):=by rw [z]; exact ae
   have cc:g≠d:=fun e=>by rw [e,ap] at y; cases y
   have dp:p.h g=some (.map (kvs aM AV.bool m) ver):=by rw [z]; show upd c.h d _ g=_; rw [ad cc]; exact y
   have ca:p.c=c.c:=by rw [z]
   have fn:(kvs aM AV.bool m)[i]?=some (aM o.1,.bool o.2):=by unfold kvs; rw [rb,x]; rfl
   have c':Tryz.f194.ntmps<=b8.tmps.size:=by rw [g3]; exact c9
   refine wpIn_seq (fD gx (K:=fun a6 O=>a6 0=.fn (.yield l) [] []/\a6 5=.ptr d 0 0/\a6 3=.ptr c.c 0 0/\O=⟨upd p.h c.c (some (.row 2 [Spot.cells o.1] .live none)),c.c+1⟩) ?_ a2 a3 c' ?_)
   ·obtain ⟨e0,hp⟩:=p;simp only at a' dp ca;subst ca;have f4:ntI (.ptr d 0 0) ⟨e0,c.c⟩=some (.tup [aM o.1,.bool o.2]):=by simp [ntI,a',dp,fn]
    simp [b1,b2,f4,aM,Spot.cells]
   intro a6 O hm es hB ⟨he,hg,hf,N⟩ dW d0 g5 g6 g7;have fz:=dW.obj a2 c8 trivial;have e4:=cs.trans dW;have da:Tryz.f194.ntmps<=es.tmps.size:=by rw [g6]; exact c'
   have e3:J (L.map (bZ m)) q O:=by
    refine K.frame ai (fun k f=>?_) (by rw [N]; exact rv _)
    have hx:=K.lt ai k f;rw [N];show upd p.h c.c _ k=_;rw [qv,z]
    show upd c.h d _ k=_;rw [ad];intro e; rw [e] at f; exact bf f
   have f5:okK m (L.map (bZ m)) (aM o.1):=by
    refine ⟨⟨o,r8 x,rfl⟩,?_⟩;rw [so];have:=eN m.length (i::L) (y0.2 ⟨U,a0⟩) (fun j h=>by rcases se.1 h with rfl | h; exact bl; exact ax j h)
    simp at this; omega
   refine wpIn_seq (wpIn_region_list ?_);rw [g1];refine iV (F:=Fence.wide) (fun _=>trivial) dn gW _ gy rfl (K:=fun P b0=>P 0=.fn (.yield l) [] []/\P 5=.ptr d 0 0/\P 10=.fn (.yield l) [] []/\P 11=aM o.1/\b0=O) ?_ d0 g5 da ?_
   ·have c1:O.h c.c=some (.row 2 [Spot.cells o.1] .live none):=by rw [N]; exact ae
    obtain ⟨ht,hq⟩:=O;simp only at c1;simp [he,hg,hf,c1,Spot.cells,aM]
   intro P b0 hn ag hC ⟨hi,hl,hj,hk,f8⟩ cb ex a9 ey ez;have f0:=cb.obj d0 fz trivial;have cx:=e4.trans cb;subst f8;have di:=a9 10;rw [hj] at di;have gf:=wH di;have ge:ag.eval (.tmp 10)=.func (.yield l) #[] #[]:=by
    exact gf
   have f6:=K.round e3 f5 ex (f3.trans cx.le) (by rw [<-hk]; exact a9 11) f0
   refine sU gm gn gp gr gs ge rfl f6 ?_;rintro e hd ⟨rfl,f1,em,g8,b5,ea,eg,hh,b6,ef⟩;refine ⟨rfl,?_⟩;have c0:=cx.trans b5;have bm:Tryz.f194.ntmps<=ag.tmps.size:=by rw [ey]; exact da
   have hs:14<=Tryz.f194.ntmps:=by decide
   have gb:RepSl em (put P (some 12) (.bool true)) (ag.put (some 12) (.bool true)):=d8 (a9.mono b5.le) (fun a7 bo=>by
    have e:a7=12:=by injection bo with bo; exact bo.symm
    rw [e]; exact ro (by decide) bm) (.sc _ rfl)
   have c4:=iV (F:=Fence.wide) (nF:=0) (fun _=>trivial) dn (rest:=[]) g0 _ gN rfl (K:=fun ab Z=>ab 0=.fn (.yield l) [] []/\ab 5=.ptr d 0 0/\ab 13=.bool false/\Z=g8) (Q:=Exit.then ((Code.cond (.tmp 13) .ret .skip).wpIn Fence.wide 0 Pg (Exit.inBlock 1 (Exit.then (Code.roundsIn Fence.wide 0 Pg (.seq (.region 1 bx false) (.seq (.cond (.tmp 7) .skip (.exit 0)) (.block 1 (.seq (.region 2 bN false) (.seq (.region 3 bW false) (.cond (.tmp 13) .ret .skip)))))) (Exit.inBlock 0 (bodyPost Pg Tryz.f194 t)) k) (Exit.inBlock 0 (bodyPost Pg Tryz.f194 t))))) (Exit.inBlock 1 (Exit.then (Code.roundsIn Fence.wide 0 Pg (.seq (.region 1 bx false) (.seq (.cond (.tmp 7) .skip (.exit 0)) (.block 1 (.seq (.region 2 bN false) (.seq (.region 3 bW false) (.cond (.tmp 13) .ret .skip)))))) (Exit.inBlock 0 (bodyPost Pg Tryz.f194 t)) k) (Exit.inBlock 0 (bodyPost Pg Tryz.f194 t))))) (a:=ag.put (some 12) (.bool true)) (w:=hd) ?_ ea gb (by rw [cT]; exact bm) ?_
   ·rw [xg] at c4; exact c4
   ·simp [hi,hl]
   ·intro ab Z en b9 d' ⟨eM,eW,eP,f9⟩ dk gi dl gk gl;subst f9;refine wpIn_cond_false (nf dl eP) (wpIn_skip ?_);show Code.roundsIn Fence.wide 0 Pg _ _ k b9 d';have f2:=dk.obj ea f1 trivial;have c5:k=(k-1)+1:=by
     have:=eN m.length (i::L) (y0.2 ⟨U,a0⟩) (fun j h=>by rcases se.1 h with rfl | h; exact bl; exact ax j h)
     simp at this; omega
    have c2:=bt _ c5;rw [bc] at c2;rw [c5];have hv:b0.c=c.c+1:=by rw [N]
    have e1:∀ k,q k->k<c.c:=fun k f=>K.lt ai k f;have c6:∀ k,k<c.c->¬q k->k≠d->Z.h k=c.h k:=fun k f ar fd=>by
     rw [ef k (by omega) ar,N]
     show upd p.h c.c _ k=_;rw [qv,z]
     show upd c.h d _ k=_;rw [ad fd]
    have e':Z.h d=some (.iter g ver (L++[i])):=by
     rw [ef d (by omega) bf,N]
     show upd p.h c.c _ d=_;rw [qv]; exact a'
    refine c2 (L++[i]) eg ab Z en b9 d' (by simp; omega) eM eW e' ((c6 g fb cn cc).trans y) (fun b=>?_) (fun b=>?_) ?_ ?_ ?_ (c0.trans dk) gi dl (by rw [gk,cT]; exact bm) (by rw [gl,d5,ez,g7,dv,c3]) f2 ?_ ?_
    ·rcases b6 d b with b | b
     ·exact bf b
     ·omega
    ·rcases b6 g b with b | b
     ·exact cn b
     ·omega
    ·have e:bZ m i=aM o.1:=by unfold bZ; rw [x]
     rw [sh,List.map_singleton,e]; exact hh
    ·rw [va];exact ⟨a0,by simp,fun a e5 b' M e=>by simp at M; subst M; subst e; exact U e5⟩
    ·intro j h;rcases rd.1 h with h | h
     ·exact ax j h
     ·simp at h; rw [h]; exact bl
    ·intro k f;rcases b6 k f with b | b
     ·rcases bk k b with b | b
      ·exact .inl b
      ·have:=e1 k ‹_›; exact .inr (by have:=c0.c; have:=b5.c; omega)
     ·exact .inr (by have:=bj.c; omega)
    ·intro k f ar;have hu:=bj.c;rw [c6 k (by omega) ?_ (by omega)]
     ·exact c7 k f ar
     ·intro b;rcases bk k b with b | b
      ·exact ar b
      ·omega
 have et:∀ k,Q k:=fun k=>by
  induction k with
  | zero=>exact d2 0 (fun W b=>by omega)
  | succ k bt=>
   refine d2 (k+1) fun W b=>?_;have e:W=k:=by omega
   rw [e]; exact bt
 refine wpIn_loop_rounds (m.length+1) ?_;have ch:=et m.length;rw [bc] at ch;obtain ⟨b,u⟩:=s;simp only at ao M T fa;subst f7;have cl:¬D u:=fun e9=>by have:=K.lt cp _ e9; simp only at this; omega
 exact ch [] D a5 _ H eo C (by simp) b1 (by rw [b2,ao]) (by rw [ao]; exact ae) (by show upd b u _ g=_; rw [qv]; exact T) (by rw [ao]; exact cl) e2 (K.frame cp (fun k f=>by show upd b u _ k=_; rw [ad]; intro e; rw [e] at f; exact cl f) (rv _)) List.nodup_nil (by simp) d3 g9 g' (by rw [ha]; exact de) hb (d3.obj bi fs trivial) (fun k f=>.inl f) (fun k f _=>by have f:k<u:=f; show upd b u _ k=_; rw [qv])
theorem _root_.Go.AM.Stp.grow {G:Gh} {s:St} {w w':World} (f:Sim G s w) (d:∀ b,b<w.heap.size->w'.heap[b]?=w.heap[b]?) (e:w.heap.size<=w'.heap.size) (c:w'.os=w.os/\w'.tape=w.tape/\w'.output=w.output):Stp G s w G s w':=
 ⟨.refl G,q5 _,c.1,c.2.1,c.2.2,e,fun b a _=>d b a,fun b _ a=>a⟩
theorem _root_.Go.AM.Stp.off {G g:Gh} {s s':St} {w a c:World} {l:Nat} (h:Stp G s w g s' a) (o:w.heap.size<=l) (k:∀ b,b≠l->c.heap[b]?=a.heap[b]?) (m:c.heap.size=a.heap.size) (f:c.os=a.os/\c.tape=a.tape/\c.output=a.output):Stp G s w g s' c:=
 ⟨h.le,h.c,f.1.trans h.os,f.2.1.trans h.tape,f.2.2.trans h.output,by rw [m]; exact h.size,fun b d e=>(k b (by omega)).trans (h.keep b d e),fun b d e=>h.own b d e⟩
theorem zZ:∃ (b c d e f:Array Oper),
  Tryz.f272.body=some (.seq (.region 0 b false) (.seq (.seq (.region 1 c false) (.block 0 (.rangeFunc (.tmp 6) #[7] (.region 2 d false) (.block 1 (.region 3 e false))))) (.seq (.region 4 f false) .ret))) /\
  b.toList.mapM (cD Pg Tryz.f272.ntmps Pmd b)=some [Oo 2 (.bx (.t 0) 1),Oc 4 (.nil)] /\
  c.toList.mapM (cD Pg Tryz.f272.ntmps Pmd c)=some [Om 6 1] /\
  d.toList.mapM (cD Pg Tryz.f272.ntmps Pmd d)=some [Oo 5 (.al [.str ⟨#[]⟩,.int 0]),Ow (.st 2 (.t 5) (.t 7))] /\
  e.toList.mapM (cD Pg Tryz.f272.ntmps Pmd e)=some [Ol 8 2,Oo 9 (.ld (some 2) (.t 5)),Oo 10 (.bs 2 [.str ⟨#[]⟩,.int 0] 1 [(0,.t 9)]),Oo 11 (.ap 2 24 (.t 8) (.t 10)),Ow (.st 1 (.t 2) (.t 11))] /\
  f.toList.mapM (cD Pg Tryz.f272.ntmps Pmd f)=some [Ol 12 2,Om 4 12]:=by
 let a:=(Tryz.f272.body).getD .skip;let h:=cL (cR a);let g:=cB (cR h);refine ⟨l7 (cL a),l7 (cL h),l7 (rfA g),l7 (cB (rfB g)),l7 (cL (cR (cR a))),by kernel_rfl,by kernel_rfl,by kernel_rfl,by kernel_rfl,by kernel_rfl,by kernel_rfl⟩
theorem Br:Tryz.f272.results=#[.tmp 4]:=by kernel_rfl
def ApJ (b:Nat) (pre:List AV) (D:Nat->Prop) (s:St):Prop:=
 ∃ c,s.h b=some (.row 1 [[c]] .live none)/\RowAt s.h 2 c (pre.map AV.cells)/\(∀ e∈pre,∃ d:Wb.Spot,e=aM d)/\(∀ a,D a↔a=b\/au c a)/\(∀ a,au c a->a≠b/\a<s.c/\b<a)/\b<s.c
theorem ApJ.frame {b:Nat} {pre:List AV} {D:Nat->Prop} {s s':St} (j:ApJ b pre D s) (f:∀ k,D k->s'.h k=s.h k) (e:s.c<=s'.c):ApJ b pre D s':=by
 obtain ⟨o,g,h,l,c,d,m⟩:=j;exact ⟨o,(f b ((c b).2 (.inl rfl))).trans g,h.frame fun k a=>f k ((c k).2 (.inr a)),l,c,fun k a=>⟨(d k a).1,ro (d k a).2.1 e,(d k a).2.2⟩,ro m e⟩
theorem yC {a:Nat} {pre:List AV} {D:Nat->Prop} {sl:Slots} {s:St} {g:Wb.Spot} (x:sl 2=.ptr a 0 0) (j:ApJ a pre D s) (S:pre.length+1<=68719476736) :
  aQ Pg [Oo 5 (.al [.str ⟨#[]⟩,.int 0]),Ow (.st 2 (.t 5) (.t 7))] (fun Y s1=>aQ Pg [Ol 8 2,Oo 9 (.ld (some 2) (.t 5)),Oo 10 (.bs 2 [.str ⟨#[]⟩,.int 0] 1 [(0,.t 9)]),Oo 11 (.ap 2 24 (.t 8) (.t 10)),Ow (.st 1 (.t 2) (.t 11))]
   (fun _ p=>∃ u,ApJ a (pre++[aM g]) u p/\(∀ k,u k->D k\/(s.c<=k/\k<p.c))/\∀ k,k<s.c->¬D k->p.h k=s.h k) Y s1) (put sl (some 7) (aM g)) s:=by
 obtain ⟨q,K,M,N,o,l,O⟩:=j;obtain ⟨w,c⟩:=s;simp only at K M l O;obtain ⟨f,h⟩:∃ f,f=upd w c (some (.row 2 [Spot.cells g] .live none)):=⟨_,rfl⟩;have m:∀ k,k<c->f k=w k:=fun k b=>by rw [h,qv]
 have G:f c=_:=(congrFun h c).trans ae;have v:=(m a O).trans K;have U:RowAt f 2 q (pre.map AV.cells):=M.frame fun k b=>m k (l k b).2.1;obtain ⟨y,z,Q,Z,C⟩:=U.push (c:=c+1) (bytes:=24) (md:=.plain) (b:=true) (e:=Spot.cells g) (by decide) (by decide) (by decide) (by decide) rfl (fun e R=>by obtain ⟨t,d,rfl⟩:=rf.1 R; obtain ⟨aa,rfl⟩:=N t d; rfl) (by simpa using S) (fun k b=>by have:=(l k b).2.1; omega)
 have W:¬au q a:=fun T=>(l a T).1 rfl;have P:=(C a (by omega) W).trans v
 simp only [Spot.cells] at z h G;simp [x,aM,Spot.cells];rw [<-h];simp [v,G,bsI,az,z,x,P];refine ⟨fun k=>k=a\/k=c+1,⟨.row (c+1) 2 0 (pre.length+1),ae,.inr ⟨c+1,by simp,?_⟩,?_,fun k=>by rw [aq],fun k b=>?_,by show a<c+1+1; omega⟩,?_,?_⟩
 ·show upd y a _ (c+1)=_;rw [qv,Q]; simp [AV.cells]; rfl
 ·intro t d;rcases rd.1 d with d | d
  ·exact N t d
  ·exact ⟨g,by simpa [aM,Spot.cells] using d⟩
 ·have:=aq.1 b;subst this;exact ⟨by omega,by show c+1<c+1+1; omega,by omega⟩
 ·rintro k (rfl | rfl)
  ·exact .inl ((o _).2 (.inl rfl))
  ·exact .inr ⟨by omega,by omega⟩
 ·intro k b H;have J:k≠a/\¬au q k:=⟨fun e=>H ((o k).2 (.inl e)),fun e=>H ((o k).2 (.inr e))⟩;show upd y a _ k=_;rw [ad J.1,C k (by omega) J.2]; exact m k b
theorem iW (m:List (Wb.Spot×Bool)) (fx:m.length+1<=68719476736) (Q ver h:Nat) (f:Heap) (c:Nat) (o:f h=some (.row 1 [[.map Q]] .live none)) (bx:f Q=some (.map (kvs aM AV.bool m) ver)) :
  ACalls Pg 272 [.sl [] true,.fn (.func 194) [] [.ptr h 0 0]] ⟨f,c⟩ fun av s'=>Fr c f s'.h s'.c/\∃ L:List Nat,L.Nodup/\(∀ i,i<m.length->i∈L)/\(∀ i∈L,i<m.length)/\RowAt s'.h 2 av (L.map fun i=>(bZ m i).cells)/\∀ k,au av k->c<=k/\k<s'.c:=by
 intro N g eM ai d0;obtain ⟨d2,U⟩:=d0
 match eM,d2,U with
 | [K,a8],_,U=>
  obtain ⟨f4,f5,b3,b4,f6,dN,cb,cc,ch,cl,cn⟩:=zZ;have d1:=U 0 _ K rfl rfl;have b0:=U 1 _ a8 rfl rfl;have d4:∃ u,a8=.func (.func 194) #[] #[u]/\Rep N (.ptr h 0 0) u:=by
   cases b0 with
   | fn _ _ _ ag b a2 a3 en a5=>
    have w:ag=#[]:=by apply sp; simpa using a2.symm
    have G:b.size=1:=by simpa using a3.symm
    refine ⟨b[0],?_,a5 0 _ _ rfl (by simp [G])⟩
    rw [w];congr 1;refine Array.ext (by simp [G]) fun i c0 c1=>?_
    have:i=0:=by omega
    subst this; rfl
  obtain ⟨u,rfl,f2⟩:=d4;unfold CallOk;rw [show (callFunc 272 [K,Value.func (.func 194) #[] #[u]].toArray).run Pg g=.ok (.enter 272 [K,Value.func (.func 194) #[] #[u]].toArray) g from Tryz.call272 _ _]
  refine callsIn_wide.1 (callsIn_of_wp_marks (n:=0) Tryz.func272 dN trivial ?_);obtain ⟨bc,bi⟩:∃ bc:AV->St->Prop,bc=fun av s'=>Fr c f s'.h s'.c/\∃ L:List Nat,L.Nodup/\(∀ i,i<m.length->i∈L)/\(∀ i∈L,i<m.length)/\RowAt s'.h 2 av (L.map fun i=>(bZ m i).cells)/\∀ k,au av k->c<=k/\k<s'.c:=⟨_,rfl⟩;rw [<-bi];have dW:RepSl N (jp [.sl [] true,.fn (.func 194) [] [.ptr h 0 0]]) { tmps:=[K,Value.func (.func 194) #[] #[u]].toArray++Array.replicate (Tryz.f272.ntmps-2) undef,defers:=[] }:=by
   intro z
   match z with
   | 0=>exact d1
   | 1=>exact b0
   | z+2=>exact .undef _
  have bt:=ai.hLt bx;have bo:=ai.hLt o;simp only at bt bo;have ax:Tryz.f272.ntmps<=([K,Value.func (.func 194) #[] #[u]].toArray++Array.replicate (Tryz.f272.ntmps-2) undef).size:=by simp
  refine wpIn_seq (fD cb (K:=fun a7 a6=>a7 1=.fn (.func 194) [] [.ptr h 0 0]/\a7 2=.ptr c 0 0/\a6=⟨upd f c (some (.row 1 [[.sl [] true]] .live none)),c+1⟩) ?_ ai dW ax ?_)
  ·simp [jp]
  intro a7 a6 e9 f' f9 ⟨ey,ez,ar⟩ eo es et b9 ex;refine wpIn_seq (wpIn_seq (fD cc (K:=fun Y t=>Y 6=.fn (.func 194) [] [.ptr h 0 0]/\Y 2=.ptr c 0 0/\t=a6) ?_ es et (by rw [b9]; exact ax) ?_))
  ·simp [ey,ez]
  intro Y t O v a ⟨eP,b',ds⟩ eg b5 a4 el em;subst ds;have bl:=eo.trans eg;have ao:Tryz.f272.ntmps<=v.tmps.size:=by rw [el,b9]; exact ax
  show (Code.block 0 _).wpIn _ _ _ _ _ _;refine wpIn_block (wpIn_rangeFunc ?_);intro fn _;have al:∃ C,v.eval (.tmp 6)=.func (.func 194) #[] #[C]/\Rep O (.ptr h 0 0) C:=by
   have H:=a4 6;rw [eP] at H;show ∃ C,v.tmps.getD 6 undef=_/\_;generalize v.tmps.getD 6 undef=a8 at H ⊢;cases H with
   | fn _ _ _ ag b a2 a3 en a5=>
    have w:ag=#[]:=by apply sp; simpa using a2.symm
    have G:b.size=1:=by simpa using a3.symm
    refine ⟨b[0],?_,a5 0 _ _ rfl (by simp [G])⟩
    rw [w];congr 1;refine Array.ext (by simp [G]) fun i c0 c1=>?_
    have:i=0:=by omega
    subst this; rfl
  obtain ⟨C,al,d3⟩:=al;obtain ⟨p,e⟩:∃ p:Loop,p={ state:=.ready,pending:=none,fn:=fn,tmps:=v.tmps,params:=#[7],assign:=.region 2 b3 false,body:=.block 1 (.region 3 b4 false),defers:=a.heap.size }:=⟨_,rfl⟩;obtain ⟨W1,y⟩:∃ W1,W1=(a.alloc (.deferred (some []))).alloc (.loop p):=⟨_,rfl⟩;have f1:W1.heap.size=a.heap.size+2:=by rw [y]; simp
  have bN:∀ b,b<a.heap.size->W1.heap[b]?=a.heap[b]?:=fun b o=>by
   rw [y,heap_alloc_old _ _ (by simp; omega),heap_alloc_old _ _ o]
  have c7:W1.heap[a.heap.size+1]?=some (.loop p):=by
   rw [y]; have:=World.alloc_heap_new (a.alloc (.deferred (some []))) (.loop p); rwa [World.size_alloc] at this
  have c4:W1.heap[a.heap.size]?=some (.deferred (some [])):=by
   rw [y,heap_alloc_old _ _ (by simp)]; exact World.alloc_heap_new a _
  have bj:Sim O t W1:=b5.grow bN;have dp:W1.os=a.os/\W1.tape=a.tape/\W1.output=a.output:=by rw [y]; exact ⟨rfl,rfl,rfl⟩
  have c9:Stp N ⟨f,c⟩ g O t W1:=bl.trans (Stp.grow b5 bN (by omega) dp)
  have cx:∀ args g,(callFunc 194 args).run Pg g=.ok (.enter 194 args) g:=fun args g=>Tryz.call194 args g;refine ⟨a.heap.size+1,[{ target:=.collected a.heap.size,args:=#[] }],W1,{ target:=.fn (.func 194) #[C],args:=#[.func (.yield (a.heap.size+1)) #[] #[]] },W1,194,#[.func (.yield (a.heap.size+1)) #[] #[]]++#[C],W1,?_,?_,fun fd _=>trivial,?_,fun D=>by simp [Fence.wide] at D,?_⟩
  ·rw [y,e]; exact run_enterLoop_outer _ _ _ _ _
  ·simp only [resolve,al];simp [go_sem]
  ·simp [invoke,go_sem,cx]
  have am:∀ k,k<c->t.h k=f k:=fun k d=>by rw [ar]; show upd f c _ k=_; rw [qv]
  have da:YieldOk Pg O (a.heap.size+1) p (okK m) (ApJ c):=by
   refine ⟨fun j H de=>j.frame H de,fun j k d=>?_,fun {pre x a' ab q Z f8} j dn c8 dl d' T=>?_⟩
   ·obtain ⟨x,a0,a1,ef,b1,W,b2⟩:=j;rcases (b1 k).1 d with rfl | d
    ·exact b2
    ·exact (W k d).2.1
   ·obtain ⟨⟨b6,f0,rfl⟩,fz⟩:=dn;refine zg (n:=Tryz.f272.ntmps) (md:=Pmd) (aops:=b3) (bops:=b4) (sl:=Y) (p:=7) (x:=aM b6.1) (aid:=2) (bid:=3) (kid:=1) (K:=fun s'=>∃ bb,ApJ c (pre++[aM b6.1]) bb s'/\(∀ k,bb k->a' k\/(q.c<=k/\k<s'.c))/\∀ k,k<q.c->¬a' k->s'.h k=q.h k) ch cl rfl rfl (by rw [e]) (by rw [e]) (by rw [e]) (by rw [e]) (by rw [e]) (by rw [e]; exact ro (by decide) ao) (by rw [e]; exact ao) c8 T ?_ d' ?_
    ·intro z;have:=(a4.mono dl) z;rw [e]; exact this
    ·exact yC b' j (by omega)
  have c3:ApJ c [] (fun k=>k=c) t:=by
   rw [ar];exact ⟨.sl [] true,ae,.inl ⟨rfl,rfl⟩,by simp,fun k=>⟨.inl,fun D=>D.elim id fun D=>absurd D aL⟩,fun k d=>absurd d aL,q7 _⟩
  have dk:=wt m Q ver h (a.heap.size+1) p da c3 ((am h bo).trans o) ((am Q bt).trans bx) (by omega) bj (.refl _) d3 c7
  refine callsIn_wide.2 ((callsIn_wide.1 dk).mono ?_);rintro fa Z ⟨⟨f7,rfl⟩,T,ab,q,e6,L,aa,eW,e0,e1,e2,e3,ga,e4⟩;have bm:=run_endLoop (P:=Pg) T (by rw [e]; simp)
  have c5:=aa.obj bj c4 trivial;obtain ⟨l,R⟩:∃ l,l=Z.putObj (a.heap.size+1) (.loop { p with state:=.exhausted }):=⟨_,rfl⟩;rw [<-R] at bm;refine ⟨none,l,by rw [bm,e],?_⟩
  have ap:∀ b,b≠a.heap.size+1->l.heap[b]?=Z.heap[b]?:=fun b o=>by rw [R]; exact World.putObj_heap_other o
  have bk:Sim ab q l:=eW.off T trivial ap;have ea:l.heap.size=Z.heap.size:=by rw [R]; simp
  have f3:g.heap.size<=a.heap.size:=bl.size;have c':Stp N ⟨f,c⟩ g ab q l:=(c9.trans aa).off (by omega) ap ea (by rw [R]; exact ⟨rfl,rfl,rfl⟩)
  have c6:l.heap[a.heap.size]?=some (.deferred (some [])):=(ap _ (by omega)).trans c5
  obtain ⟨x,a0,a1,ef,b1,W,b2⟩:=e3;refine wpIn_seq (fD cn (K:=fun b8 J=>b8 4=x/\J=q) ?_ bk (fun z=>(a4.mono aa.le) z) ao ?_)
  ·obtain ⟨fm,e'⟩:=q;simp only at a0;simp [b',a0]
  intro b8 J ca M a9 ⟨e5,dv⟩ w cp cq fb cs;subst dv;refine wpIn_ret ?_;have bf:=w.obj bk c6 trivial;have b7:=cq 4;rw [e5] at b7;obtain ⟨P,S⟩:∃ P,P=a9.putObj a.heap.size (.deferred none):=⟨_,rfl⟩;have bW:∀ b,b≠a.heap.size->P.heap[b]?=a9.heap[b]?:=fun b o=>by rw [S]; exact World.putObj_heap_other o
  have di:M.defers=[{ target:=.collected a.heap.size,args:=#[] }]:=by rw [cs]; show [_]++v.defers=_; rw [em,ex]; rfl
  show LeavesInM Fence.wide 0 Pg Tryz.f272 M.tmps _ M.defers .returning a9;rw [di];refine ⟨by simp,.inl ⟨_,P,rfl,by rw [S]; exact run_takeDeferred bf,?_⟩⟩
  refine ⟨M.tmps.getD 4 undef,?_,x,ca,J,(c'.trans w).off (by omega) bW (by rw [S]; simp) (by rw [S]; exact ⟨rfl,rfl,rfl⟩),cp.off bf trivial bW,b7,?_⟩
  ·exact results_tmp Br _ _ _
  ·rw [bi];have fs:t.c=c+1:=by rw [ar]
   have c2:∀ k,au x k->c<=k/\k<J.c:=fun k d=>⟨by have:=(W k d).2.2; omega,(W k d).2.1⟩
   refine ⟨⟨?_,fun k d=>?_⟩,L,e0,e1,e2,?_,c2⟩
   ·have:=aa.c; show c<=J.c; omega
   ·rw [e4 k (by omega) (by omega)]; exact am k d
   ·rw [y3] at a1; exact a1
inductive Reach (A:List Wb.Array) (l:List Inst) (i0:Nat):Nat->Prop
 | start:Reach A l i0 i0
 | step {i j:Nat} {x:Inst} {r:Wb.Spot}:Reach A l i0 i->l[i]?=some x->r∈x.reads A->aE A (l.take i) r=(j:Int)->Reach A l i0 j
def nU (A:List Wb.Array) (l:List Inst) (c:Nat) (a:Wb.Spot):Prop:=∃ i b,Reach A l c i/\l[i]?=some b/\a∈b.reads A/\aE A (l.take i) a<0
def ew (A:List Wb.Array) (l:List Inst) (a b:Wb.Spot):Prop:=if aE A l a<0 then b=a else nU A l (aE A l a).toNat b
def DoneAt (A:List Wb.Array) (l:List Inst) (S:List Int) (F:List Wb.Spot) (i:Nat) (R:List Wb.Spot):Prop:=∀ r∈R,(aE A (l.take i) r<0->r∈F)/\(0<=aE A (l.take i) r->aE A (l.take i) r∈S)
theorem DoneAt.mono {A:List Wb.Array} {l:List Inst} {S c:List Int} {F b:List Wb.Spot} {i:Nat} {R:List Wb.Spot} (h:DoneAt A l S F i R) (f:∀ k∈S,k∈c) (e:∀ s∈F,s∈b):DoneAt A l c b i R:=
 fun r d=>⟨fun a=>e _ ((h r d).1 a),fun a=>f _ ((h r d).2 a)⟩
theorem cz {a b:Type} [DecidableEq a] {m:List (a×b)} {k j:a} {v:b}:j∈(bG m k v).map (·.1)↔j=k\/j∈m.map (·.1):=by
 rw [kG];split
 ·rename_i d;exact ⟨.inr,fun e=>e.elim (fun c=>c▸d) id⟩
 ·rw [rd,sa]; exact or_comm
theorem iS {a d:Type} [DecidableEq a]:∀ {m:List (a×d)} {k:a},k∈m.map (·.1)↔(bw m k).isSome=true
 | [],k=>by simp [bw]
 | c::m,k=>by
  simp only [s9,se,bw];by_cases b:k=c.1
  ·simp [b]
  ·simp [b,iS (m:=m) (k:=k)]
structure NS where
 W:List Int
 S:List (Int×Bool)
 F:List (Wb.Spot×Bool)
def NS.size (l:List Inst) (a:NS):Nat:=(l.length-a.S.length)+a.W.length
def kL (A:List Wb.Array) (l:List Inst) (i:Nat) (a:NS) (r:Wb.Spot):NS:=
 if aE A (l.take i) r<0 then { a with F:=bG a.F r true }
 else if (bw a.S (aE A (l.take i) r)).getD false=true then a
 else { a with S:=bG a.S (aE A (l.take i) r) true,W:=a.W++[aE A (l.take i) r] }
structure GoodN (A:List Wb.Array) (l:List Inst) (i0:Nat) (st:NS) (cur:Option (Nat×List Wb.Spot)):Prop where
 sn:(st.S.map (·.1)).Nodup
 sv:∀ q∈st.S,q.2=true/\∃ k:Nat,q.1=k/\k<l.length/\Reach A l i0 k
 wn:st.W.Nodup
 ws:∀ k∈st.W,k∈st.S.map (·.1)
 st0:(i0:Int)∈st.S.map (·.1)
 fn:(st.F.map (·.1)).Nodup
 fr:∀ q∈st.F,nU A l i0 q.1
 dn:∀ k:Nat,(k:Int)∈st.S.map (·.1)->(k:Int)∉st.W->(∀ c,cur=some c->k≠c.1)->∀ x,l[k]?=some x->DoneAt A l (st.S.map (·.1)) (st.F.map (·.1)) k (x.reads A)
 di:∀ c,cur=some c->DoneAt A l (st.S.map (·.1)) (st.F.map (·.1)) c.1 c.2/\(c.1:Int)∈st.S.map (·.1)/\(c.1:Int)∉st.W
theorem GoodN.seen {A:List Wb.Array} {l:List Inst} {h:Nat} {a:NS} {e:Option (Nat×List Wb.Spot)} (g:GoodN A l h a e) (k:Int):(bw a.S k).getD false=decide (k∈a.S.map (·.1)):=by
 cases b:bw a.S k with
 | none=>
  have:k∉a.S.map (·.1):=fun d=>by rw [iS,b] at d; cases d
  simp [this]
 | some m=>
  have f:k∈a.S.map (·.1):=by rw [iS,b]; rfl
  have c:=(g.sv _ (fO b)).1;simp only at c;rw [c]; simp [f]
theorem GoodN.pop {A:List Wb.Array} {l:List Inst} {m:Nat} {e:NS} (g:GoodN A l m e none) {W:List Int} {k:Int} (d:e.W=W++[k]) :
  ∃ i:Nat,k=i/\i<l.length/\Reach A l m i/\GoodN A l m { e with W:=W } (some (i,[])):=by
 have p:k∈e.S.map (·.1):=g.ws k (by rw [d]; simp)
 obtain ⟨t,C,rfl⟩:=rf.1 p;obtain ⟨_,i,c,v,h⟩:=g.sv t C;have q:=g.wn;rw [d,va] at q;obtain ⟨G,_,H⟩:=q;have z:t.1∉W:=fun f=>H _ f _ (by simp) rfl
 refine ⟨i,c,v,h,g.sn,g.sv,G,fun o w=>g.ws o (by rw [d]; simp [w]),g.st0,g.fn,g.fr,?_,?_⟩
 ·intro o x y b J D;refine g.dn o x ?_ (fun u f=>by cases f) J D
  rw [d];intro a;rcases rd.1 a with a | a
  ·exact y a
  ·simp only [sa] at a;refine b (i,[]) rfl ?_;rw [c] at a;simp only; omega
 ·rintro u b;injection b with b; subst b;exact ⟨fun r h=>absurd h (by simp),by rw [<-c]; exact p,by rw [<-c]; exact z⟩
theorem GoodN.read {A:List Wb.Array} {l:List Inst} {N i:Nat} {d:NS} {R:List Wb.Spot} (g:GoodN A l N d (some (i,R))) {x:Inst} (M:l[i]?=some x) {r:Wb.Spot} (T:r∈x.reads A) (U:Reach A l N i) :
  GoodN A l N (kL A l i d r) (some (i,R++[r]))/\(kL A l i d r).size l=d.size l:=by
 obtain ⟨G,H,J⟩:=g.di _ rfl;simp only at G H J;have ao:i<l.length:=(q4.1 M).1;have ap:=eh A l r i (by omega)
 unfold kL;by_cases u:aE A (l.take i) r<0
 ·rw [if_pos u];refine ⟨⟨g.sn,g.sv,g.wn,g.ws,g.st0,dY g.fn,?_,?_,?_⟩,rfl⟩
  ·intro h o;have k:h.1∈(bG d.F r true).map (·.1):=rf.2 ⟨h,o,rfl⟩;rcases cz.1 k with b | k
   ·rw [b]; exact ⟨i,x,U,M,T,u⟩
   ·obtain ⟨al,ai,Y⟩:=rf.1 k;rw [<-Y]; exact g.fr al ai
  ·intro m p w e y q;exact (g.dn m p w (fun z b=>by injection b with b; subst b; exact e (i,R++[r]) rfl) y q).mono (fun _ c=>c) fun s a=>cz.2 (.inr a)
  ·rintro z e;injection e with e; subst e;refine ⟨fun s a=>?_,H,J⟩;rcases rd.1 a with a | a
   ·exact G.mono (fun _ c=>c) (fun s a=>cz.2 (.inr a)) s a
   ·simp only [sa] at a; subst a;exact ⟨fun _=>cz.2 (.inl rfl),fun c=>absurd u (Int.not_lt.2 c)⟩
 rw [if_neg u];obtain ⟨j,P⟩:∃ j:Nat,aE A (l.take i) r=(j:Int):=⟨(aE A (l.take i) r).toNat,by omega⟩
 have aa:j<l.length:=by omega
 rw [g.seen];by_cases C:aE A (l.take i) r∈d.S.map (·.1)
 ·rw [if_pos (by simpa using C)]
  refine ⟨⟨g.sn,g.sv,g.wn,g.ws,g.st0,g.fn,g.fr,fun m p w e y q=>g.dn m p w (fun z b=>by injection b with b; subst b; exact e (i,R++[r]) rfl) y q,?_⟩,rfl⟩
  rintro z e;injection e with e; subst e;refine ⟨fun s a=>?_,H,J⟩;rcases rd.1 a with a | a
  ·exact G s a
  ·simp only [sa] at a; subst a;exact ⟨fun c=>absurd c u,fun _=>C⟩
 ·rw [if_neg (by simpa using C)]
  have ag:aE A (l.take i) r∉d.W:=fun c=>C (g.ws _ c);have K:aE A (l.take i) r≠i:=by omega
  have Q:(bG d.S (aE A (l.take i) r) true).map (·.1)=d.S.map (·.1)++[aE A (l.take i) r]:=by rw [kG,if_neg C]
  refine ⟨⟨dY g.sn,?_,?_,?_,cz.2 (.inr g.st0),g.fn,g.fr,?_,?_⟩,?_⟩
  ·intro h o;have k:h.1∈(bG d.S (aE A (l.take i) r) true).map (·.1):=rf.2 ⟨h,o,rfl⟩;have v:bw (bG d.S (aE A (l.take i) r) true) h.1=some h.2:=lD (dY g.sn) o;rw [kF] at v;split at v
   ·rename_i b;injection v with v;exact ⟨v.symm,j,by rw [b,P],aa,U.step M T P⟩
   ·exact g.sv h (fO v)
  ·show (d.W++[_]).Nodup;rw [va];exact ⟨g.wn,by simp,fun t f O D b=>by simp only [sa] at D; subst D; subst b; exact ag f⟩
  ·intro m k;rcases rd.1 k with k | k
   ·exact cz.2 (.inr (g.ws m k))
   ·simp only [sa] at k; exact cz.2 (.inl k)
  ·intro m p w e y q;rcases cz.1 p with b | p
   ·exact absurd (by rw [b]; simp) w
   ·exact (g.dn m p (fun c=>w (by simp [c])) (fun z b=>by injection b with b; subst b; exact e (i,R++[r]) rfl) y q).mono (fun s a=>cz.2 (.inr a)) (fun _ c=>c)
  ·rintro z e;injection e with e; subst e;refine ⟨fun s a=>?_,cz.2 (.inr H),?_⟩
   ·rcases rd.1 a with a | a
    ·exact G.mono (fun s a=>cz.2 (.inr a)) (fun _ c=>c) s a
    ·simp only [sa] at a; subst a;exact ⟨fun c=>absurd c u,fun _=>cz.2 (.inl rfl)⟩
   ·show (i:Int)∉d.W++[_];simp only [rd,sa,not_or];exact ⟨J,fun b=>K b.symm⟩
  ·have ab:(bG d.S (aE A (l.take i) r) true).length=d.S.length+1:=by have:=congrArg List.length Q; simpa using this
   have D:d.S.length+1<=l.length:=by
    have Z:((d.S.map (·.1))++[aE A (l.take i) r]).Nodup:=by rw [<-Q]; exact dY g.sn
    have c:=eN l.length ((d.S.map (·.1)++[aE A (l.take i) r]).map Int.toNat) ?_ ?_
    ·simpa using c
    ·rw [xt,x6];refine (EN ?_ (xt.1 Z));have S:∀ t∈d.S.map (·.1)++[aE A (l.take i) r],0<=t:=by
      intro t f;rcases rd.1 f with f | f
      ·obtain ⟨h,o,rfl⟩:=rf.1 f;obtain ⟨_,m,W,_⟩:=g.sv h o;omega
      ·simp only [sa] at f; omega
     intro t O f D K b;have:=S t f; have:=S O D;exact K (by omega)
    ·intro y q;obtain ⟨t,f,rfl⟩:=rf.1 q;rcases rd.1 f with f | f
     ·obtain ⟨h,o,rfl⟩:=rf.1 f;obtain ⟨_,m,W,am,_⟩:=g.sv h o;omega
     ·simp only [sa] at f; omega
   unfold NS.size;simp only [ab,s3,z8];omega
theorem GoodN.close {A:List Wb.Array} {l:List Inst} {d i:Nat} {f:NS} {x:Inst} (q:l[i]?=some x) (g:GoodN A l d f (some (i,x.reads A))):GoodN A l d f none:=by
 obtain ⟨k,u,v⟩:=g.di _ rfl;refine ⟨g.sn,g.sv,g.wn,g.ws,g.st0,g.fn,g.fr,fun e o p _ t a=>?_,fun h m=>by cases m⟩
 by_cases c:e=i
 ·subst c;rw [q] at a; injection a with a; subst a;exact k
 ·exact g.dn e o p (fun h b=>by injection b with b; subst b; exact c) t a
theorem mP {A:List Wb.Array} {l:List Inst} {d:Nat} {S:List Int} {F:List Wb.Spot} (g:(d:Int)∈S) (f:∀ k:Nat,(k:Int)∈S->∀ x,l[k]?=some x->DoneAt A l S F k (x.reads A)) {e:Wb.Spot} (h:nU A l d e):e∈F:=by
 obtain ⟨i,x,b,c,p,m⟩:=h;have o:∀ j,Reach A l d j->(j:Int)∈S:=fun j a=>by
  induction a with
  | start=>exact g
  | step t c b a q=>
   have:=((f _ q _ c) _ b).2 (by omega)
   rwa [a] at this
 exact ((f i (o i b) x c) e p).1 m
theorem GoodN.fin {A:List Wb.Array} {l:List Inst} {c:Nat} {b:NS} (g:GoodN A l c b none) (e:b.W=[]) (d:Wb.Spot):d∈b.F.map (·.1)↔nU A l c d:=by
 constructor
 ·intro a;obtain ⟨o,h,rfl⟩:=rf.1 a;exact g.fr o h
 ·exact mP g.st0 fun m f p k=>g.dn m f (by rw [e]; simp) (fun q a=>by cases a) p k
theorem GoodN.start {A:List Wb.Array} {l:List Inst} {a:Nat} (d:a<l.length):GoodN A l a ⟨[(a:Int)],[((a:Int),true)],[]⟩ none:=
 ⟨by simp,fun k b=>by simp at b; subst b; exact ⟨rfl,a,rfl,d,.start⟩,by simp,fun h e=>by simpa using e,by simp,by simp,fun k b=>by simp at b,fun h f g _ _ _=>absurd (by simpa using f) g,fun m c=>by cases c⟩
def eH (A:List Wb.Array) (l:List Inst) (i:Nat) (a:NS) (b:Bool×Wb.Spot):NS:=if b.1 then a else kL A l i a b.2
theorem GoodN.fold {A:List Wb.Array} {l:List Inst} {k i:Nat} {x:Inst} (h:l[i]?=some x) (f:Reach A l k i):∀ (c:List (Bool×Wb.Spot)) (b:NS) (R:List Wb.Spot),(∀ a∈c,a.1=false->a.2∈x.reads A)->GoodN A l k b (some (i,R)) ->
  GoodN A l k (c.foldl (eH A l i) b) (some (i,R++(c.filter fun a=>!a.1).map (·.2)))/\(c.foldl (eH A l i) b).size l=b.size l
 | [],b,R,_,d=>by simpa using d
 | a::c,b,R,g,d=>by
  obtain ⟨p,r⟩:=a;cases p with
  | true=>
   have:=GoodN.fold h f c b R (fun a e=>g a (by simp [e])) d
   simpa [eH] using this
  | false=>
   obtain ⟨q,t⟩:=d.read h (g (false,r) (by simp) rfl) f
   obtain ⟨m,o⟩:=GoodN.fold h f c (kL A l i b r) (R++[r]) (fun a e=>g a (by simp [e])) q
   rw [t] at o;rw [u0] at m;simpa [eH] using ⟨m,o⟩
theorem GoodN.wlen {A:List Wb.Array} {l:List Inst} {y:Nat} {e:NS} {m:Option (Nat×List Wb.Spot)} (g:GoodN A l y e m):e.W.length<=l.length:=by
 have p:=eN l.length (e.W.map Int.toNat) ?_ ?_
 ·simpa using p
 ·rw [xt,x6];refine (EN ?_ (xt.1 g.wn));intro h k t u f a;obtain ⟨d,c,rfl⟩:=rf.1 (g.ws h t);obtain ⟨C,v,rfl⟩:=rf.1 (g.ws k u);obtain ⟨_,z,b,_⟩:=g.sv d c;obtain ⟨_,G,o,_⟩:=g.sv C v;rw [b,o] at a f;simp at a; exact f (by rw [a])
 ·intro H w;obtain ⟨D,x,rfl⟩:=rf.1 w;obtain ⟨d,c,rfl⟩:=rf.1 (g.ws D x);obtain ⟨_,z,b,q,_⟩:=g.sv d c;rw [b]; simpa using q
theorem tC {A:List Wb.Array} {l:List Inst} {d:Nat} {a:Wb.Spot} (h:nU A l d a):a∈l.flatMap fun x=>x.reads A:=by
 obtain ⟨i,x,_,c,b,_⟩:=h;exact x0.2 ⟨x,r8 c,b⟩
theorem qX (A:List Wb.Array):∀ l:List Inst,((l.flatMap fun x=>x.reads A).length:Int)<=cP A l
 | []=>by simp [cP]
 | x::xs=>by
  have:=qX A xs;simp only [cP,s9,Ey,List.flatMap_cons,s3] at this ⊢
  push_cast; omega
def cw (A:List Wb.Array) (a:Wb.Spot):Int:=
 if bO a.array=false then 5 else if bp A a.array<0 then 8
 else match A[(bp A a.array).toNat]? with
  | some b=>if 0<=a.cell/\a.cell<=eV b.sizes-1 then 0 else 1
  | none=>0
structure DfsC (A:List Wb.Array) (l:List Inst) (PS:Nat->Prop) (PF:Wb.Spot->Prop):Prop where
 hs:∀ (k:Nat) (x:Inst) (r:Wb.Spot) (j:Nat),PS k->l[k]?=some x->r∈x.reads A->aE A (l.take k) r=(j:Int)->PS j
 hf:∀ (k:Nat) (x:Inst) (r:Wb.Spot),PS k->l[k]?=some x->r∈x.reads A->aE A (l.take k) r<0->PF r
structure DfsG (l:List Inst) (PS:Nat->Prop) (PF:Wb.Spot->Prop) (S:List (Int×Bool)) (F:List (Wb.Spot×Bool)):Prop where
 sn:(S.map (·.1)).Nodup
 sv:∀ q∈S,q.2=true/\∃ k:Nat,q.1=k/\k<l.length/\PS k
 fn:(F.map (·.1)).Nodup
 fr:∀ s∈F.map (·.1),PF s
structure DfsR (A:List Wb.Array) (l:List Inst) (S:List (Int×Bool)) (F:List (Wb.Spot×Bool)) (S':List (Int×Bool)) (F':List (Wb.Spot×Bool)):Prop where
 sm:∀ k∈S.map (·.1),k∈S'.map (·.1)
 fm:∀ s∈F.map (·.1),s∈F'.map (·.1)
 dn:∀ k:Nat,(k:Int)∈S'.map (·.1)->(k:Int)∉S.map (·.1)->∀ x,l[k]?=some x->DoneAt A l (S'.map (·.1)) (F'.map (·.1)) k (x.reads A)
theorem DfsR.refl {A:List Wb.Array} {l:List Inst} (S:List (Int×Bool)) (F:List (Wb.Spot×Bool)):DfsR A l S F S F:=⟨fun _ a=>a,fun _ a=>a,fun _ a b=>absurd a b⟩
theorem DfsR.trans {A:List Wb.Array} {l:List Inst} {S b f:List (Int×Bool)} {F d e:List (Wb.Spot×Bool)} (h:DfsR A l S F b d) (h':DfsR A l b d f e):DfsR A l S F f e:=by
 refine ⟨fun a c=>h'.sm a (h.sm a c),fun s p=>h'.fm s (h.fm s p),fun a c o m k=>?_⟩;by_cases g:(a:Int)∈b.map (·.1)
 ·exact (h.dn a g o m k).mono h'.sm h'.fm
 ·exact h'.dn a c g m k
theorem DfsG.seen {l:List Inst} {e:Nat->Prop} {d:Wb.Spot->Prop} {S:List (Int×Bool)} {F:List (Wb.Spot×Bool)} (g:DfsG l e d S F) (k:Int):(bw S k).getD false=decide (k∈S.map (·.1)):=by
 cases a:bw S k with
 | none=>
  have:k∉S.map (·.1):=fun c=>by rw [iS,a] at c; cases c
  simp [this]
 | some h=>
  have f:k∈S.map (·.1):=by rw [iS,a]; rfl
  have b:=(g.sv _ (fO a)).1;simp only at b;rw [b]; simp [f]
theorem DfsG.found {A:List Wb.Array} {l:List Inst} {d:Nat->Prop} {b:Wb.Spot->Prop} {S:List (Int×Bool)} {F:List (Wb.Spot×Bool)} (g:DfsG l d b S F) {s:Wb.Spot} (h:b s):DfsG l d b S (bG F s true)/\DfsR A l S F S (bG F s true)/\s∈(bG F s true).map (·.1):=by
 refine ⟨⟨g.sn,g.sv,dY g.fn,fun e a=>?_⟩,⟨fun _ c=>c,fun e a=>cz.2 (.inr a),fun _ c f=>absurd c f⟩,cz.2 (.inl rfl)⟩;rcases cz.1 a with rfl | a
 ·exact h
 ·exact g.fr e a
theorem DfsG.mark {l:List Inst} {b:Nat->Prop} {d:Wb.Spot->Prop} {S:List (Int×Bool)} {F:List (Wb.Spot×Bool)} (g:DfsG l b d S F) {k:Nat} (f:k<l.length) (h:b k):DfsG l b d (bG S (k:Int) true) F:=by
 refine ⟨dY g.sn,fun c m=>?_,g.fn,g.fr⟩;have a:bw (bG S (k:Int) true) c.1=some c.2:=lD (dY g.sn) m;rw [kF] at a;split at a
 ·rename_i e;injection a with a;exact ⟨a.symm,k,e,f,h⟩
 ·exact g.sv c (fO a)
theorem DfsR.close {A:List Wb.Array} {l:List Inst} {S c:List (Int×Bool)} {F b:List (Wb.Spot×Bool)} {k:Nat} {x:Inst} (o:l[k]?=some x) (h:DfsR A l (bG S (k:Int) true) F c b) (f:DoneAt A l (c.map (·.1)) (b.map (·.1)) k (x.reads A)):DfsR A l S F c b:=by
 refine ⟨fun j d=>h.sm j (cz.2 (.inr d)),h.fm,fun j d m p a=>?_⟩;by_cases e:j=k
 ·subst e;rw [o] at a; injection a with a; subst a;exact f
 ·exact h.dn j d (fun g=>(cz.1 g).elim (fun q=>e (by omega)) m) p a
def za (A:List Wb.Array) (l:List Inst) (a:Wb.Spot) (k:Nat):Prop:=0<=aE A l a/\Reach A l (aE A l a).toNat k
theorem Ac (A:List Wb.Array) (l:List Inst) (e:Wb.Spot):DfsC A l (za A l e) (ew A l e):=by
 refine ⟨fun d f r j a c b h=>⟨a.1,a.2.step c b h⟩,fun d f r a c b g=>?_⟩;unfold ew;rw [if_neg (by have:=a.1; omega)]
 exact ⟨d,f,a.2,c,b,g⟩
theorem Ae (A:List Wb.Array) (l:List Inst) (a:Wb.Spot):(aE A (l.take l.length) a<0->ew A l a a)/\∀ k:Nat,aE A (l.take l.length) a=k->za A l a k:=by
 rw [r0];refine ⟨fun b=>by unfold ew; rw [if_pos b],fun k b=>⟨by omega,?_⟩⟩
 rw [b]; exact .start
theorem Ad {A:List Wb.Array} {l:List Inst} {a:Wb.Spot} {S:List (Int×Bool)} {F:List (Wb.Spot×Bool)} (g:DfsG l (za A l a) (ew A l a) S F) (r:DfsR A l [] [] S F) (d:aE A l a<0->a∈F.map (·.1)) (e:0<=aE A l a->aE A l a∈S.map (·.1)) (s:Wb.Spot):s∈F.map (·.1)↔ew A l a s:=by
 refine ⟨g.fr s,fun b=>?_⟩;unfold ew at b;by_cases c:aE A l a<0
 ·rw [if_pos c] at b;rw [b]; exact d c
 ·rw [if_neg c] at b;refine mP (S:=S.map (·.1)) ?_ (fun k f m h=>r.dn k f (by simp) m h) b
  have:=e (by omega)
  rwa [Int.toNat_of_nonneg (by omega)]
theorem wD {A:List Wb.Array} {l:List Inst} {a s:Wb.Spot} (h:ew A l a s):s∈a::l.flatMap fun x=>x.reads A:=by
 unfold ew at h;split at h
 ·rw [h]; exact r4
 ·exact r3 _ (tC h)
theorem jv (l:List Wb.Term):aG Pg 323 [row (l.map Term.cells),row (l.map Term.cells)] (.bool true):=by
 rintro ⟨o,m⟩;refine ACalls.small fun c=>?_;have q:l.length<=68719476736:=by simp at c; exact c.1
 refine Fn323.calls .frz ?_;unfold Fn323.ac;simp;refine bM 13 Fn323.W0 l (fun (i:Nat) r t=>True) (by rfl) (by rfl) ?_ ?_ ?_
 ·simp
 ·intro k d a b e;simp [a]
 ·intro i x xs k d f h p a b e;have g:=q0 (x:=(i:Int)+1)
  simp [a,f,h,g,Term.cells,cd,eU];exact b
theorem ju (l:List Wb.Spot):aG Pg 53 [row (l.map Spot.cells),row (l.map Spot.cells)] (.bool true):=by
 rintro ⟨o,m⟩;refine ACalls.small fun c=>?_;have q:l.length<=68719476736:=by simp at c; exact c.1
 refine Fn53.calls .frz ?_;unfold Fn53.ac;simp;refine bM 13 Fn53.W0 l (fun (i:Nat) r t=>True) (by rfl) (by rfl) ?_ ?_ ?_
 ·simp
 ·intro k d a b e;simp [a]
 ·intro i x xs k d f h p a b e;have g:=q0 (x:=(i:Int)+1)
  simp [a,f,h,g,Spot.cells,cd,eU];exact b
theorem pM (l:List Int):aG Pg 19 [row (an l),row (an l)] (.bool true):=by
 rintro ⟨o,m⟩;refine ACalls.small fun c=>?_;have q:l.length<=68719476736:=by simp at c; exact c.1
 refine Fn19.calls .frz ?_;unfold Fn19.ac;simp;refine bM 13 Fn19.W0 l (fun (i:Nat) r t=>True) (by rfl) (by rfl) ?_ ?_ ?_
 ·simp
 ·intro k d a b e;simp [a]
 ·intro i x xs k d f h p a b e;have g:=q0 (x:=(i:Int)+1)
  simp [a,f,h,g];exact b
theorem fv (f:Wb.Form):aG Pg 275 [.agg f.cells,.agg f.cells] (.bool true):=by
 rintro ⟨d,a⟩;refine Fn275.calls .frz ?_;unfold Fn275.ac;have b:¬a=a+1:=by omega
 simp [Form.cells,b];refine ACalls.pure (jv f.terms) fun c e=>?_;simp
theorem iF (f:Nat) (L:List Wb.Form) (k:∀ x∈L,aG Pg f [.agg x.cells,.agg x.cells] (.bool true)):aG Pg 276 [row (L.map Form.cells),row (L.map Form.cells),.fn (.func f) [] []] (.bool true):=by
 rintro ⟨C,w⟩;refine ACalls.small fun b=>?_;have H:L.length<=68719476736:=by simp at b; omega
 refine Fn276.calls .frz ?_;unfold Fn276.ac;simp;refine bu 17 Fn276.W0 L (fun (i:Nat) r K J=>True) (by rfl) (by rfl) ?_ ?_ ?_
 ·simp
 ·intro v g d c a h;simp [c];exact a.retH
 ·intro i e z v g d l t o c a h;have q:=q0 (x:=(i:Int)+1)
  have G:=a.c;have p:¬d=d+1:=by omega
  have b:=k e (aU o);simp only [Form.cells] at b;simp [c,l,t,Form.cells,p];refine ACalls.pure b fun y D=>?_;simp [c,q];exact ⟨by omega,fun u m=>by rw [qv,qv]; exact a.h u m⟩
theorem io (f:Nat) (L:List Wb.Bound) (k:∀ x∈L,aG Pg f [.agg x.cells,.agg x.cells] (.bool true)):aG Pg 273 [row (L.map Bound.cells),row (L.map Bound.cells),.fn (.func f) [] []] (.bool true):=by
 rintro ⟨C,w⟩;refine ACalls.small fun b=>?_;have H:L.length<=68719476736:=by simp at b; omega
 refine Fn273.calls .frz ?_;unfold Fn273.ac;simp;refine bu 17 Fn273.W0 L (fun (i:Nat) r K J=>True) (by rfl) (by rfl) ?_ ?_ ?_
 ·simp
 ·intro v g d c a h;simp [c];exact a.retH
 ·intro i e z v g d l t o c a h;have q:=q0 (x:=(i:Int)+1)
  have G:=a.c;have p:¬d=d+1:=by omega
  have b:=k e (aU o);simp only [Bound.cells] at b;simp [c,l,t,Bound.cells,p];refine ACalls.pure b fun y D=>?_;simp [c,q];exact ⟨by omega,fun u m=>by rw [qv,qv]; exact a.h u m⟩
theorem im (f:Nat) (L:List Wb.Array) (k:∀ x∈L,aG Pg f [.agg x.cells,.agg x.cells] (.bool true)):aG Pg 133 [row (L.map Array.cells),row (L.map Array.cells),.fn (.func f) [] []] (.bool true):=by
 rintro ⟨C,w⟩;refine ACalls.small fun b=>?_;have H:L.length<=68719476736:=by simp at b; omega
 refine Fn133.calls .frz ?_;unfold Fn133.ac;simp;refine bu 17 Fn133.W0 L (fun (i:Nat) r K J=>True) (by rfl) (by rfl) ?_ ?_ ?_
 ·simp
 ·intro v g d c a h;simp [c];exact a.retH
 ·intro i e z v g d l t o c a h;have q:=q0 (x:=(i:Int)+1)
  have G:=a.c;have p:¬d=d+1:=by omega
  have b:=k e (aU o);simp only [Array.cells] at b;simp [c,l,t,Array.cells,p];refine ACalls.pure b fun y D=>?_;simp [c,q];exact ⟨by omega,fun u m=>by rw [qv,qv]; exact a.h u m⟩
theorem iE (f:Nat) (L:List Wb.Expr) (k:∀ x∈L,aG Pg f [.agg x.cells,.agg x.cells] (.bool true)):aG Pg 277 [row (L.map Expr.cells),row (L.map Expr.cells),.fn (.func f) [] []] (.bool true):=by
 rintro ⟨M,w⟩;refine ACalls.small fun b=>?_;have P:L.length<=68719476736:=by simp at b; omega
 refine Fn277.calls .frz ?_;unfold Fn277.ac;simp;refine bu 17 Fn277.W0 L (fun (i:Nat) r R Q=>True) (by rfl) (by rfl) ?_ ?_ ?_
 ·simp
 ·intro v g d c a h;simp [c];exact a.retH
 ·intro i e K v g d l t o c a h;have q:=q0 (x:=(i:Int)+1)
  have O:=a.c;have p:¬d=d+1:=by omega
  have b:=k e (aU o);obtain ⟨H,G,C,z,J,D⟩:=e;simp only [Expr.cells_mk] at b;simp [c,l,t,Expr.cells_mk,p];refine ACalls.pure b fun y N=>?_;simp [c,q];exact ⟨by omega,fun u m=>by rw [qv,qv]; exact a.h u m⟩
theorem eG (f:Nat) (L:List Wb.Step) (k:∀ x∈L,aG Pg f [.agg x.cells,.agg x.cells] (.bool true)):aG Pg 135 [row (L.map Step.cells),row (L.map Step.cells),.fn (.func f) [] []] (.bool true):=by
 rintro ⟨M,w⟩;refine ACalls.small fun b=>?_;have P:L.length<=68719476736:=by simp at b; omega
 refine Fn135.calls .frz ?_;unfold Fn135.ac;simp;refine bu 17 Fn135.W0 L (fun (i:Nat) r Y Q=>True) (by rfl) (by rfl) ?_ ?_ ?_
 ·simp
 ·intro v g d c a h;simp [c];exact a.retH
 ·intro i e K v g d l t o c a h;have q:=q0 (x:=(i:Int)+1)
  have O:=a.c;have p:¬d=d+1:=by omega
  have b:=k e (aU o);obtain ⟨W,aa,Z,U,T,S,R,ss,⟨H,G,C,z,J,D⟩⟩:=e;simp only [Step.cells_mk] at b;simp [c,l,t,Step.cells_mk,p];refine ACalls.pure b fun y N=>?_;simp [c,q];exact ⟨by omega,fun u m=>by rw [qv,qv]; exact a.h u m⟩
theorem eY (l:List Wb.Form):aG Pg 196 [row (l.map Form.cells),row (l.map Form.cells)] (.bool true):=by
 intro s;refine Fn196.calls .frz ?_;unfold Fn196.ac;simp;refine ACalls.pure (iF 275 l fun a _=>fv a) fun b c=>?_;simp
theorem kp (f:Wb.Bound):aG Pg 274 [.agg f.cells,.agg f.cells] (.bool true):=by
 rintro ⟨e,a⟩;refine Fn274.calls .frz ?_;unfold Fn274.ac;have c:¬a=a+1:=by omega
 have b:=fv f.form;simp only [Form.cells] at b;simp [Bound.cells,c];refine ACalls.pure b fun d g=>?_;simp
theorem gG (l:List Wb.Bound):aG Pg 195 [row (l.map Bound.cells),row (l.map Bound.cells)] (.bool true):=by
 intro s;refine Fn195.calls .frz ?_;unfold Fn195.ac;simp;refine ACalls.pure (io 274 l fun a _=>kp a) fun b c=>?_;simp
theorem mJ:∀ (a:Nat) (x:Wb.Expr),SizeOf.sizeOf x<=a->aG Pg 197 [.agg x.cells,.agg x.cells] (.bool true):=by
 intro a
 induction a with
 | zero=>intro x d; obtain ⟨_,_,_,_,_,_⟩:=x; simp at d
 | succ a m=>
  intro x d;obtain ⟨y,n,h,array,subs,e⟩:=x;have k:∀ b∈e,aG Pg 197 [.agg b.cells,.agg b.cells] (.bool true):=fun b l=>m b (by
   have:=w8 l;simp at d; omega)
  have g:=fv h;simp only [Form.cells] at g;rintro ⟨t,f⟩;refine Fn197.calls .frz ?_;unfold Fn197.ac;have c:¬f=f+1:=by omega
  simp [Expr.cells_mk,c];refine ACalls.pure g fun o u=>?_;simp [c];refine ACalls.pure (eY subs) fun p v=>?_;simp [c];refine ACalls.pure (iE 197 e k) fun q w=>?_;simp
theorem mK:∀ (b:Nat) (x:Wb.Step),SizeOf.sizeOf x<=b->aG Pg 136 [.agg x.cells,.agg x.cells] (.bool true):=by
 intro b
 induction b with
 | zero=>intro x d; obtain ⟨_,_,_,_,_,_,_,_,_⟩:=x; simp at d
 | succ b m=>
  intro x d;obtain ⟨U,W,q,p,o,g,T,ss,h⟩:=x;have k:∀ c∈g,aG Pg 136 [.agg c.cells,.agg c.cells] (.bool true):=fun c l=>m c (by
   have:=w8 l;simp at d; omega)
  have f:=mJ _ h (q5 _);obtain ⟨J,H,D,C,K,G⟩:=h;simp only [Expr.cells_mk] at f;rintro ⟨M,e⟩;refine Fn136.calls .frz ?_;unfold Fn136.ac;have a:¬e=e+1:=by omega
  simp [Step.cells_mk,a];refine ACalls.pure (gG q) fun t N=>?_;simp [a];refine ACalls.pure (gG p) fun u O=>?_;simp [a];refine ACalls.pure (eY o) fun v P=>?_;simp [a];refine ACalls.pure (eG 136 g k) fun w Q=>?_;simp [a];refine ACalls.pure (eY ss) fun y R=>?_;simp [a];refine ACalls.pure f fun z S=>?_;simp
theorem jH (x:Wb.Array):aG Pg 134 [.agg x.cells,.agg x.cells] (.bool true):=by
 rintro ⟨d,a⟩;refine Fn134.calls .frz ?_;unfold Fn134.ac;have b:¬a=a+1:=by omega
 simp [Array.cells,b];refine ACalls.pure (pM x.sizes) fun c e=>?_;simp
theorem gj (p:Wb.Prog):aG Pg 52 [p.av,p.av] (.bool true):=by
 rintro ⟨f,b⟩;refine Fn52.calls .frz ?_;unfold Fn52.ac;have c:¬b=b+1:=by omega
 simp [Prog.av,c];refine ACalls.pure (im 134 p.arrays fun a _=>jH a) fun d g=>?_;simp [c];refine ACalls.pure (eG 136 p.steps fun a _=>mK _ a (q5 _)) fun e h=>?_;simp
theorem uy (L:List Int) (aa:L.length<=1048576) (a:Int) (g:Nat) (k:Heap) (h:Nat) (bN:SM k g L a) (b8:0<=a) (b9:a<100000000) (bk:g<h) :
  ACalls Pg 38 [.ptr g 0 0] ⟨k,h⟩ fun av s'=>(∃ l:List ByteArray,av=row (ak l))/\SMI k g L a 20 s'.h:=by
 refine Fn38.calls .frz ?_;unfold Fn38.ac;simp [bsI,az];have bm:∀ (i:Nat) (x:ByteArray) (ax:i<([⟨#[97]⟩,⟨#[98]⟩,⟨#[99]⟩]:List ByteArray).length),([⟨#[97]⟩,⟨#[98]⟩,⟨#[99]⟩]:List ByteArray)[i]=x->([[.str ⟨#[97]⟩],[.str ⟨#[98]⟩],[.str ⟨#[99]⟩]]:List (List AV))[i]?=some [.str x]:=by
  intro i x ax al;show (([⟨#[97]⟩,⟨#[98]⟩,⟨#[99]⟩]:List ByteArray).map fun n=>[AV.str n])[i]?=_;rw [rb,q3 ax,al]; rfl
 obtain ⟨S,G⟩:∃ S:Nat->List ByteArray->Slots->St->Prop,S=fun (i:Nat) r b4 s'=>∃ (e:Nat) (c:List ByteArray) (T:Int),b4 3=.row e 1 0 c.length/\c.length<=i/\h<=e/\e<s'.c/\s'.h e=some (.row 1 (ak c) .live none)/\SM s'.h g L T/\a<=T/\T<=a+i/\∀ f,f<h->f≠g->s'.h f=k f:=⟨_,rfl⟩;refine aZ 8 Fn38.W0 ([⟨#[97]⟩,⟨#[98]⟩,⟨#[99]⟩]:List ByteArray) S (by rfl) (by rfl) ?_ ?_ ?_
 ·rw [G];exact ⟨by simp,h,[],a,by simp,q5 _,q5 _,by show h<h+1; omega,by simp [ak],by show upd k h _ g=_; rw [qv]; exact bN,by omega,by simp,fun f Q _=>by show upd k h _ f=_; rw [qv]⟩
 ·intro R s' J D;rw [G] at D;obtain ⟨e,c,U,t,a2,am,ao,K,M,b1,a3,u⟩:=D;obtain ⟨Y,W⟩:=s';have bW:R 8=.int 3:=J;have cc:c.length<=3:=a2;simp at t a3;simp only at ao K M u;have fin:∀ (l:List ByteArray) (P:Heap) (O:Int) (ap:Nat) (a5:Option Body),h<=ap->SM P g L O->a<=O->O<=a+20->(∀ d,d<h->d≠g->P d=k d)->(∃ b2:List ByteArray,ak l=ak b2)/\SMI k g L a 20 (retH h k (upd P ap a5)):=by
   intro l P O ap a5 cb a' bb bc bf;refine ⟨⟨l,rfl⟩,SMI.fin bk (fun d o q=>?_) ?_ bb bc⟩
   ·rw [qv]; exact bf d q o
   ·unfold SM; rw [qv]; exact a'
  simp [bW];refine ACalls.draw (ek L U 15 g Y W (by omega) M (by omega) (by omega) aa (by omega)) fun a7 p m y ai bj b5 b6 N w=>?_
  obtain ⟨b,rfl⟩:=ai;have C:=(w e (by omega)).trans K
  have a4:∀ d,d<h->d≠g->p d=k d:=fun d q o=>(w d o).trans (u d q o);have z:(ak c).length=c.length:=by simp [ak]
  cases b
  ·have ag:aP (List.take c.length (ak c))=ak c:=by rw [q8 (by omega),eE]
   simp [t,C,ag,z];exact fin c p y e _ am N (by omega) (by omega) a4
  simp [bsI,az];refine ACalls.draw (R:=fun R=>∃ f,R=.str f/\f∈([⟨#[97]⟩,⟨#[122,122]⟩,⟨#[]⟩,⟨#[65]⟩]:List ByteArray)) (eT [⟨#[97]⟩,⟨#[122,122]⟩,⟨#[]⟩,⟨#[65]⟩] L y g p m (by simp) (by simp) N (by omega) (by omega) aa (by omega)) fun a7 Z ar a8 b0 b' ch cl b7 a6=>?_
  obtain ⟨v,rfl,_⟩:=b0;have bi:=(a6 e (by omega)).trans C
  have b3:∀ d,d<h->d≠g->Z d=k d:=fun d q o=>(a6 d o).trans (a4 d q o);have ab:=bE (sz:=1) (bytes:=16) (md:=.plain) (len:=c.length) (x:=[.str v]) (b:=true) (s:=⟨Z,ar⟩) (by simp) bi z (by decide) (by decide) (by decide) rfl (by omega)
  have ag:aP (List.take (c.length+1) (ak c++[[AV.str v]]))=ak (c++[v]):=by
   rw [q8 (by simp [ak])]
   have a9:ak c++[[AV.str v]]=ak (c++[v]):=by simp [ak]
   rw [a9,eE]
  simp [t,bsI,az,ab,ag,z];refine fin (c++[v]) (upd Z e none) a8 ar _ (by omega) ?_ (by omega) (by omega) fun d q o=>?_
  ·unfold SM; rw [qv]; exact b7
  ·rw [qv]; exact b3 d q o
 ·intro i x xs R s' a0 al ca J D;rw [G] at D;obtain ⟨e,c,U,t,a2,am,ao,K,M,b1,a3,u⟩:=D;obtain ⟨Y,W⟩:=s';simp at t;simp only at ao K M u;have bo:=bm i x a0 al;have bt:i<3:=a0;have bx:(i:Int)<3:=by omega
  have a1:=q0 (x:=(i:Int)+1)
  obtain ⟨_,bl⟩:=q4.1 bo;have z:(ak c).length=c.length:=by simp [ak]
  simp [J,bt,bx,bl];refine ACalls.draw (ek L U 2 g Y W (by omega) M (by omega) (by omega) aa (by omega)) fun a7 p m y ai bj b5 b6 N w=>?_
  obtain ⟨b,rfl⟩:=ai;have C:=(w e (by omega)).trans K
  cases b
  ·simp [J,a1];rw [G];exact ⟨e,c,y,by simp [t],by omega,am,by show e<m; omega,C,N,by omega,by push_cast; omega,fun f Q H=>(w f H).trans (u f Q H)⟩
  have ab:=bE (sz:=1) (bytes:=16) (md:=.plain) (len:=c.length) (x:=[.str x]) (b:=true) (s:=⟨p,m⟩) (by simp) C z (by decide) (by decide) (by decide) rfl (by omega)
  simp [t,bsI,az,ab,J,a1];rw [G];refine ⟨m,c++[x],y,by simp,by simp; omega,by omega,q7 _,?_,?_,by omega,by push_cast; omega,fun f Q H=>?_⟩
  ·show upd (upd p e none) m _ m=_;rw [ae]; simp [ak]
  ·show upd (upd p e none) m _ g=_;rw [qv,qv]; exact N
  ·show upd (upd p e none) m _ f=_;rw [qv,qv,w f H]; exact u f Q H
theorem pL (g:Nat) (a:List ByteArray) (x:ByteArray) (b:Heap) (c:Nat) (e:b g=some (.row 1 (ak a) .live none)) (d:a.length<=1000000000) :
  ACalls Pg 33 [.row g 1 0 a.length,.str x] ⟨b,c⟩ fun av s'=>av=.bool (inL x a)/\s'.h=b:=jY (.row g 1 0 a.length) a x b c (.inr ⟨g,rfl,e⟩) d
theorem zH (p:Wb.Prog) (cs:aw p.steps<=300) (L:List Int) (ai:L.length<=1048576) (a:Int) (g:Nat) (k:Heap) (h:Nat) (b3:SM k g L a) (cl:0<=a) (cn:a<100000000) (a4:g<h) :
  ACalls Pg 39 [.ptr g 0 0,p.av] ⟨k,h⟩ fun av s'=>(∃ l:List ByteArray,av=row (ak l))/\SMI k g L a 400 s'.h:=by
 have a6:=qu _ p.steps (q7 _) (by omega)
 have b2:(aX p.steps).length<=300:=by have:=fk p.steps; omega
 refine Fn39.calls .frz ?_;unfold Fn39.ac;obtain ⟨D,bx⟩:∃ D,D=aX p.steps:=⟨_,rfl⟩;rw [<-bx] at a6 b2;simp [Prog.av];refine ACalls.pure a6 fun bi cp=>?_;have a3:(ak D).length=D.length:=by simp [ak]
 obtain ⟨U,am⟩:∃ U,U=upd (upd k h (some (.row 2 [[row (p.arrays.map Array.cells),row (p.steps.map Step.cells)]] .live none))) (h+1) (some (.row 1 [] .live none)):=⟨_,rfl⟩;have a9:∀ d,d<h->U d=k d:=fun d u=>by rw [am,qv,qv]
 have b':U (h+1)=_:=(congrFun am (h+1)).trans ae;simp [a3];rw [<-am];obtain ⟨W,H⟩:∃ W:Nat->List ByteArray->Slots->St->Prop,W=fun (i:Nat) r ca s'=>∃ (f:Nat) (c:List ByteArray) (Y:Int),ca 5=.row f 1 0 c.length/\c.length<=i/\h<f/\f<s'.c/\s'.h f=some (.row 1 (ak c) .live none)/\SM s'.h g L Y/\a<=Y/\Y<=a+i/\∀ d,d<h->d≠g->s'.h d=k d:=⟨_,rfl⟩;refine aZ 12 Fn39.W0 D W (by rfl) (by rfl) ?_ ?_ ?_
 ·rw [H];exact ⟨by simp,h+1,[],a,by simp,q5 _,by omega,by show h+1<bi; omega,by simpa [ak] using b',(a9 g a4).trans b3,by omega,by simp,fun d u _=>a9 d u⟩
 ·intro a2 s' J O;rw [H] at O;obtain ⟨f,c,Z,t,b6,ax,a0,P,Q,b7,a7,z⟩:=O;obtain ⟨ab,aa⟩:=s';simp at t a7;simp only at a0 P Q z;have fin:∀ (l:List ByteArray) (T:Heap) (R:Int) (a1:Nat) (a':Option Body),h<=a1->SM T g L R->a<=R->R<=a+400->(∀ e,e<h->e≠g->T e=k e)->(∃ b8:List ByteArray,ak l=ak b8)/\SMI k g L a 400 (retH h k (upd T a1 a')):=by
   intro l T R a1 a' cx bk bl bm bo;refine ⟨⟨l,rfl⟩,SMI.fin a4 (fun e q y=>?_) ?_ bl bm⟩
   ·rw [qv]; exact bo e y q
   ·unfold SM; rw [qv]; exact bk
  simp [J];refine ACalls.draw (ek L Z 15 g ab aa (by omega) Q (by omega) (by omega) ai (by omega)) fun bc o S G ar bN cb cc M C=>?_
  obtain ⟨b,rfl⟩:=ar;have w:=(C f (by omega)).trans P
  have a8:∀ e,e<h->e≠g->o e=k e:=fun e y q=>(C e q).trans (z e y q);have N:(ak c).length=c.length:=by simp [ak]
  cases b
  ·have ao:aP (List.take c.length (ak c))=ak c:=by rw [q8 (by omega),eE]
   simp [t,w,ao,N];exact fin c o G f _ (by omega) M (by omega) (by omega) a8
  simp [bsI,az];refine ACalls.draw (R:=fun a2=>∃ d,a2=.str d/\d∈([⟨#[115,48]⟩,⟨#[122,122]⟩,⟨#[]⟩,⟨#[65]⟩]:List ByteArray)) (eT [⟨#[115,48]⟩,⟨#[122,122]⟩,⟨#[]⟩,⟨#[65]⟩] L G g o S (by simp) (by simp) M (by omega) (by omega) ai (by omega)) fun bc ag m bf b4 bW c0 c1 ch bb=>?_
  obtain ⟨K,rfl,_⟩:=b4;have bt:=(bb f (by omega)).trans w
  have b9:∀ e,e<h->e≠g->ag e=k e:=fun e y q=>(bb e q).trans (a8 e y q);have al:=bE (sz:=1) (bytes:=16) (md:=.plain) (len:=c.length) (x:=[.str K]) (b:=true) (s:=⟨ag,m⟩) (by simp) bt N (by decide) (by decide) (by decide) rfl (by omega)
  have ao:aP (List.take (c.length+1) (ak c++[[AV.str K]]))=ak (c++[K]):=by
   rw [q8 (by simp [ak])]
   have bj:ak c++[[AV.str K]]=ak (c++[K]):=by simp [ak]
   rw [bj,eE]
  simp [t,bsI,az,al,ao,N];refine fin (c++[K]) (upd ag f none) bf m _ (by omega) ?_ (by omega) (by omega) fun e y q=>?_
  ·unfold SM; rw [qv]; exact ch
  ·rw [qv]; exact b9 e y q
 ·intro i x xs a2 s' a5 b5 cq J O;rw [H] at O;obtain ⟨f,c,Z,t,b6,ax,a0,P,Q,b7,a7,z⟩:=O;obtain ⟨ab,aa⟩:=s';simp at t;simp only at a0 P Q z;have ap:=q0 (x:=(i:Int)+1)
  have N:(ak c).length=c.length:=by simp [ak]
  have b1:(ak D)[i]?=some [.str x]:=by unfold ak; rw [rb,q3 a5,b5]; rfl
  obtain ⟨_,b0⟩:=q4.1 b1;simp [J,a5,b0,a3];refine ACalls.draw (ek L Z 3 g ab aa (by omega) Q (by omega) (by omega) ai (by omega)) fun bc o S G ar bN cb cc M C=>?_
  obtain ⟨b,rfl⟩:=ar;have w:=(C f (by omega)).trans P
  cases b
  ·simp [J,ap];rw [H];exact ⟨f,c,G,by simp [t],by omega,ax,by show f<S; omega,w,M,by omega,by push_cast; omega,fun d u v=>(C d v).trans (z d u v)⟩
  simp [t];refine ACalls.at (pL f c x o S w (by omega)) fun m bW=>?_
  cases inL x c
  case true=>
   simp [J,ap];rw [H];exact ⟨f,c,G,by simp [t],by omega,ax,by show f<m; omega,w,M,by omega,by push_cast; omega,fun d u v=>(C d v).trans (z d u v)⟩
  have al:=bE (sz:=1) (bytes:=16) (md:=.plain) (len:=c.length) (x:=[.str x]) (b:=true) (s:=⟨o,m⟩) (by simp) w N (by decide) (by decide) (by decide) rfl (by omega)
  simp [t,bsI,az,al,J,ap];rw [H];refine ⟨m,c++[x],G,by simp,by simp; omega,by omega,q7 _,?_,?_,by omega,by push_cast; omega,fun d u v=>?_⟩
  ·show upd (upd o f none) m _ m=_;rw [ae]; simp [ak]
  ·show upd (upd o f none) m _ g=_;rw [qv,qv]; exact M
  ·show upd (upd o f none) m _ d=_;rw [qv,qv,C d v]; exact z d u v
def A4:Wb.Prog:=⟨[⟨⟨#[97]⟩,[3]⟩],[.mk 3 ⟨#[115]⟩ [] [] [] [] ⟨#[97]⟩ [⟨0,[]⟩] (.mk 1 7 ⟨0,[]⟩ ⟨#[]⟩ [] [])]⟩
theorem qp {h:Heap} {c:Nat} {A:List Wb.Array} {x:AV} {l:List Inst} (d:UsesAt h c A x l) (s:St):eL 1 x s=some (.int l.length):=by
 obtain ⟨e,b,a,_⟩:=d;rcases b with ⟨rfl,rfl⟩ | ⟨f,rfl,_⟩
 ·simp at a; rw [<-a]; rfl
 ·rw [<-a]; rfl
theorem zG (L:List Int) (a2:L.length<=1048576) (a:Int) (g:Nat) (d:Heap) (b:Nat) (bc:SM d g L a) (bj:0<=a) (bk:a<10000000) (a6:g<b) :
  ACalls Pg 37 [.ptr g 0 0] ⟨d,b⟩ fun av s'=>(∃ p:Wb.Prog,av=p.av/\aw p.steps<=32)/\∃ e,a<=e/\e<=a+24000/\SM s'.h g L e/\∀ k,k<b->k≠g->s'.h k=d k:=by
 refine Fn37.calls .frz ?_;unfold Fn37.ac;simp;obtain ⟨J,t⟩:∃ J:Nat->List Unit->Slots->St->Prop,J=fun (i:Nat) r bN s'=>∃ e,SM s'.h g L e/\a<=e/\e<=a+4000*i/\s'.h b=some (.row 2 [[.nil,.nil]] .live none)/\b<s'.c/\∀ k,k<b->k≠g->s'.h k=d k:=⟨_,rfl⟩;have fin:∀ (c:Heap) (l:Int),SM c g L l->a<=l->l<=a+24000->(∀ H,H<b->H≠g->c H=d H)->∃ e,a<=e/\e<=a+24000/\SM (retH b d c) g L e/\∀ k,k<b->k≠g->retH b d c k=d k:=by
  intro c l ar ax a0 a1;refine ⟨l,ax,a0,?_,fun k h G=>?_⟩
  ·show (if g<b then c g else d g)=_
   rw [if_pos a6]; exact ar
  ·show (if k<b then c k else d k)=_
   rw [if_pos h]; exact a1 k h G
 refine aZ 6 Fn37.W0 (List.replicate 6 ()) J (by rfl) (by rfl) ?_ ?_ ?_
 ·rw [t];exact ⟨by simp,a,by show upd d b _ g=_; rw [qv]; exact bc,by omega,by simp,ae,q7 _,fun k h _=>by show upd d b _ k=_; rw [qv]⟩
 ·intro am s' u q;rw [t] at q;obtain ⟨y,v,ai,al,w,P,x⟩:=q;obtain ⟨c,C⟩:=s';have bf:am 6=.int 6:=u;simp only at v w P x;have bi:y<=a+24000:=by simpa using al
  simp [bf,bsI,az,aH,w];exact ⟨⟨A4,rfl,by decide⟩,fin c y v ai bi x⟩
 ·intro i bW b0 am s' a7 bt bo u q;rw [t] at q;obtain ⟨y,v,ai,al,w,P,x⟩:=q;obtain ⟨c,C⟩:=s';simp only at v w P x;have a8:i<6:=by simpa using a7
  have a9:(i:Int)<6:=by omega
  have ag:=q0 (x:=(i:Int)+1)
  simp [u,a8,a9];refine (vz L a2 y g c C v (by omega) (by omega) (by omega)).mono ?_
  rintro av ⟨Y,f⟩ a3 ⟨⟨p,rfl,Z⟩,z,bl,bm,ab,Q⟩;simp only at a3 ab Q;have a5:aw p.steps<=300:=by have:=Z.steps; omega
  have aa:=fun c C=>vA p a5 c C;simp only [Prog.av] at aa;obtain ⟨m,M⟩:∃ m,m=upd Y f (some (.row 2 [[row (p.arrays.map Array.cells),row (p.steps.map Step.cells)]] .live none)):=⟨_,rfl⟩;have ao:m f=_:=(congrFun M f).trans ae;have S:∀ k,k<f->m k=Y k:=fun k h=>by rw [M,qv]
  simp [Prog.av];rw [<-M];refine (aa m (f+1)).mono ?_;rintro av ⟨D,U⟩ a4 ⟨bx,rfl,o,bb,N⟩;simp only at a4 o bb N;have T:SM D g L z:=by unfold SM; rw [o.h g (by omega),S g (by omega)]; exact ab
  have ap:=(o.h f (by omega)).trans ao
  have R:∀ k,k<b->k≠g->D k=d k:=fun k h G=>by rw [o.h k (by omega),S k (by omega),Q k (by omega) G]; exact x k h G
  have K:D b=some (.row 2 [[.nil,.nil]] .live none):=by rw [o.h b (by omega),S b (by omega),Q b (by omega) (by omega)]; exact w
  by_cases O:aV p=0
  case neg=>
   simp [O,u,ag];rw [t];exact ⟨z,T,by omega,by push_cast; omega,K,by show b<U; omega,R⟩
  rw [if_pos O] at N;have a':=fun s=>qp N s;simp [O,a'];by_cases W:((aB p).2.l.length:Int)<=150
  case neg=>
   simp [W,u,ag];rw [t];exact ⟨z,T,by omega,by push_cast; omega,K,by show b<U; omega,R⟩
  simp [W,ap,K];exact ⟨⟨p,⟨rfl,rfl⟩,Z.steps⟩,fin D z T (by omega) (by omega) R⟩
end Go.Proofs.YtjhogglgkjcacaaGreat
set_option maxRecDepth 100000
set_option maxHeartbeats 4000000
namespace Go.Proofs.YtjhogglgkjcacaaGreat
open Go.AM Go.Wb Go.Shelf Go.RowKit Go.Lib Go.Sort
def Ay:Go.Shelf.Ren:=⟨fun a=>match a with | 106=>66 | 213=>152 | 265=>227 | f=>a,fun c=>c,fun b=>b⟩
theorem zq:Lays.n106 Tryz.prog Ay where
 mixed:=by kernel_rfl
 f106:=Tryz.func66.trans (congrArg some (by kernel_rfl))
 f213:=Tryz.func152.trans (congrArg some (by kernel_rfl))
 f265:=Tryz.func227.trans (congrArg some (by kernel_rfl))
 t3:=Tryz.underlying3
 a3:=Tryz.isAgg3
 z3:=Tryz.sizeOf3
 v3:=Tryz.zeroValue3
 t9:=Tryz.underlying9
 a9:=Tryz.isAgg9
 z9:=Tryz.sizeOf9
 v9:=Tryz.zeroValue9
def SpotB:Type:={ s:Wb.Spot // 0<=s.cell/\s.cell<=1000000000 }
instance:Inhabited SpotB:=⟨⟨⟨⟨#[]⟩,0⟩,by decide,by decide⟩⟩
def gt (x:SpotB):List Value:=[.string x.1.array,.int .i64 x.1.cell]
def dI (x y:Wb.Spot):Int:=if x.array=y.array then x.cell-y.cell else Lib.compareBytes (bs x.array) (bs y.array)
def gQ (x y:SpotB):Int:=dI x.1 y.1
def bK (L:List Wb.Spot):List Wb.Spot:=L.mergeSort fun a b=>!(decide (dI b a<0))
theorem qz (a:List UInt8):Lib.compareBytes a a=0:=by have:=lq a a; omega
theorem pf {x y:Wb.Spot}:dI x y<0↔Lib.compareBytes (bs x.array) (bs y.array)<0\/(x.array=y.array/\x.cell<y.cell):=by
 unfold dI;by_cases b:x.array=y.array
 ·rw [if_pos b,b,qz]; constructor
  ·intro a; exact .inr ⟨rfl,by omega⟩
  ·rintro (a | a)
   ·omega
   ·omega
 ·rw [if_neg b];exact ⟨.inl,fun a=>a.elim id fun a=>absurd a.1 b⟩
theorem pg {x y z:Wb.Spot} (a:¬dI x y<0) (b:¬dI y z<0):¬dI x z<0:=by
 rw [pf] at a b ⊢;simp only [not_or,not_and,Int.not_lt] at a b ⊢;have f:=sV (a:=bs z.array) (b:=bs y.array) (c:=bs x.array) b.1 a.1;refine ⟨f,fun c=>?_⟩;have g:=lq (bs y.array) (bs x.array);have e:Lib.compareBytes (bs x.array) (bs y.array)=0:=by
  have:=b.1;rw [<-c] at this;have:=a.1;omega
 have d:x.array=y.array:=pF (uV e);have:=a.2 d;have:=b.2 (d.symm.trans c);omega
theorem sW {x y:Wb.Spot} (a:dI x y<0):¬dI y x<0:=by
 rw [pf] at a ⊢;have d:=lq (bs y.array) (bs x.array);rintro (b | ⟨b,e⟩)
 ·rcases a with a | ⟨a,c⟩
  ·omega
  ·rw [a,qz] at b; omega
 ·rcases a with a | ⟨a,c⟩
  ·rw [b,qz] at a; omega
  ·omega
theorem qQ {x y:Wb.Spot} (a:¬dI x y<0) (b:¬dI y x<0):x=y:=by
 rw [pf] at a b;simp only [not_or,not_and,Int.not_lt] at a b;have h:=lq (bs y.array) (bs x.array);have c:x.array=y.array:=pF (uV (by have:=a.1; have:=b.1; omega))
 have:=a.2 c;have:=b.2 c.symm;obtain ⟨d,f⟩:=x;obtain ⟨e,g⟩:=y;simp only at *;subst c;congr 1; omega
theorem swoS:SWO (ltOf gQ) where
 irrefl x:=by
  unfold ltOf gQ dI; simp
 trans x y z h1 h2:=by
  unfold ltOf gQ at *;simp only [decide_eq_true_eq] at *;by_cases h:dI x.1 z.1<0
  ·exact h
  ·exact absurd h1 (pg h (sW h2))
 ntrans x y z h1 h2:=by
  unfold ltOf gQ at *;simp only [decide_eq_false_iff_not] at *;exact pg h1 h2
theorem totS (x y:SpotB) (a:ltOf gQ x y=false) (b:ltOf gQ y x=false):x=y:=by
 unfold ltOf gQ at *;simp only [decide_eq_false_iff_not] at *;exact Subtype.ext (qQ a b)
theorem qk (a b:ByteArray) (W:World):Calls Tryz.prog 66 #[.string a,.string b] W fun e w'=>e=.returned (.int .i64 (Lib.compareBytes (bs a) (bs b)))/\w'=W:=Any.strings_Compare zq a b W
theorem mG (W:World) (a b:Obj):∃ d c,(W.alloc a).alloc b=grow (W.drewN d) c:=⟨0,#[a]++#[b],by rw [alloc_eq_grow,alloc_eq_grow,grow_grow]; rfl⟩
theorem uW (x y:SpotB) (W:World):Calls Tryz.prog 123 #[.agg (gt x).toArray,.agg (gt y).toArray] W fun e w'=>e=.returned (.int .i64 (gQ x y))/\∃ o m,w'=grow (W.drewN o) m:=by
 obtain ⟨⟨a,i⟩,g,h⟩:=x;obtain ⟨⟨b,j⟩,k,l⟩:=y;simp only at g h k l;have q:IntKind.i64.wrap (i-j)=i-j:=ah (by omega) (by omega)
 have f:=fun d=>qk a b d;unfold gt gQ dI;simp only;by_cases c:a=b
 ·subst c
  go_enter Tryz.func123,Tryz.ntmps123
  go_wp2
  go_ret
  exact ⟨rfl,mG _ _ _⟩
 ·have p:(a.toList==b.toList)=false:=by
   rw [beq_eq_false_iff_ne,ByteArray.toList_eq,ByteArray.toList_eq];exact fun e=>c (pF e)
  go_enter Tryz.func123,Tryz.ntmps123
  go_wp2_with (go_at_call 66; refine (f _).mono ?_; rintro e w' ⟨rfl,rfl⟩)
  ·go_ret
   exact ⟨rfl,mG _ _ _⟩
theorem wK (x y:SpotB) (W:World):Calls Tryz.prog 132 #[.agg (gt x).toArray,.agg (gt y).toArray] W fun e w'=>e=.returned (.int .i64 (gQ x y))/\∃ o m,w'=grow (W.drewN o) m:=by
 obtain ⟨⟨a,i⟩,g,h⟩:=x;obtain ⟨⟨b,j⟩,k,l⟩:=y;simp only at g h k l;have q:IntKind.i64.wrap (i-j)=i-j:=ah (by omega) (by omega)
 have f:=fun d=>qk a b d;unfold gt gQ dI;simp only;by_cases c:a=b
 ·subst c
  go_enter Tryz.func132,Tryz.ntmps132
  go_wp2
  go_ret
  exact ⟨rfl,mG _ _ _⟩
 ·have p:(a.toList==b.toList)=false:=by
   rw [beq_eq_false_iff_ne,ByteArray.toList_eq,ByteArray.toList_eq];exact fun e=>c (pF e)
  go_enter Tryz.func132,Tryz.ntmps132
  go_wp2_with (go_at_call 66; refine (f _).mono ?_; rintro e w' ⟨rfl,rfl⟩)
  ·go_ret
   exact ⟨rfl,mG _ _ _⟩
end Go.Proofs.YtjhogglgkjcacaaGreat
set_option maxRecDepth 100000
namespace Go.Proofs.YtjhogglgkjcacaaGreat
open Go.Shelf
def A6 (f:Nat):Nat:=match f with
 | 6=>122
 | 14=>188
 | 15=>151
 | 20=>259
 | 21=>260
 | 22=>261
 | 23=>262
 | 24=>263
 | 25=>264
 | 26=>265
 | 27=>266
 | 28=>225
 | 29=>226
 | 46=>317
 | 47=>288
 | 48=>289
 | 49=>318
 | 50=>319
 | 57=>348
 | f=>f
def A7 (t:Nat):Nat:=match t with
 | 0=>0
 | 3=>3
 | 4=>4
 | 5=>5
 | 9=>9
 | 22=>84
 | 24=>78
 | 25=>211
 | 39=>251
 | 45=>319
 | 46=>320
 | 50=>205
 | 53=>326
 | 55=>328
 | 66=>388
 | 70=>99
 | 76=>426
 | 77=>142
 | t=>t
def zm:Go.Shelf.Ren:=⟨A6,A7,fun a=>a⟩
theorem rC:SlLaysF0.n6 Tryz.prog zm where
 mixed:=by kernel_rfl
 f6 := ⟨ "slices.SortFunc[[]warpbeam/api.Spot,warpbeam/api.Spot]", by decide, Tryz.func122.trans (congrArg some (by kernel_rfl))⟩
 f14 := ⟨ "slices.pdqsortCmpFunc[warpbeam/api.Spot]", by decide, Tryz.func188.trans (congrArg some (by kernel_rfl))⟩
 f15:=Tryz.func151.trans (congrArg some (by kernel_rfl))
 f20 := ⟨ "slices.insertionSortCmpFunc[warpbeam/api.Spot]", by decide, Tryz.func259.trans (congrArg some (by kernel_rfl))⟩
 f21 := ⟨ "slices.heapSortCmpFunc[warpbeam/api.Spot]", by decide, Tryz.func260.trans (congrArg some (by kernel_rfl))⟩
 f22 := ⟨ "slices.breakPatternsCmpFunc[warpbeam/api.Spot]", by decide, Tryz.func261.trans (congrArg some (by kernel_rfl))⟩
 f23 := ⟨ "slices.choosePivotCmpFunc[warpbeam/api.Spot]", by decide, Tryz.func262.trans (congrArg some (by kernel_rfl))⟩
 f24 := ⟨ "slices.reverseRangeCmpFunc[warpbeam/api.Spot]", by decide, Tryz.func263.trans (congrArg some (by kernel_rfl))⟩
 f25 := ⟨ "slices.partialInsertionSortCmpFunc[warpbeam/api.Spot]", by decide, Tryz.func264.trans (congrArg some (by kernel_rfl))⟩
 f26 := ⟨ "slices.partitionEqualCmpFunc[warpbeam/api.Spot]", by decide, Tryz.func265.trans (congrArg some (by kernel_rfl))⟩
 f27 := ⟨ "slices.partitionCmpFunc[warpbeam/api.Spot]", by decide, Tryz.func266.trans (congrArg some (by kernel_rfl))⟩
 f28:=Tryz.func225.trans (congrArg some (by kernel_rfl))
 f29:=Tryz.func226.trans (congrArg some (by kernel_rfl))
 f46 := ⟨ "slices.siftDownCmpFunc[warpbeam/api.Spot]", by decide, Tryz.func317.trans (congrArg some (by kernel_rfl))⟩
 f47:=Tryz.func288.trans (congrArg some (by kernel_rfl))
 f48:=Tryz.func289.trans (congrArg some (by kernel_rfl))
 f49 := ⟨ "slices.medianAdjacentCmpFunc[warpbeam/api.Spot]", by decide, Tryz.func318.trans (congrArg some (by kernel_rfl))⟩
 f50 := ⟨ "slices.medianCmpFunc[warpbeam/api.Spot]", by decide, Tryz.func319.trans (congrArg some (by kernel_rfl))⟩
 f57 := ⟨ "slices.order2CmpFunc[warpbeam/api.Spot]", by decide, Tryz.func348.trans (congrArg some (by kernel_rfl))⟩
 t0:=Tryz.underlying0
 a0:=Tryz.isAgg0
 z0:=Tryz.sizeOf0
 v0:=Tryz.zeroValue0
 t3:=Tryz.underlying3
 a3:=Tryz.isAgg3
 z3:=Tryz.sizeOf3
 v3:=Tryz.zeroValue3
 t4:=Tryz.underlying4
 a4:=Tryz.isAgg4
 z4:=Tryz.sizeOf4
 v4:=Tryz.zeroValue4
 t5:=Tryz.underlying5
 a5:=Tryz.isAgg5
 z5:=Tryz.sizeOf5
 v5:=Tryz.zeroValue5
 t9:=Tryz.underlying9
 a9:=Tryz.isAgg9
 z9:=Tryz.sizeOf9
 v9:=Tryz.zeroValue9
 t22:=Tryz.underlying84
 a22:=Tryz.isAgg84
 z22:=Tryz.sizeOf84
 v22:=Tryz.zeroValue84
 t25:=Tryz.underlying211
 a25:=Tryz.isAgg211
 z25:=Tryz.sizeOf211
 v25:=Tryz.zeroValue211
 t39:=Tryz.underlying251
 a39:=Tryz.isAgg251
 z39:=Tryz.sizeOf251
 v39:=Tryz.zeroValue251
 t45:=Tryz.underlying319
 a45:=Tryz.isAgg319
 z45:=Tryz.sizeOf319
 v45:=Tryz.zeroValue319
 t46:=Tryz.underlying320
 a46:=Tryz.isAgg320
 z46:=Tryz.sizeOf320
 v46:=Tryz.zeroValue320
 t50:=Tryz.underlying205
 a50:=Tryz.isAgg205
 z50:=Tryz.sizeOf205
 v50:=Tryz.zeroValue205
 t53:=Tryz.underlying326
 a53:=Tryz.isAgg326
 z53:=Tryz.sizeOf326
 v53:=Tryz.zeroValue326
 t55:=Tryz.underlying328
 a55:=Tryz.isAgg328
 z55:=Tryz.sizeOf328
 v55:=Tryz.zeroValue328
 t66:=Tryz.underlying388
 a66:=Tryz.isAgg388
 z66:=Tryz.sizeOf388
 v66:=Tryz.zeroValue388
 t70:=Tryz.underlying99
 a70:=Tryz.isAgg99
 z70:=Tryz.sizeOf99
 v70:=Tryz.zeroValue99
 t76:=Tryz.underlying426
 a76:=Tryz.isAgg426
 z76:=Tryz.sizeOf426
 v76:=Tryz.zeroValue426
 t77:=Tryz.underlying142
 a77:=Tryz.isAgg142
 z77:=Tryz.sizeOf142
 v77:=Tryz.zeroValue142
end Go.Proofs.YtjhogglgkjcacaaGreat
set_option maxRecDepth 20000
set_option maxHeartbeats 4000000
namespace Go.Proofs.YtjhogglgkjcacaaGreat
open Go.AM Go.Wb Go.Sort
theorem oK {G:Gh} {g sz off len:Nat} {v:Value} (h:Rep G (.row g sz off len) v):∃ l a,G.loc g=some l/\l.sz=sz/\off+len<=l.cap/\(off<l.cap->a=some ⟨l.b,off*l.sz,none⟩)/\v=.slice a len (l.cap-off):=by
 obtain ⟨c,b⟩:∃ c,c=AV.row g sz off len:=⟨_,rfl⟩;rw [<-b] at h;cases h with
 | row q w u l a o p m t=>
  injection b with d e f k;subst d; subst e; subst f; subst k;exact ⟨l,a,o,rfl,p,m,rfl⟩
 | _=>cases b
theorem qg:∀ L:List Wb.Spot,(∀ s∈L,0<=s.cell/\s.cell<=1000000000)->∃ B:List SpotB,B.map (·.1)=L
 | [],_=>⟨[],rfl⟩
 | s::L,a=>by
  obtain ⟨B,b⟩:=qg L fun s c=>a s (r3 _ c);exact ⟨(⟨s,a s r4⟩:SpotB)::B,congrArg (s::·) b⟩
theorem tf (a:Array SpotB) {i j:Nat} (f:i<a.size) (g:j<2):(flatK gt 2 a)[i*2+j]?=some ((gt a[i])[j]!):=by
 have c:i*2+j<a.size*2:=by omega
 have b:=get_flatK gt 2 a (i*2+j) c;have d:(i*2+j) / 2=i:=by omega
 have e:(i*2+j) % 2=j:=by omega
 rw [d,e,getElem!_pos a i f] at b;rw [rm (by rw [size_flatK]; exact c),<-b,getElem!_pos]
theorem nM (f:Nat) (a7:f=123\/f=132) (L:List Wb.Spot) (bW:∀ s∈L,0<=s.cell/\s.cell<=1000000000) (dl:L.length<=1000000000) (x:AV) (m:Heap) (w:Nat) (d:RowAt m 2 x (L.map Spot.cells)) (dp:∀ k,au x k->k<w) :
  ACalls Pg 122 [x,.fn (.func f) [] []] ⟨m,w⟩ fun av s'=>(∀ k,k<w->¬au x k->s'.h k=m k)/\RowAt s'.h 2 x ((bK L).map Spot.cells):=by
 have a6:(∀ v a,(callFunc f v).run Pg a=.ok (.enter f v) a)/\∀ (x o:SpotB) (ax:World),Calls Pg f #[.agg (gt x).toArray,.agg (gt o).toArray] ax fun b e=>b=.returned (.int .i64 (gQ x o))/\∃ c1 c0,e=grow (ax.drewN c1) c0:=by
  rcases a7 with rfl | rfl
  ·exact ⟨fun v a=>Tryz.call123 v a,uW⟩
  ·exact ⟨fun v a=>Tryz.call132 v a,wK⟩
 intro H a c3 ai D;obtain ⟨cb,Q⟩:=D
 match c3,cb,Q with
 | [z,bj],_,Q=>
  have P:=Q 0 _ z rfl rfl;have cc:=Q 1 _ bj rfl rfl;have ch:bj=.func (.func f) #[] #[]:=by
   cases cc with
   | fn _ _ _ u l cp cq dW d0=>
    have W:u=#[]:=by apply sp; simpa using cp.symm
    have bo:l=#[]:=by apply sp; simpa using cq.symm
    rw [W,bo]
  subst ch;unfold CallOk;rw [show (callFunc 122 [z,Value.func (.func f) #[] #[]].toArray).run Pg a=.ok (.enter 122 [z,Value.func (.func f) #[] #[]].toArray) a from Tryz.call122 _ _]
  show Calls Pg 122 #[z,Value.func (.func f) #[] #[]] a _;have cx:L=[]->(∃ ar J,z=.slice ar 0 J)->RowAt m 2 x ((bK L).map Spot.cells)->Calls Pg 122 #[z,Value.func (.func f) #[] #[]] a (fun b e=>match b with | .returned t=>∃ av U s',Stp H ⟨m,w⟩ a U s' e/\Sim U s' e/\Rep U av t/\((∀ k,k<w->¬au x k->s'.h k=m k)/\RowAt s'.h 2 x ((bK L).map Spot.cells)) | _=>False):=by
   rintro _ ⟨ar,J,rfl⟩ b9;refine (AnyF.slices_SortFunc_none rC ar J (.func (.func f) #[] #[]) a).mono ?_;rintro b e ⟨rfl,rfl⟩;exact ⟨.tup [],H,⟨m,w⟩,.refl _ _ _,ai,.tup [] #[] rfl (fun j bk t M=>by simp at M),fun _ _ _=>rfl,b9⟩
  by_cases C:L=[]
  ·refine cx C ?_ (by subst C; simpa [bK] using d)
   subst C;rcases d with ⟨rfl,_⟩ | ⟨K,rfl,ap⟩
   ·cases P with
    | sl c4 c5 u J l dN d1 f da a7 a5 ds dn M al=>exact ⟨_,_,rfl⟩
   ·obtain ⟨c,u,_,_,_,_,rfl⟩:=oK P;exact ⟨_,_,rfl⟩
  rcases d with ⟨_,d⟩ | ⟨K,rfl,ap⟩
  ·exact absurd (by simpa using d) C
  rw [so] at P;obtain ⟨c,u,a',bc,di,a5,rfl⟩:=oK P;have c6:0<L.length:=r6.2 C;have ao:0<c.cap:=by omega
  obtain rfl:=a5 ao;obtain ⟨dv,bb,c7,c8,⟨c9,b0⟩,c'⟩:=ai.blk K _ ap;rw [a'] at bb; injection bb with W; subst W;obtain ⟨T,c2,y,a3,a4⟩:=b0 ao;obtain ⟨B,aa⟩:=qg L bW;have a2:B.length=L.length:=by rw [<-aa,so]
  rw [bc] at a3 a4;have b4:∀ i (g:i<B.length),L[i]?=some B[i].1:=fun i g=>by rw [<-aa,rb,q3 g]; rfl
  have bN:HoldsK gt 2 a c.b 0 B.toArray:=by
   intro j p;rw [size_flatK,xm] at p;obtain ⟨i,G,rfl,a9⟩:∃ i G,j=i*2+G/\G<2:=⟨j / 2,j % 2,by omega,by omega⟩
   have g:i<B.length:=by omega
   have b:=tf B.toArray (i:=i) (j:=G) (by simpa using g) a9
   rw [getElem!_pos _ _ (by rw [size_flatK,xm]; omega)]
   rw [rm (by rw [size_flatK,xm]; omega)] at b
   injection b with b;rw [b,s7];refine ⟨?_,by simp [World.frozen?,y]⟩
   have d:=(a4 i (Spot.cells B[i].1) (by rw [rb,b4 i g]; rfl)).2
   rw [lu y]
   match G,a9 with
   | 0,_=>
    obtain ⟨_,t,Y,Z⟩:=d 0 (.str B[i].1.array) rfl;rw [Y,bH Z]; rfl
   | 1,_=>
    obtain ⟨_,t,Y,Z⟩:=d 1 (.int B[i].1.cell) rfl;rw [Y,bH Z]; rfl
  have b1:c.b<a.heap.size:=(u7.1 y).1;have bi:=AnyQ.slices_SortFunc_total rC 2 (fun a=>Tryz.isAgg78 a) (fun a=>Tryz.sizeOf78 a) gt (fun _=>rfl) (fun x t D=>by
   unfold gt at D; simp at D; rcases D with rfl | rfl <;> rfl) gQ swoS f #[] c.b 0 (c.cap-0) B.toArray a a6.1
   (fun cs S bl _ x o=>by simpa using a6.2 x o (sortWorldK gt 2 a c.b 0 cs bl S)) bN b1 (by rw [xm]; omega) totS
  have bm:0*c.sz=0:=y2 _;rw [bm];rw [xm,a2] at bi;refine Calls.mono bi ?_;rintro b e ⟨rfl,n,S,R⟩;obtain ⟨h,ab⟩:∃ h,h=B.mergeSort fun x o=>!(ltOf gQ) o x:=⟨_,rfl⟩;have a0:h.length=L.length:=by rw [ab,List.length_mergeSort,a2]
  have a1:h.map (·.1)=bK L:=by
   rw [ab,<-aa];unfold bK;rw [List.map_mergeSort];intro u _ l _;rfl
  have cn:(B.toArray.toList.mergeSort fun x o=>!(ltOf gQ) o x).toArray=h.toArray:=by rw [ab]
  rw [cn] at R;obtain ⟨F,N⟩:∃ F,F=flatK gt 2 h.toArray:=⟨_,rfl⟩;have bx:F.size=L.length*2:=by rw [N,size_flatK,xm,a0]
  have dk:L.length*2<=c.cap*2:=by omega
  have b3:∀ i (g:i<h.length),(bK L)[i]?=some h[i].1:=fun i g=>by rw [<-a1,rb,q3 g]; rfl
  have O:(bK L).length=L.length:=by rw [<-a1,so,a0]
  have b2:Flat H 2 ((bK L).map Spot.cells) F.toList:=by
   refine ⟨by rw [so,O,tx,bx],fun i x d=>?_⟩
   have g:i<h.length:=by
    have:=(q4.1 d).1;rw [so,O] at this; omega
   rw [rb,b3 i g] at d;injection d with d;subst d;refine ⟨rfl,fun j u q=>?_⟩;have p:j<2:=(q4.1 q).1;have b:=tf h.toArray (i:=i) (j:=j) (by simpa using g) p
   rw [<-N] at b;rw [w6,b]
   match j,p with
   | 0,_=>injection q with q; subst q; exact ⟨rfl,_,rfl,.sc _ rfl⟩
   | 1,_=>injection q with q; subst q; exact ⟨rfl,_,rfl,.sc _ rfl⟩
  obtain ⟨C',ag⟩:∃ C',C'=putCells id 0 F T:=⟨_,rfl⟩;have bt:C'.size=T.size:=by rw [ag]; simp [putCells]
  have cl:=kr (es':=(bK L).map Spot.cells) (C':=C') ai ap a' ao y bt (by rw [bc]; exact a3) (by rw [so,O]; omega) b2 (fun j t p=>by
   rw [w6] at p;obtain ⟨b5,b6⟩:=u7.1 p;rw [ag];unfold putCells;rw [Array.getElem?_mapIdx,rm (by omega)]
   simp only [EH];rw [if_pos ⟨by omega,by omega⟩,Nat.sub_zero,getElem!_pos F j b5,b6]; rfl)
  obtain ⟨bf,ca⟩:=cl;have a8:∀ l,l<(a.setRow c.b C').heap.size->e.heap[l]?=(a.setRow c.b C').heap[l]?:=fun l al=>by
   rw [size_setRow] at al;have b:e.heap=a.heap.modify c.b (onCells (putCells id 0 F))++S:=by rw [R,N]; rfl
   rw [b,xq (by simpa using al),z6]
   by_cases am:c.b=l
   ·subst am;rw [if_pos rfl,y,setRow_heap a c.b T C' c2 _ y,ag]; rfl
   ·rw [if_neg am,setRow_other a c.b l C' (fun b=>am b.symm)]
  have b':(a.setRow c.b C').heap.size<=e.heap.size:=by
   have b:e.heap=a.heap.modify c.b (onCells (putCells id 0 F))++S:=by rw [R,N]; rfl
   rw [size_setRow,b]; simp
  have b8:e.os=a.os/\e.tape=a.tape/\e.output=a.output:=by rw [R]; exact ⟨rfl,rfl,rfl⟩
  refine ⟨.tup [],H,_,ca.trans (Stp.grow bf a8 b' b8),bf.grow a8,.tup [] #[] rfl (fun j bk t M=>by simp at M),fun k de b7=>?_,.inr ⟨K,by rw [so,so,O],ae⟩⟩
  show upd m K _ k=_;rw [ad];intro b; exact b7 (aq.2 b)
theorem rj (m:List (Wb.Spot×Bool)) (D:List Nat) (h:D.Nodup) (f:∀ i,i<m.length->i∈D) (d:∀ i∈D,i<m.length):∃ L:List Wb.Spot,(D.map fun i=>(bZ m i).cells)=L.map Spot.cells/\L.Perm (m.map (·.1)):=by
 refine ⟨D.map fun i=>((m[i]?).map (·.1)).getD ⟨⟨#[]⟩,0⟩,?_,?_⟩
 ·rw [y3];refine v6 fun i g=>?_;have:=d i g;simp [bZ,this,aM,AV.cells]
 ·have k:D.Perm (List.range m.length):=(EJ h List.nodup_range).2 fun b=>⟨fun a=>uc.2 (d b a),fun a=>f b (uc.1 a)⟩;have e:m.map (·.1)=(List.range m.length).map fun i=>((m[i]?).map (·.1)).getD ⟨⟨#[]⟩,0⟩:=by
   refine zi (by simp) fun j c l=>?_
   simp at c;simp [c]
  rw [e];exact k.map _
theorem oM {L c:List Wb.Spot} (l:L.Perm c):bK L=bK c:=by
 have h:∀ a b f:Wb.Spot,(!(decide (dI b a<0)))=true->(!(decide (dI f b<0)))=true->(!(decide (dI f a<0)))=true:=fun a b f d e=>by
  simp only [y5,decide_eq_false_iff_not] at *;exact pg e d
 have k:∀ a b:Wb.Spot,(!(decide (dI b a<0))||!(decide (dI a b<0)))=true:=fun a b=>by
  by_cases g:dI b a<0
  ·simp [sW g]
  ·simp [g]
 have o:=EP h k L;have p:=EP h k c;have m:(bK L).Perm (bK c):=(D3 L _).trans (l.trans (D3 c _).symm);refine m.eq_of_pairwise (fun a b _ _ d e=>?_) o p;simp only [y5,decide_eq_false_iff_not] at d e;exact qQ e d
theorem tP {L a:List Wb.Spot} (b:L.Nodup) (c:a.Nodup) (h:∀ s,s∈L↔s∈a):bK L=bK a:=oM ((EJ b c).2 h)
end Go.Proofs.YtjhogglgkjcacaaGreat
set_option maxRecDepth 20000
set_option maxHeartbeats 4000000
namespace Go.Proofs.YtjhogglgkjcacaaGreat
open Go.AM Go.Wb
def df (p:Wb.Prog) (a:Wb.Spot):Int:=if aV p=0 then cw p.arrays a else aV p
theorem wY (i:Nat) (a:Bool×Wb.Spot):aG Pg 121 [.agg (gF i a)] (aM a.2):=by
 rintro ⟨c,b⟩;refine Fn121.calls .frz ?_;unfold Fn121.ac;simp [gF,dQ,aM,Spot.cells,aH]
theorem zL (p:Wb.Prog) (hN:aw p.steps<=300) (l:Wb.Spot) (bk:Heap) (N:Nat) :
  ACalls Pg 43 [p.av,aM l] ⟨bk,N⟩ fun av s'=>s'.h=bk/\∃ F:List Wb.Spot,av=.tup [row (F.map Spot.cells),.int (df p l)]/\(df p l≠0->F=[])/\(df p l=0->∃ et:List Wb.Spot,et.Nodup/\(∀ s,s∈et↔ew p.arrays (aB p).2.l l s)/\F=bK et):=by
 have g6:=fun t c=>sf p hN t c;simp only [Prog.av] at g6;refine Fn43.calls .frz ?_;unfold Fn43.ac;obtain ⟨ag,b'⟩:∃ ag,ag=upd (upd bk N (some (.row 2 [[row (p.arrays.map Array.cells),row (p.steps.map Step.cells)]] .live none))) (N+1) (some (.row 2 [Spot.cells l] .live none)):=⟨_,rfl⟩;have hG:Fr N bk ag (N+1+1):=by rw [b']; exact ((Fr.refl _ _).upd (q5 _) (rv _)).upd (by omega) (rv _)
 have hr:ag N=some (.row 2 [[row (p.arrays.map Array.cells),row (p.steps.map Step.cells)]] .live none):=by rw [b',qv,ae]
 have ey:ag (N+1)=some (.row 2 [Spot.cells l] .live none):=by rw [b',ae]
 simp only [Spot.cells] at b' ey;simp [Prog.av,aM,Spot.cells];rw [<-b'];refine (g6 ag (N+1+1)).mono ?_;rintro av ⟨ab,hs⟩ hL ⟨c9,U⟩;simp only at hL c9 U;have b6:Fr N bk ab hs:=hG.trans c9;have ga:=(c9.h N (by omega)).trans hr
 have b1:=(c9.h (N+1) (by omega)).trans ey
 by_cases bo:aV p=0
 case neg=>
  have e:df p l=aV p:=by unfold df; rw [if_neg bo]
  rw [if_neg bo] at U;subst U;simp [bo,e];exact b6.retH
 rw [if_pos bo] at U;obtain ⟨go,bx,bW,bN,bt,bi,b2,rfl,H⟩:=U;have e:df p l=cw p.arrays l:=by unfold df; rw [if_pos bo]
 obtain ⟨c4,nx,ld,f7⟩:=fB bo;have ha:=lO p l.array;simp only [Prog.av] at ha;simp [ga,b1];refine ACalls.pure ha fun lj l2=>?_;simp [b1];refine ACalls.pure (lf l.array) fun lk l3=>?_;cases a5:bO l.array with
 | false=>
  have c5:cw p.arrays l=5:=by unfold cw; rw [a5]; rfl
  simp [a5,e,c5];exact b6.retH
 | true=>
 simp [a5];by_cases O:bp p.arrays l.array<0
 ·have c5:cw p.arrays l=8:=by unfold cw; rw [a5,if_neg (by decide),if_pos O]
  simp [O,e,c5];exact b6.retH
 obtain ⟨Q,g1⟩:∃ Q:Nat,bp p.arrays l.array=(Q:Int):=⟨(bp p.arrays l.array).toNat,by omega⟩
 have dp:Q<p.arrays.length:=by
  obtain ⟨cq,lg,_,c5,ab,_⟩:=lW O;omega
 have fm:=(ej c4).arrays p.arrays[Q] (u3 dp);have gv:=wX p.arrays[Q] fm;simp only [Array.cells] at gv;have hU:(p.arrays.map Array.cells)[Q]?=some [.str p.arrays[Q].key,row (an p.arrays[Q].sizes)]:=by rw [rb,q3 dp]; rfl
 have h':¬(Q:Int)<0:=by omega
 simp [g1,h',ga,b1,hU,dp,Array.cells];refine ACalls.pure gv fun lm l4=>?_;obtain ⟨aa,e6⟩:∃ aa,aa=eV p.arrays[Q].sizes:=⟨_,rfl⟩;have lx:0<=aa/\aa<=20000:=by
  have am:=ji p.arrays[Q].sizes fun z j1=>(fm.sizes z j1).1;have ab:=fm.cells;rw [e6]; unfold eV at ab ⊢; omega
 rw [<-e6];have j0:IntKind.i64.wrap (aa-1)=aa-1:=ah (by omega) (by omega)
 simp [b1,j0];refine ACalls.pure (fS l.cell 0 (aa-1)) fun f9 l5=>?_;have c7:cw p.arrays l=if 0<=l.cell/\l.cell<=aa-1 then 0 else 1:=by
  unfold cw;rw [a5,if_neg (by decide),if_neg O,g1]
  simp [dp,<-e6]
 by_cases di:0<=l.cell/\l.cell<=aa-1
 case neg=>
  rw [if_neg di] at c7;simp [di,e,c7];exact b6.retH
 rw [if_pos di] at c7;have hP:df p l=0:=by rw [e,c7]
 rw [hP];simp [di];obtain ⟨d,dn⟩:∃ d,d=(aB p).2.l:=⟨_,rfl⟩;have ch:=fun t c H=>sg p bx bW bN bt bi b2 go f7 t c H;have g4:=fun i x a' t c H=>si p (ej c4) bx bW bN bt bi b2 go i x a' f7 t c H;rw [<-dn] at ch g4 f7 ⊢;have mu:d.length<=200000:=by have:=kc p.arrays d; omega
 have fn:RanAt ab f9 go p bx bW bN bt bi b2:=H.re (by omega) fun f y=>rfl
 refine (ch ab f9 fn).mono ?_;rintro av ⟨T,a⟩ gr ⟨c',e1,lp,m,ver,rfl,nr,hk,ns,k1,hl,hm,k2,nt,k3⟩;simp only at gr c' hk k1 hl hm;have a9:RanAt T a go p bx bW bN bt bi b2:=fn.re gr fun f y=>c'.h f (fn.lt y);have gb:=(c'.h (N+1) (by omega)).trans b1
 have hg:∀ f,f<N->T f=bk f:=fun f y=>(c'.h f (by omega)).trans (b6.h f y)
 have K:=kb ka (f:=AV.int) (z:=.int 0) (ok:=true) (s:=⟨T,a⟩) hm l;simp only [aM,Spot.cells] at K;have bm:=k2 l;cases fa:bw m l with
 | none=>
  rw [fa] at K bm;simp at K;simp [gb,K,bsI,az];have a8:aE p.arrays d l<0:=by rw [bm]; decide
  refine ⟨aA hg,[l],rfl,[l],by simp,fun s=>?_,by unfold bK; simp⟩
  unfold ew;rw [if_pos a8]; simp
 | some fs=>
 rw [fa] at K bm;simp at K bm;have mm:0<=fs:=k3 _ (fO fa);obtain ⟨J,rfl⟩:∃ f:Nat,fs=f:=⟨fs.toNat,by omega⟩
 have h1:J<d.length:=by
  have:=(eh p.arrays d l d.length (q5 _)).2;rw [r0,bm] at this; omega
 have ia:∀ s,ew p.arrays d l s↔nU p.arrays d J s:=fun s=>by
  unfold ew;rw [bm,if_neg (by omega)]; simp
 have h7:∀ (t:Heap) (c:Nat) d3,t (a+1)=some (.map [] d3)->muI (.one .int) (.map (a+1)) (.int (J:Int)) (.bool true) ⟨t,c⟩=some ⟨upd t (a+1) (some (.map (kvs AV.int AV.bool [((J:Int),true)]) c)),c+1⟩:=fun t c d3 h0=>iy lC (f:=AV.bool) (m:=[]) (ver:=d3) h0 (J:Int) true;have h6:(upd (upd T a (some (.map [] a))) (a+1) (some (.map [] (a+1)))) (a+1)=some (.map [] (a+1)):=ae;simp [gb,K,bsI,az,h7 _ _ _ h6,newRow];obtain ⟨O,b9⟩:∃ O,O=upd (upd (upd T a (some (.map [] a))) (a+1) (some (.map (kvs AV.int AV.bool [((J:Int),true)]) (a+1+1)))) (a+1+1+1) (some (.row 1 [[.int (J:Int)]] .live none)):=⟨_,rfl⟩;rw [<-b9];have ht:O a=some (.map (kvs aM AV.bool ([]:List (Wb.Spot×Bool))) a):=by rw [b9,qv,qv,ae]; rfl
 have hu:O (a+1)=some (.map (kvs AV.int AV.bool [((J:Int),true)]) (a+1+1)):=by rw [b9,qv,ae]
 have hv:O (a+1+1+1)=some (.row 1 [[.int (J:Int)]] .live none):=by rw [b9,ae]
 have hx:∀ f,f<a->O f=T f:=fun f y=>by rw [b9,qv,qv,qv]
 obtain ⟨A,ap⟩:∃ A,A=p.arrays:=⟨_,rfl⟩;obtain ⟨a3,e2⟩:∃ a3:Nat->Slots->St->Prop,a3=fun (f:Nat) cs s'=>∃ (h:NS) (x:AV) (cx S:Nat),cs 15=x/\RowPre s'.h 1 x (an h.W)/\s'.h (a+1)=some (.map (kvs AV.int AV.bool h.S) cx)/\s'.h a=some (.map (kvs aM AV.bool h.F) S)/\GoodN A d J h none/\h.size d=f/\(∀ j,j<a->s'.h j=T j)/\(∀ j,au x j->a+1<j/\j<s'.c)/\a+1<s'.c:=⟨_,rfl⟩;refine cJ Fn43.W0 (by rfl) a3 (NS.size d ⟨[(J:Int)],[((J:Int),true)],[]⟩) ?_ ?_
 ·rw [e2];exact ⟨⟨[(J:Int)],[((J:Int),true)],[]⟩,.row (a+1+1+1) 1 0 1,a+1+1,a,by simp,.inr ⟨a+1+1+1,[],rfl,by simpa [an] using hv⟩,hu,ht,GoodN.start h1,rfl,hx,fun j g=>by have:=aq.1 g; subst this; exact ⟨by omega,q7 _⟩,by show a+1<a+1+1+1+1; omega⟩
 ·intro f d3 s' gi;rw [e2] at gi;obtain ⟨h,x,cx,S,en,eo,ho,es,b0,k',c3,f6,lb⟩:=gi;obtain ⟨t,c⟩:=s';simp at en;simp only at eo ho es c3 f6 lb;have l0:=b0.wlen;have a7:=fun s=>eo.len s;have hw:(an h.W).length=h.W.length:=by simp [an]
  rw [hw] at a7;rcases List.eq_nil_or_concat h.W with ar | ⟨W,j4,ar⟩
  ·rw [ar] at a7;simp at a7;have a5:∀ x∈d,∀ s∈x.reads A,pC A s:=fun x a' s ax=>by
    rw [ap] at ax ⊢;rw [dn] at a';exact (Inst.ok_in (ej c4).arrays (fE (ej c4) x a') (ld x a')).1 s ax
   have gg:∀ s∈h.F.map (·.1),s∈d.flatMap fun x=>x.reads A:=fun s ax=>by
    obtain ⟨f3,U,rfl⟩:=rf.1 ax;exact tC (b0.fr f3 U)
   have lw:h.F.length<=200000:=by
    have am:=EB b0.fn gg;have ab:=qX A d;rw [ap] at am ab;rw [so] at am; omega
   have hH:∀ s∈h.F.map (·.1),0<=s.cell/\s.cell<=1000000000:=fun s ax=>by
    obtain ⟨x,a',i7⟩:=x0.1 (gg s ax);obtain ⟨f8,da,_,ey,li⟩:=a5 x a' s i7;rw [ap] at da;have:=((ej c4).arrays f8 da).cells;omega
   have j6:¬a=c:=by omega
   simp [en,a7,rgI,j6,es];obtain ⟨bl,dk⟩:∃ bl,bl=upd (upd t c (some (.row 2 [] .live none))) (c+1) (some (.iter a S [])):=⟨_,rfl⟩;rw [<-dk];have f4:bl (c+1)=some (.iter a S []):=by rw [dk,ae]
   have hh:bl c=some (.row 2 [] .live none):=by rw [dk,qv,ae]
   have hi:∀ f,f<c->bl f=t f:=fun f y=>by rw [dk,qv,qv]
   have g2:(kvs aM AV.bool h.F).length=h.F.length:=by simp [kvs]
   obtain ⟨hq,e3⟩:∃ a3:Nat->Slots->St->Prop,a3=fun (n:Nat) cs s'=>∃ (w:List Nat) (G:Nat),cs 20=.row G 2 0 w.length/\w.Nodup/\(∀ i∈w,i<h.F.length)/\n=h.F.length-w.length/\s'.h (c+1)=some (.iter a S w)/\s'.h a=some (.map (kvs aM AV.bool h.F) S)/\s'.h G=some (.row 2 (w.map fun i=>(bZ h.F i).cells) .live none)/\(∀ f,f<a->s'.h f=T f)/\c<=G/\G≠c+1/\G<s'.c/\c+1<s'.c:=⟨_,rfl⟩;refine cJ Fn43.W2 (by rfl) hq h.F.length ?_ ?_
   ·rw [e3];exact ⟨[],c,by simp,by simp,by simp,by simp,f4,(hi a (by omega)).trans es,by simpa using hh,fun f y=>(hi f (by omega)).trans (c3 f y),q5 _,by omega,by show c<c+1+1; omega,q7 _⟩
   ·intro n nu s' gk;rw [e3] at gk;obtain ⟨w,G,cp,d0,cq,m4,hf,d1,fx,fz,m5,m6,j2,j3⟩:=gk;obtain ⟨ao,o⟩:=s';simp at cp;simp only at hf d1 fx fz j2 j3;have lv:=eN h.F.length w d0 cq;simp;show nxW _ _ _;simp only [nxW,hf,d1];refine ⟨trivial,fun gn=>?_,fun i f3 U g3=>?_⟩
    ·rw [g2] at gn;obtain ⟨L,gl,e4⟩:=rj h.F w d0 gn cq;have e5:L.length=w.length:=by have:=congrArg List.length gl; simpa using this.symm
     have i5:RowAt ao 2 (.row G 2 0 w.length) (L.map Spot.cells):=.inr ⟨G,by rw [so,e5],by rw [<-gl]; exact fx⟩
     have i8:=nM 123 (.inl rfl) L (fun s ax=>hH s (e4.mem_iff.1 ax)) (by rw [e5]; omega) (.row G 2 0 w.length) ao o i5 (fun f y=>by have:=aq.1 y; omega)
     simp [cp];refine i8.mono ?_;rintro av ⟨u,bj⟩ gp ⟨hj,a1⟩;simp only at gp hj a1;have m0:(bK L).length=w.length:=by rw [<-e5]; exact (D3 L _).length_eq
     have kt:u G=some (.row 2 ((bK L).map Spot.cells) .live none):=by
      rcases a1 with ⟨a1,_⟩ | ⟨lo,a1,kv⟩
      ·cases a1
      ·injection a1 with a1; subst a1; exact kv
     have h8:aP (List.take w.length ((bK L).map Spot.cells))=(bK L).map Spot.cells:=by rw [q8 (by rw [so]; omega),cu (fun _=>rfl)]
     have h9:w.length<=(bK L).length:=by omega
     simp [cp,kt,h8,h9];refine ⟨aA fun j g=>by rw [qv,hj j (by omega) (fun H=>by have:=aq.1 H; omega),fz j (by omega)]; exact hg j g,bK L,rfl,L,(e4.nodup_iff).2 b0.fn,fun s=>?_,rfl⟩
     rw [e4.mem_iff,b0.fin ar,<-ap];rw [ap]; exact (ia s).symm
    ·obtain ⟨dl,i2⟩:=q4.1 U;rw [g2] at dl;have i1:f3=(aM h.F[i].1,.bool h.F[i].2):=by rw [<-i2]; simp [kvs]
     subst i1;have h3:(kvs aM AV.bool h.F)[i]?=some (aM h.F[i].1,.bool h.F[i].2):=U;have h2:(bZ h.F i).cells=Spot.cells h.F[i].1:=by unfold bZ; rw [q3 dl]; rfl
     have hF:=eN h.F.length (i::w) (y0.2 ⟨g3,d0⟩) (fun j g=>by rcases se.1 g with rfl | g; exact dl; exact cq j g)
     simp at hF;obtain ⟨u,P⟩:∃ u,u=upd (upd ao (c+1) (some (.iter a S (w++[i])))) o (some (.row 2 [Spot.cells h.F[i].1] .live none)):=⟨_,rfl⟩;have hC:u G=some (.row 2 (w.map fun i=>(bZ h.F i).cells) .live none):=by rw [P,qv,qv]; exact fx
     have gf:u o=some (.row 2 [Spot.cells h.F[i].1] .live none):=by rw [P,ae]
     have hE:u (c+1)=some (.iter a S (w++[i])):=by rw [P,qv,ae]
     have de:=bE (sz:=2) (bytes:=24) (md:=.plain) (len:=w.length) (x:=Spot.cells h.F[i].1) (b:=true) (s:=⟨u,o+1⟩) (by simp) hC (by simp) (by decide) (by decide) (by decide) rfl (by omega)
     have j5:¬a=c+1:=by omega
     simp only [Spot.cells] at P gf de;simp [ntI,j5,d1,h3,cp,bsI,az,aM,Spot.cells];rw [<-P];simp [gf,cp,bsI,az,de];refine ⟨h.F.length-(w.length+1),by omega,?_⟩
     rw [e3];refine ⟨w++[i],o+1,by simp,?_,?_,by simp,?_,?_,?_,?_,by omega,by omega,by show o+1<o+1+1; omega,by show c+1<o+1+1; omega⟩
     ·rw [va];exact ⟨d0,by simp,fun f8 da b ag e=>by simp at ag; subst ag; subst e; exact g3 da⟩
     ·intro j g;rcases rd.1 g with g | g
      ·exact cq j g
      ·simp at g; rw [g]; exact dl
     ·show upd (upd u G none) (o+1) _ (c+1)=_;rw [qv,qv]; exact hE
     ·show upd (upd u G none) (o+1) _ a=_;rw [qv,qv,P,qv,qv]; exact d1
     ·show upd (upd u G none) (o+1) _ (o+1)=_;rw [ae,sh,List.map_singleton,h2]; rfl
     ·intro j g;show upd (upd u G none) (o+1) _ j=_;rw [qv,qv,P,qv,qv]; exact fz j g
  ·rw [List.concat_eq_append] at ar;have h4:h.W.length=W.length+1:=by rw [ar]; simp
   rw [h4] at a7;have hn:RowPre t 1 x (an W++[[.int j4]]):=by rw [ar] at eo; simpa [an] using eo
   obtain ⟨hA,eW,rfl,hQ⟩:=hn.last;obtain ⟨e0,hd,g',g7⟩:=hn.pop;have eP:(an W).length=W.length:=by simp [an]
   rw [eP] at hd g' g7 en f6 a7;have:e0=hA:=by injection hd with am; exact am.symm
   subst this;obtain ⟨k,rfl,a6,i4,gx⟩:=b0.pop ar;have hX:(an W++[AV.int (k:Int)]::eW)[W.length]?=some [AV.int (k:Int)]:=by rw [r1 (by omega),eP]; simp
   have mF:W.length<(an W++[AV.int (k:Int)]::eW).length:=by simp [eP]
   have jj:IntKind.i64.wrap (W.length:Int)=(W.length:Int):=ah (by omega) (by omega)
   have h5:(W.length:Int)<(W.length:Int)+1:=by omega
   have i0:(0:Int)<(W.length:Int)+1:=by omega
   have i3:RanAt t c go p bx bW bN bt bi b2:=a9.re (by omega) fun f y=>c3 f (a9.lt y)
   have ik:=g4 k d[k] (q3 a6) t c i3;have hR:t e0=some (.row 1 (an W++[AV.int (k:Int)]::eW) .live none):=hQ;simp [en,a7,jj,h5,i0,hR,hX,g'];refine ik.mono ?_;rintro av ⟨bl,f'⟩ hM ⟨rfl,b3,off,rfl,hJ,g8⟩;simp only at hM;obtain ⟨D,cn⟩:∃ D,D=jx p.arrays d[k]:=⟨_,rfl⟩;rw [<-cn] at g8 ⊢;have m3:D.length=(d[k].reads p.arrays).length+1:=by rw [cn,mI]
   obtain ⟨R,cl⟩:∃ R:NS,R={ h with W:=W }:=⟨_,rfl⟩;rw [<-cl] at gx;have he:d[k]?=some d[k]:=q3 a6;have i':∀ n,∀ v∈D.take n,v.1=false->v.2∈d[k].reads A:=fun n v Z ai=>by
    have Z:=A5 Z;rw [cn] at Z;unfold jx at Z;rcases rd.1 Z with Z | Z
    ·obtain ⟨r,H,rfl⟩:=rf.1 Z;rw [ap]; exact H
    ·simp at Z; subst Z; cases ai
   have gW:∀ n,GoodN A d J ((D.take n).foldl (eH A d k) R) (some (k,((D.take n).filter fun v=>!v.1).map (·.2)))/\((D.take n).foldl (eH A d k) R).size d=R.size d:=fun n=>by
    have:=GoodN.fold he i4 (D.take n) R [] (i' n) gx;simpa using this
   have hO:(D.filter fun v=>!v.1).map (·.2)=d[k].reads A:=by
    rw [cn,ap]; unfold jx;rw [ti];simp [List.filter_map,Function.comp_def]
   have m2:R.size d+1=f:=by rw [<-k',cl]; unfold NS.size; simp only [ar,s3,z8]; omega
   simp;obtain ⟨hp,a4⟩:∃ a3:Nat->List (Bool×Wb.Spot)->Slots->St->Prop,a3=fun (n:Nat) r cs s'=>∃ (q:NS) (x:AV) (cx S:Nat),q=(D.take n).foldl (eH A d k) R/\cs 15=x/\RowPre s'.h 1 x (an q.W)/\s'.h (a+1)=some (.map (kvs AV.int AV.bool q.S) cx)/\s'.h a=some (.map (kvs aM AV.bool q.F) S)/\(∀ j,j<a->s'.h j=T j)/\(∀ j,au x j->a+1<j/\j<s'.c)/\a+1<s'.c:=⟨_,rfl⟩;refine aZ 93 Fn43.W1 D hp (by rfl) (by rfl) ?_ ?_ ?_
   ·rw [a4];exact ⟨by simp,R,.row e0 1 0 W.length,cx,S,by simp,by simp,by rw [cl]; exact g7,by rw [cl]; exact ho,by rw [cl]; exact es,c3,fun j g=>by have:=f6 j (aq.2 (aq.1 g)); exact ⟨this.1,by show j<f'; omega⟩,by show a+1<f'; omega⟩
   ·intro k6 s' a0 b7;rw [a4,r0] at b7;obtain ⟨q,x,c0,c1,c6,bf,d4,ea,ef,a2,M,em⟩:=b7;have b8:=gW D.length;rw [r0,<-c6,hO] at b8;simp [a0];refine ⟨R.size d,by omega,?_⟩
    rw [e2];exact ⟨q,x,c0,c1,by simpa using bf,d4,ea,ef,b8.1.close he,b8.2,a2,M,em⟩
   ·intro n v no k6 s' cb fd ms a0 b7;rw [a4] at b7;obtain ⟨q,x,c0,c1,c6,bf,d4,ea,ef,a2,M,em⟩:=b7;obtain ⟨ao,o⟩:=s';simp at bf;simp only at d4 ea ef a2 M em;have gN:=gW n;rw [<-c6] at gN;have l6:=gN.1.wlen;obtain ⟨hB,ex,ki,k5,i6,hT,hb,hK⟩:=g8;have hS:b3=hB/\off=ki:=by injection i6 with f4 hh ks nn; exact ⟨f4,ks⟩
    obtain ⟨rfl,rfl⟩:=hS;have gy:=a9.ab b3 hJ;have hD:ao b3=some (.row 4 ex k5 none):=(a2 b3 gy).trans ((c3 b3 gy).symm.trans hT);rw [so] at hb hK;have gm:ex[off+n]?=some (gF k v):=by
     have am:(D.map (gF k))[n]?=some (gF k v):=by rw [rb,q3 cb,fd]; rfl
     rw [<-hb,tt cb,s8] at am;exact am
    have ix:off+n<ex.length:=by omega
    obtain ⟨b4,c8,ge⟩:=a9.hfrm.at (i:=k) (by rw [<-dn]; simp [an,dJ]; exact a6)
    rw [<-dn] at c8 ge;have hW:=a9.fb b4 (by rw [c8]; exact aq.2 rfl)
    have hY:=a9.plo.goc;obtain ⟨bc,g5⟩:∃ j9,j9=(cS p.arrays 0 (d.take k)).length:=⟨_,rfl⟩;have b8:(an (dX p.arrays 0 d))[k]?=some [.int (bc:Nat)]:=by unfold an; rw [rb,tl p.arrays a6,<-g5]; rfl
    have gc:(an (dX p.arrays 0 d)).length=d.length:=by simp [an,dJ]
    rw [gc] at c8;have j':ao go=some (.row 6 [[bx,bW,bN,bt,bi,.row b4 1 0 d.length]] .live none):=by rw [a2 go hY,a9.obj,c8]
    have hy:=(a2 b4 hW).trans ge;have kx:=(a2 e1 hk).trans hl;obtain ⟨C,cc,ih⟩:∃ C,(dC p.arrays [] d)[bc+n]?=some C/\(v.1=false->C=aE A (d.take k) v.2):=by
     rw [g5,uR p.arrays a6 (by omega),lM p.arrays a6]
     have al:D[n]?=some v:=by rw [q3 cb,fd]
     rw [cn] at al;unfold jx at al;by_cases ds:n<(d[k].reads p.arrays).length
     ·rw [sk (by simpa using ds),rb,q3 ds] at al
      rw [sk (by simpa using ds),rb,q3 ds]
      injection al with al;exact ⟨_,rfl,fun _=>by rw [<-al,ap]⟩
     ·have e:n=(d[k].reads p.arrays).length:=by omega
      subst e;rw [r1 (by simp)] at al
      rw [r1 (by simp)]
      simp at al;exact ⟨-1,by simp,fun t=>by rw [<-al] at t; cases t⟩
    obtain ⟨g9,mS⟩:=q4.1 cc;have g0:(an (dC p.arrays [] d))[bc+n]?=some [.int C]:=by unfold an; rw [rb,cc]; rfl
    have m1:=mC p.arrays 0 [] d;have l1:=jR p.arrays 0 d;have dW:=q0 (x:=(n:Int)+1)
    have hc:=ah (x:=((bc+n:Nat):Int)) (by omega) (by omega)
    have gs:(bc:Int)+(n:Int)=((bc+n:Nat):Int):=by push_cast; rfl
    obtain ⟨d2,it⟩:∃ d2,d2=bc+n:=⟨_,rfl⟩;rw [<-it] at hc g0 g9 gs cc;have l':∀ (t:d2<(dC p.arrays [] d).length),(dC p.arrays [] d)[d2]=C:=fun t=>by
     rw [q3 t] at cc; exact ty cc
    have nd:¬e1=o:=by omega
    have nb:¬go=o:=by omega
    have m':¬b4=o:=by omega
    simp only [gF,dQ] at gm;obtain ⟨_,hI⟩:=q4.1 gm;simp [a0,cb,hD,hI,ix];obtain ⟨u,P⟩:∃ u,u=upd ao o (some (.row 4 [[AV.int (k:Int),.bool v.1,.str v.2.array,.int v.2.cell]] .live none)):=⟨_,rfl⟩;have bb:∀ f,f<o->u f=ao f:=fun f y=>by rw [P,qv]
    have ez:u o=_:=(congrFun P o).trans ae;rw [<-P];have kd:=(bb go (by omega)).trans j'
    have hz:=(bb b4 (by omega)).trans hy
    have k0:=(bb e1 (by omega)).trans kx
    obtain ⟨mb,hV⟩:=q4.1 b8;obtain ⟨me,hZ⟩:=q4.1 g0;have k4:(an (dC p.arrays [] d)).length=(dC p.arrays [] d).length:=by simp [an]
    simp [kd,hz,hV,a6,gc,gs,hc,k0,hZ,g9,k4,ez];have i9:D.take (n+1)=D.take n++[v]:=by rw [r7,q3 cb,fd]; rfl
    have dN:∀ f5,f5=eH A d k q v->f5=(D.take (n+1)).foldl (eH A d k) R:=fun f5 t=>by rw [i9,xn,<-c6,t]; rfl
    have d':RowPre u 1 x (an q.W):=d4.frame fun f y=>bb f (M f y).2;have c2:=(bb (a+1) em).trans ea;have eg:=(bb a (by omega)).trans ef
    have el:∀ j,j<a->u j=T j:=fun j g=>(bb j (by omega)).trans (a2 j g)
    cases ai:v.1 with
    | true=>
     have e:eH A d k q v=q:=by unfold eH; rw [ai]; rfl
     simp [a0,dW];rw [a4];exact ⟨q,x,c0,c1,dN _ e.symm,by simp [bf],d',c2,eg,el,fun j g=>by have:=M j g; exact ⟨this.1,by show j<o+1; omega⟩,by show a+1<o+1; omega⟩
    | false=>
    have fb:=ih ai;rw [ai] at ez;have ch:=wY k v;simp only [gF,dQ,aM,Spot.cells,ai] at ch;simp;by_cases a8:C<0
    ·have e:eH A d k q v={ q with F:=bG q.F v.2 true }:=by unfold eH kL; rw [ai,if_neg (by decide),<-fb,if_pos a8]
     simp [a8,ez];refine ACalls.pure ch fun bj gp=>?_;have dv:=iy ka (f:=AV.bool) (s:=⟨u,bj⟩) eg v.2 true;simp only [aM,Spot.cells] at dv;simp [dv,a0,dW];rw [a4];have f1:∀ j,j≠a->upd u a (some (.map (kvs aM AV.bool (bG q.F v.2 true)) bj)) j=u j:=fun j g=>ad g;refine ⟨_,x,c0,bj,dN _ e.symm,by simp [bf],d'.frame fun f y=>f1 f (by have:=M f y; omega),(f1 _ (by omega)).trans c2,ae,fun j g=>(f1 j (by omega)).trans (el j g),fun j g=>by have:=M j g; exact ⟨this.1,by show j<bj+1; omega⟩,by show a+1<bj+1; omega⟩
    ·have K:=kb lC (f:=AV.bool) (z:=.bool false) (ok:=false) (s:=⟨u,o+1⟩) c2 C;simp [a8];by_cases Y:(bw q.S C).getD false=true
     ·have e:eH A d k q v=q:=by unfold eH kL; rw [ai,if_neg (by decide),<-fb,if_neg a8,if_pos Y]
      have e':lkI (.one .int) (.bool false) false (.map (a+1)) (.int C) ⟨u,o+1⟩=some (.bool true):=by
       cases ca:bw q.S C with
       | none=>rw [ca] at Y; cases Y
       | some b=>
        rw [ca] at Y K;have Y:b=true:=Y;subst Y;simpa using K
      simp [e',a0,dW];rw [a4];exact ⟨q,x,c0,c1,dN _ e.symm,by simp [bf],d',c2,eg,el,fun j g=>by have:=M j g; exact ⟨this.1,by show j<o+1; omega⟩,by show a+1<o+1; omega⟩
     ·have e:eH A d k q v={ q with S:=bG q.S C true,W:=q.W++[C] }:=by unfold eH kL; rw [ai,if_neg (by decide),<-fb,if_neg a8,if_neg Y]
      have e':lkI (.one .int) (.bool false) false (.map (a+1)) (.int C) ⟨u,o+1⟩=some (.bool false):=by
       cases ca:bw q.S C with
       | none=>rw [ca] at K; simpa using K
       | some b=>
        rw [ca] at Y K;cases b
        ·simpa using K
        ·exact absurd rfl Y
      have dv:=iy lC (f:=AV.bool) (s:=⟨u,o+1⟩) c2 C true;obtain ⟨b5,e9⟩:∃ b5,b5=upd u (a+1) (some (.map (kvs AV.int AV.bool (bG q.S C true)) (o+1))):=⟨_,rfl⟩;have f0:∀ j,j≠a+1->b5 j=u j:=fun j g=>by rw [e9,ad g]
      have k8:b5 (a+1)=_:=(congrFun e9 (a+1)).trans ae;have k7:RowPre b5 1 x (an q.W):=d'.frame fun f y=>f0 f (by have:=M f y; omega)
      simp [e',dv,a0];rw [<-e9];have ln:(an q.W).length=q.W.length:=by simp [an]
      obtain ⟨k9,ls,eM,de,kk,nh,kn,f2,nk,lr,nl⟩:=k7.push (c:=o+1+1) (bytes:=8) (md:=.plain) (b:=true) (e:=[.int C]) (by decide) (by decide) (by decide) (by decide) rfl (fun e gw=>by unfold an at gw; obtain ⟨z,_,rfl⟩:=rf.1 gw; rfl) (by omega) (fun f y=>by have:=M f y; omega)
      simp [bsI,az,bf,de,a0,dW];rw [a4];refine ⟨_,k9,o+1,c1,dN _ e.symm,by simp,by simpa [an] using kk,?_,?_,fun j g=>?_,fun j g=>?_,by show a+1<eM; omega⟩
      ·exact (f2 (a+1) (by omega) (fun H=>by have:=M _ H; omega)).trans k8
      ·exact (f2 a (by omega) (fun H=>by have:=M _ H; omega)).trans ((f0 a (by omega)).trans eg)
      ·exact (f2 j (by omega) (fun H=>by have:=M _ H; omega)).trans ((f0 j (by omega)).trans (el j g))
      ·rcases kn j g with t | ⟨t,ab⟩
       ·have:=M j t; exact ⟨this.1,by show j<eM; omega⟩
       ·exact ⟨by omega,by show j<eM; omega⟩
theorem zQ (p:Wb.Prog) (y:Right p) (a:Wb.Spot):aG Pg 50 [p.av,aM a] (.int (cw p.arrays a)):=by
 rintro ⟨O,l⟩;have o:=iL p a.array;simp only [Prog.av] at o;refine Fn50.calls .frz ?_;unfold Fn50.ac;have f:¬l=l+1:=by omega
 simp [Prog.av,aM,Spot.cells,f];refine ACalls.pure o fun H R=>?_;simp [f];refine ACalls.pure (iK a.array) fun J S=>?_;cases d:bO a.array with
 | false=>simp [d,cw]
 | true=>
 simp [d];by_cases g:bp p.arrays a.array<0
 ·simp [g,cw,d]
 obtain ⟨b,u⟩:∃ b:Nat,bp p.arrays a.array=(b:Int):=⟨(bp p.arrays a.array).toNat,by omega⟩
 have e:b<p.arrays.length:=by
  obtain ⟨W,G,_,N,m,_⟩:=lW g;omega
 have k:=y.arrays p.arrays[b] (u3 e);have q:=zU p.arrays[b] k;simp only [Array.cells] at q;have w:(p.arrays.map Array.cells)[b]?=some [.str p.arrays[b].key,row (an p.arrays[b].sizes)]:=by rw [rb,q3 e]; rfl
 have x:¬(b:Int)<0:=by omega
 simp [u,x,w,e,Array.cells,f];refine ACalls.pure q fun K T=>?_;obtain ⟨c,h⟩:∃ c,c=eV p.arrays[b].sizes:=⟨_,rfl⟩;have Q:0<=c/\c<=20000:=by
  have P:=ji p.arrays[b].sizes fun D C=>(k.sizes D C).1;have m:=k.cells;rw [h]; unfold eV at m ⊢; omega
 rw [<-h];have z:IntKind.i64.wrap (c-1)=c-1:=ah (by omega) (by omega)
 simp [z,f];refine ACalls.pure (ct a.cell 0 (c-1)) fun M U=>?_;have v:cw p.arrays a=if 0<=a.cell/\a.cell<=c-1 then 0 else 1:=by
  unfold cw;rw [d,if_neg (by decide),if_neg g,u]
  simp [e,<-h]
 rw [v];by_cases t:0<=a.cell/\a.cell<=c-1
 ·simp [t]
 ·simp [t]
structure LookAt (h:Heap) (c gl gf gs gk mF mS:Nat) (x:AV) (S:List (Int×Bool)) (F:List (Wb.Spot×Bool)):Prop where
 bl:h gl=some (.row 1 [[x]] .live none)
 bf:h gf=some (.row 1 [[.map mF]] .live none)
 bs:h gs=some (.row 1 [[.map mS]] .live none)
 bk:h gk=some (.row 1 [[.fn (.func 128) [] [.ptr gl 0 0,.ptr gf 0 0,.ptr gs 0 0,.ptr gk 0 0]]] .live none)
 mf:∃ v,h mF=some (.map (kvs aM AV.bool F) v)
 ms:∃ v,h mS=some (.map (kvs AV.int AV.bool S) v)
 lt:gl<c/\gf<c/\gs<c/\gk<c/\mF<c/\mS<c
theorem LookAt.fr {h h':Heap} {c c' e b f d g l:Nat} {x:AV} {S:List (Int×Bool)} {F:List (Wb.Spot×Bool)} (H:LookAt h c e b f d g l x S F) (a:∀ k,k<c->h' k=h k) (C:c<=c'):LookAt h' c' e b f d g l x S F:=by
 obtain ⟨p,q,t,u,v,w⟩:=H.lt;obtain ⟨z,o⟩:=H.mf;obtain ⟨y,m⟩:=H.ms;exact ⟨(a _ p).trans H.bl,(a _ q).trans H.bf,(a _ t).trans H.bs,(a _ u).trans H.bk,⟨z,(a _ v).trans o⟩,⟨y,(a _ w).trans m⟩,by omega⟩
theorem LookAt.ne {h:Heap} {c q o t p b d:Nat} {x:AV} {S:List (Int×Bool)} {F:List (Wb.Spot×Bool)} (H:LookAt h c q o t p b d x S F):(q≠b/\o≠b/\t≠b/\p≠b)/\q≠d/\o≠d/\t≠d/\p≠d:=by
 obtain ⟨v,m⟩:=H.mf;obtain ⟨u,l⟩:=H.ms;have e:=H.bl; have f:=H.bf; have g:=H.bs; have k:=H.bk;refine ⟨⟨?_,?_,?_,?_⟩,?_,?_,?_,?_⟩ <;> intro a
 ·rw [a,m] at e; cases e
 ·rw [a,m] at f; cases f
 ·rw [a,m] at g; cases g
 ·rw [a,m] at k; cases k
 ·rw [a,l] at e; cases e
 ·rw [a,l] at f; cases f
 ·rw [a,l] at g; cases g
 ·rw [a,l] at k; cases k
theorem LookAt.setF {h h':Heap} {c c' l f m g b d:Nat} {x:AV} {S:List (Int×Bool)} {F e:List (Wb.Spot×Bool)} (H:LookAt h c l f m g b d x S F) (p:b≠d) (o:∃ v,h' b=some (.map (kvs aM AV.bool e) v)) (a:∀ k,k<c->k≠b->h' k=h k) (M:c<=c'):LookAt h' c' l f m g b d x S e:=by
 obtain ⟨t,u,w,y,N,z⟩:=H.lt;obtain ⟨⟨C,D,G,J⟩,_⟩:=H.ne;obtain ⟨K,q⟩:=H.ms;exact ⟨(a _ t C).trans H.bl,(a _ u D).trans H.bf,(a _ w G).trans H.bs,(a _ y J).trans H.bk,o,⟨K,(a _ z p.symm).trans q⟩,by omega⟩
theorem LookAt.setS {h h':Heap} {c c' l f m g d b:Nat} {x:AV} {S e:List (Int×Bool)} {F:List (Wb.Spot×Bool)} (H:LookAt h c l f m g d b x S F) (p:d≠b) (o:∃ v,h' b=some (.map (kvs AV.int AV.bool e) v)) (a:∀ k,k<c->k≠b->h' k=h k) (K:c<=c'):LookAt h' c' l f m g d b x e F:=by
 obtain ⟨t,u,w,y,z,M⟩:=H.lt;obtain ⟨_,C,D,G,J⟩:=H.ne;obtain ⟨v,q⟩:=H.mf;exact ⟨(a _ t C).trans H.bl,(a _ u D).trans H.bf,(a _ w G).trans H.bs,(a _ y J).trans H.bk,⟨v,(a _ z p).trans q⟩,o,by omega⟩
theorem xb (A:List Wb.Array) (l:List Inst) (c7:l.length<=1000000) (da:∀ i∈l,(i.reads A).length<=4096) (x:AV) (c':norm x=x) {G:Nat->Prop} {D:Wb.Spot->Prop} (C:DfsC A l G D) (Q:Heap) (m:Nat) (b6:UsesN Q m A x l) (bc:∀ k,au x k->k<m) (M J N K g d:Nat) (b2:g≠d) (em:m<=g) (eo:m<=d) :
  ∀ (c:Nat),c<=l.length->∀ (s:Wb.Spot),(aE A (l.take c) s<0->D s)->(∀ k:Nat,aE A (l.take c) s=k->G k)->∀ (S:List (Int×Bool)) (F:List (Wb.Spot×Bool)) (o:Heap) (a:Nat),m<=a->(∀ k,k<m->o k=Q k)->LookAt o a M J N K g d x S F->DfsG l G D S F ->
  ACalls Pg 128 [aM s,.int c,.ptr M 0 0,.ptr J 0 0,.ptr N 0 0,.ptr K 0 0] ⟨o,a⟩ fun av s'=>∃ Z Y,LookAt s'.h s'.c M J N K g d x Z Y/\DfsG l G D Z Y/\DfsR A l S F Z Y/\(aE A (l.take c) s<0->s∈Y.map (·.1))/\(0<=aE A (l.take c) s->aE A (l.take c) s∈Z.map (·.1))/\∀ k,k<a->k≠g->k≠d->s'.h k=o k:=by
 intro c
 induction c using Nat.strongRecOn with
 | _ c dk=>
 intro b1 s b4 ar S F o a ef b0 a3 y;have c9:=eh A l s c b1;obtain ⟨z,bW⟩:∃ z,z=aE A (l.take c) s:=⟨_,rfl⟩;rw [<-bW] at b4 ar c9;refine Fn128.calls .keep ?_;unfold Fn128.ac;obtain ⟨f,ag⟩:∃ f,f=upd o a (some (.row 2 [Spot.cells s] .live none)):=⟨_,rfl⟩;have W:∀ k,k<a->f k=o k:=fun k t=>by rw [ag,qv]
 have a5:f a=_:=(congrFun ag a).trans ae;have e:=a3.fr W (rv _);have bt:∀ k,k<m->f k=Q k:=fun k t=>(W k (by omega)).trans (b0 k t)
 have a8:=sq A l c7 x c b1 s f (a+1) (b6.frL bc bt (by omega)) (fun k t=>by have:=bc k t; omega)
 rw [<-bW] at a8 ⊢;simp only [Spot.cells] at ag a5 a8;have en:g<a+1:=e.lt.2.2.2.2.1;have es:d<a+1:=e.lt.2.2.2.2.2;have ex:¬a=g:=by have:=a3.lt; omega
 have ey:¬a=d:=by have:=a3.lt; omega
 simp [aM,Spot.cells];rw [<-ag];simp [e.bl,c',a5];refine ACalls.at a8 fun h c2=>?_;by_cases ap:z<0
 ·obtain ⟨dW,ax⟩:=e.mf;have ao:=iy ka (f:=AV.bool) (s:=⟨f,h⟩) ax s true;simp only [aM,Spot.cells] at ao;simp [ap,e.bf,a5,ao];obtain ⟨cs,dN,ds⟩:=y.found (A:=A) (b4 ap);refine ⟨S,bG F s true,e.setF b2 ⟨h,ae⟩ (fun k t c6=>ad c6) (by omega),cs,dN,by simpa using ds,fun d'=>by omega,fun k t c4 el=>?_⟩
  rw [ad c4]; exact W k t
 obtain ⟨k,rfl⟩:∃ k:Nat,z=k:=⟨z.toNat,by omega⟩
 have c5:k<c:=by omega
 have R:k<l.length:=by omega
 obtain ⟨dW,ax⟩:=e.ms;have v:=kb lC (f:=AV.bool) (z:=.bool false) (ok:=false) (s:=⟨f,h⟩) ax (k:Int);have et:=y.seen (k:Int);cases am:bw S (k:Int) with
 | some cp=>
  have c1:cp=true:=(y.sv _ (fO am)).1;subst c1;rw [am] at v;simp at v;simp [ap,e.bs,v];exact ⟨S,F,e.fr (fun _ _=>rfl) c2,y,.refl S F,by have:=iS.2 (show (bw S (k:Int)).isSome=true by rw [am]; rfl); simpa using this,fun j b _ _=>W j b⟩
 | none=>
 rw [am] at v;simp at v;have ao:=iy lC (f:=AV.bool) (s:=⟨f,h⟩) ax (k:Int) true;obtain ⟨O,a6⟩:∃ O,O=upd f d (some (.map (kvs AV.int AV.bool (bG S (k:Int) true)) h)):=⟨_,rfl⟩;have bk:∀ j,j≠d->O j=f j:=fun j b=>by rw [a6,ad b]
 have bm:LookAt O (h+1) M J N K g d x (bG S (k:Int) true) F:=e.setS b2 ⟨h,by rw [a6,ae]⟩ (fun j _ b=>bk j b) (by omega)
 have cl:∀ j,j<m->O j=Q j:=fun j b=>(bk j (by omega)).trans (bt j b)
 obtain ⟨d3,d4,cx,b',d1,d2⟩:=(b6.frL (c':=h+1) bc cl (by omega)).at R
 obtain ⟨ca,eW,e0,eP,e1,e2⟩:=qM A l[k] cx;simp [ap,e.bs,v,ao];rw [<-a6];have cc:=y.mark R (ar k rfl);obtain ⟨p,ab⟩:∃ p,p=l[k].reads A:=⟨_,rfl⟩;have ea:p.length<=4096:=by rw [ab]; exact da _ (u3 R)
 rw [<-ab] at ca;have bf:l[k]?=some l[k]:=q3 R;simp [bm.bl,b',R,d1,d2,ca];obtain ⟨a4,aa⟩:∃ a4:Nat->List Wb.Spot->Slots->St->Prop,a4=fun (n:Nat) r eM s'=>∃ (q:List (Int×Bool)) (Fn:List (Wb.Spot×Bool)),LookAt s'.h s'.c M J N K g d x q Fn/\DfsG l G D q Fn/\DfsR A l (bG S (k:Int) true) F q Fn/\DoneAt A l (q.map (·.1)) (Fn.map (·.1)) k (p.take n)/\(∀ j,j<a->j≠g->j≠d->s'.h j=o j)/\a+1<=s'.c:=⟨_,rfl⟩;refine aZ 30 Fn128.W0 p a4 (by rfl) (by rfl) ?_ ?_ ?_
 ·rw [aa];exact ⟨by simp,_,_,bm,cc,.refl _ _,fun r bb=>by simp at bb,fun j b a7 al=>(bk j al).trans (W j b),by show a+1<=h+1; omega⟩
 ·intro d0 s' a0 P;rw [aa,r0] at P;obtain ⟨q,Fn,T,bi,a1,a2,U,b7⟩:=P;simp [a0];rw [ab] at a2;have bb:=a1.close bf a2;rw [b'] at T;refine ⟨q,Fn,T,bi,bb,?_,U⟩;simpa using a1.sm (k:Int) (cz.2 (.inl rfl))
 ·intro n r ez d0 s' a9 a' c8 a0 P;rw [aa] at P;obtain ⟨q,Fn,T,bi,a1,a2,U,b7⟩:=P;obtain ⟨bN,H⟩:=s';simp only at T U b7;have di:=q0 (x:=(n:Int)+1)
  have b3:r∈l[k].reads A:=by rw [<-ab]; exact aU c8
  obtain ⟨u,ai⟩:∃ u,u=upd bN H (some (.row 2 [Spot.cells r] .live none)):=⟨_,rfl⟩;have bl:∀ j,j<H->u j=bN j:=fun j b=>by rw [ai,qv]
  have bx:u H=_:=(congrFun ai H).trans ae;have bo:=T.fr bl (rv _);have cn:∀ j,j<m->u j=Q j:=fun j b=>by rw [bl j (by omega),U j (by omega) (by omega) (by omega)]; exact b0 j b
  have b5:=dk k c5 (by omega) r (C.hf k l[k] r (ar k rfl) bf b3) (fun j b=>C.hs k l[k] r j (ar k rfl) bf b3 b) q Fn u (H+1) (by omega) cn bo bi
  simp only [aM,Spot.cells] at b5;simp only [Spot.cells] at ai bx;have eg:(p.map Spot.cells)[n]?=some [.str r.array,.int r.cell]:=by rw [rb,q3 a9,a']; rfl
  simp [a0,a9,a',Spot.cells];rw [<-ai];simp [bo.bk,bx];refine b5.mono ?_;rintro av ⟨c0,cq⟩ c3 ⟨ch,cb,b8,dl,bj,dn,dp,b9⟩;simp only at c3 b8 b9;simp [a0,di];rw [aa];refine ⟨ch,cb,b8,dl,a1.trans bj,?_,fun j b a7 al=>?_,by show a+1<=cq; omega⟩
  ·have de:p.take (n+1)=p.take n++[r]:=by rw [r7,q3 a9,a']; rfl
   rw [de];intro dv w;rcases rd.1 w with w | w
   ·exact a2.mono bj.sm bj.fm dv w
   ·simp only [sa] at w; subst w;exact ⟨dn,dp⟩
  ·show c0 j=o j;rw [b9 j (by omega) a7 al,bl j (by omega)]; exact U j b a7 al
theorem xd (b:Nat) (c:Heap) (a:Nat):ACalls Pg 131 [.map b] ⟨c,a⟩ fun av s'=>av=.fn (.func 194) [] [.ptr a 0 0]/\s'=⟨upd c a (some (.row 1 [[.map b]] .live none)),a+1⟩:=by
 refine Fn131.calls .keep ?_;unfold Fn131.ac;simp
theorem xL (m:List (Wb.Spot×Bool)) (q:m.length+1<=68719476736) (d ver c:Nat) (a:Heap) (b:Nat) (p:a c=some (.row 1 [[.map d]] .live none)) (t:a d=some (.map (kvs aM AV.bool m) ver)) :
  ACalls Pg 193 [.fn (.func 194) [] [.ptr c 0 0]] ⟨a,b⟩ fun av s'=>Fr b a s'.h s'.c/\∃ L:List Nat,L.Nodup/\(∀ i,i<m.length->i∈L)/\(∀ i∈L,i<m.length)/\RowAt s'.h 2 av (L.map fun i=>(bZ m i).cells)/\∀ k,au av k->b<=k/\k<s'.c:=by
 refine Fn193.calls .keep ?_;unfold Fn193.ac;simp;refine (iW m q d ver c a b p t).mono ?_;rintro av ⟨v,u⟩ w ⟨o,L,e,f,g,h,l⟩;simp;exact ⟨o,L,e,f,g,h,l⟩
theorem xc (f:Nat) (J:f=123\/f=132) (m:List (Wb.Spot×Bool)) (S:m.length<=100000000) (D:∀ s∈m.map (·.1),0<=s.cell/\s.cell<=1000000000) (l ver h:Nat) (a:Heap) (c:Nat) (C:a h=some (.row 1 [[.map l]] .live none)) (K:a l=some (.map (kvs aM AV.bool m) ver)) :
  ACalls Pg 130 [.fn (.func 194) [] [.ptr h 0 0],.fn (.func f) [] []] ⟨a,c⟩ fun av s'=>Fr c a s'.h s'.c/\RowAt s'.h 2 av ((bK (m.map (·.1))).map Spot.cells)/\∀ k,au av k->c<=k/\k<s'.c:=by
 refine Fn130.calls .keep ?_;unfold Fn130.ac;simp;refine (xL m (by omega) l ver h a c C K).mono ?_
 rintro av ⟨y,u⟩ G ⟨e,t,v,w,x,g,d⟩;simp only at G e g d;obtain ⟨L,z,o⟩:=rj m t v w x;rw [z] at g;have R:L.length=m.length:=by have:=o.length_eq; simpa using this
 simp;refine (nM f J L (fun s N=>D s (o.mem_iff.1 N)) (by omega) av y u g (fun k b=>(d k b).2)).mono ?_
 rintro O ⟨Q,P⟩ H ⟨q,p⟩;simp only at H q p;rw [oM o] at p;simp;exact ⟨⟨by have:=e.c; omega,fun k b=>by rw [q k (by have:=e.c; omega) (fun M=>by have:=d k M; omega)]; exact e.h k b⟩,p,fun k b=>by have:=d k b; omega⟩
theorem zR (A:List Wb.Array) (l:List Inst) (bW:l.length<=1000) (R:∀ i∈l,(i.reads A).length<=4096) (ap:∀ i∈l,∀ s∈i.reads A,0<=s.cell/\s.cell<=1000000000) (x:AV) (C:norm x=x) (T:(∃ g,x=.row g 22 0 l.length)\/x=.sl [] false) (c:Wb.Spot) (a5:0<=c.cell/\c.cell<=1000000000) (e:Heap) (a:Nat) (S:UsesN e a A x l) (a6:∀ k,au x k->k<a) :
  ACalls Pg 51 [x,aM c] ⟨e,a⟩ fun av s'=>s'.h=e/\∃ w:List Wb.Spot,w.Nodup/\(∀ s,s∈w↔ew A l c s)/\av=row ((bK w).map Spot.cells):=by
 have M:=fun s=>S.len s;have J:AV.cells x=[x]:=by rcases T with ⟨g,rfl⟩ | rfl <;> rfl
 have u:AV.cell x=true:=by rcases T with ⟨g,rfl⟩ | rfl <;> rfl
 unfold AV.cells at J;unfold AV.cell at u;refine Fn51.calls .frz ?_;unfold Fn51.ac;simp [aM,Spot.cells,M,C,J,u];obtain ⟨b,d⟩:∃ b,b=upd (upd (upd (upd (upd (upd (upd e a (some (.row 1 [[x]] .live none))) (a+1) (some (.row 2 [[.str c.array,.int c.cell]] .live none))) (a+1+1) (some (.map [] (a+1+1)))) (a+1+1+1) (some (.row 1 [[.map (a+1+1)]] .live none))) (a+1+1+1+1) (some (.map [] (a+1+1+1+1)))) (a+1+1+1+1+1) (some (.row 1 [[.map (a+1+1+1+1)]] .live none))) (a+1+1+1+1+1+1)
  (some (.row 1 [[.fn (.func 128) [] [.ptr a 0 0,.ptr (a+1+1+1) 0 0,.ptr (a+1+1+1+1+1) 0 0,.ptr (a+1+1+1+1+1+1) 0 0]]] .live none)):=⟨_,rfl⟩
 have U:b a=some (.row 1 [[x]] .live none):=by rw [d,qv,qv,qv,qv,qv,qv,ae]
 have a8:b (a+1)=some (.row 2 [[.str c.array,.int c.cell]] .live none):=by rw [d,qv,qv,qv,qv,qv,ae]
 have a9:b (a+1+1)=some (.map [] (a+1+1)):=by rw [d,qv,qv,qv,qv,ae]
 have a':b (a+1+1+1)=some (.row 1 [[.map (a+1+1)]] .live none):=by rw [d,qv,qv,qv,ae]
 have bb:b (a+1+1+1+1)=some (.map [] (a+1+1+1+1)):=by rw [d,qv,qv,ae]
 have bc:b (a+1+1+1+1+1)=some (.row 1 [[.map (a+1+1+1+1)]] .live none):=by rw [d,qv,ae]
 have W:b (a+1+1+1+1+1+1)=_:=(congrFun d _).trans ae;have Y:∀ k,k<a->b k=e k:=fun k v=>by rw [d,qv,qv,qv,qv,qv,qv,qv]
 have ab:LookAt b (a+1+1+1+1+1+1+1) a (a+1+1+1) (a+1+1+1+1+1) (a+1+1+1+1+1+1) (a+1+1) (a+1+1+1+1) x [] []:=⟨U,a',bc,W,⟨_,a9⟩,⟨_,bb⟩,by omega⟩
 have Q:=Ae A l c;have N:=xb A l (by omega) R x C (Ac A l c) e a S a6 a (a+1+1+1) (a+1+1+1+1+1) (a+1+1+1+1+1+1) (a+1+1) (a+1+1+1+1) (by omega) (by omega) (by omega) l.length (q5 _) c Q.1 Q.2 [] [] b (a+1+1+1+1+1+1+1) (by omega) Y ab ⟨by simp,by simp,by simp,by simp⟩
 simp only [aM,Spot.cells,r0] at N;rw [<-show 128=128 from rfl,<-d]
 simp [W,a8,U,C,M];refine N.mono ?_;rintro av ⟨t,q⟩ u ⟨bk,F,p,o,ag,bf,bi,fr⟩;simp only at u p fr;have K:=Ad o ag bf bi;have H:∀ s∈F.map (·.1),s∈c::l.flatMap fun x=>x.reads A:=fun s f=>wD (o.fr s f);have a3:∀ h:List Inst,(∀ i∈h,(i.reads A).length<=4096)->(h.flatMap fun x=>x.reads A).length<=4096*h.length:=by
  intro h P
  induction h with
  | nil=>simp
  | cons i h a7=>
   have b:=P i r4;have t:=a7 fun j ax=>P j (r3 _ ax);simp only [List.flatMap_cons,s3,s5]; omega
 have bt:F.length<=10000000:=by
  have b:=EB o.fn H;have t:=a3 l R;simp only [so,s5] at b;omega
 have am:∀ s∈F.map (·.1),0<=s.cell/\s.cell<=1000000000:=fun s f=>by
  rcases se.1 (H s f) with rfl | f
  ·exact a5
  ·obtain ⟨i,ar,f⟩:=x0.1 f;exact ap i ar s f
 obtain ⟨bj,a0⟩:=p.mf;simp [p.bf];refine (xd (a+1+1) t q).mono ?_;rintro av ⟨bo,bl⟩ bx ⟨rfl,y⟩;injection y with y ai;subst y; subst ai;have b0:=p.lt.2.2.2.2.1;simp;refine (xc 132 (.inr rfl) F (by omega) am (a+1+1) bj q (upd t q (some (.row 1 [[.map (a+1+1)]] .live none))) (q+1) ae ((ad (by omega)).trans a0)).mono ?_
 rintro av ⟨al,bm⟩ ao ⟨D,m,aa⟩;simp only at ao D m aa;have O:∀ k,k<a->al k=e k:=fun k v=>by rw [D.h k (by omega),qv,fr k (by omega) (by omega) (by omega)]; exact Y k v
 have a4:((bK (F.map (·.1))).map Spot.cells).length=(bK (F.map (·.1))).length:=so ..;rcases m with ⟨rfl,m⟩ | ⟨G,rfl,m⟩
 ·simp;refine ⟨aA O,F.map (·.1),o.fn,K,?_⟩;exact List.map_eq_nil_iff.1 m
 ·have bN:a<=G:=by have:=(aa G (aq.2 rfl)).1; omega
  obtain ⟨Z,z⟩:∃ n,n=((bK (F.map (·.1))).map Spot.cells).length:=⟨_,rfl⟩;have a1:aP (List.take Z ((bK (F.map (·.1))).map Spot.cells))=(bK (F.map (·.1))).map Spot.cells:=by rw [z,r0,cu (fun _=>rfl)]
  have a2:Z<=(bK (F.map (·.1))).length:=by rw [z]; exact Nat.le_of_eq a4
  rw [<-z];simp [m,a1,a2];exact ⟨aA fun k v=>by rw [qv]; exact O k v,F.map (·.1),o.fn,K,rfl⟩
end Go.Proofs.YtjhogglgkjcacaaGreat
