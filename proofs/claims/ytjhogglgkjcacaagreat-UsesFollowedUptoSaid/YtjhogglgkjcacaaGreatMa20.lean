/- Part of the claim: see its last text. -/
import Derived.KernelRfl
import Derived.Test.YtjhogglgkjcacaaGreatMa19
set_option linter.all false
namespace Go.AM
def au (x:AV) (k:Nat):Prop:=∃ a off n,x=.row k a off n
theorem aq {g sz off n k:Nat}:au (.row g sz off n) k↔k=g:=by
 constructor
 ·rintro ⟨_,_,_,a⟩; injection a with a; exact a.symm
 ·rintro rfl; exact ⟨_,_,_,rfl⟩
theorem aL {es:List (List AV)} {b:Bool} {k:Nat}:¬au (.sl es b) k:=by rintro ⟨_,_,_,a⟩; cases a
def RowPre (h:Heap) (sz:Nat) (x:AV) (es:List (List AV)):Prop:=(x=.sl [] true/\es=[])\/∃ a b,x=.row a sz 0 es.length/\h a=some (.row sz (es++b) .live none)
def RowAt (h:Heap) (sz:Nat) (x:AV) (es:List (List AV)):Prop:=(x=.sl [] true/\es=[])\/∃ a,x=.row a sz 0 es.length/\h a=some (.row sz es .live none)
theorem RowPre.frame {h h':Heap} {sz:Nat} {x:AV} {es:List (List AV)} (r:RowPre h sz x es) (d:∀ k,au x k->h' k=h k):RowPre h' sz x es:=by
 rcases r with r | ⟨a,b,rfl,c⟩
 ·exact .inl r
 ·exact .inr ⟨a,b,rfl,(d a (aq.2 rfl)).trans c⟩
theorem RowAt.frame {h h':Heap} {sz:Nat} {x:AV} {es:List (List AV)} (r:RowAt h sz x es) (c:∀ k,au x k->h' k=h k):RowAt h' sz x es:=by
 rcases r with r | ⟨a,rfl,b⟩
 ·exact .inl r
 ·exact .inr ⟨a,rfl,(c a (aq.2 rfl)).trans b⟩
theorem RowAt.pre {h:Heap} {sz:Nat} {x:AV} {es:List (List AV)} (r:RowAt h sz x es):RowPre h sz x es:=by
 rcases r with r | ⟨a,rfl,b⟩
 ·exact .inl r
 ·exact .inr ⟨a,[],rfl,by simpa using b⟩
theorem RowAt.cell {h:Heap} {sz:Nat} {x:AV} {es:List (List AV)} (r:RowAt h sz x es):x.cell=true:=by
 rcases r with ⟨rfl,_⟩ | ⟨a,rfl,b⟩ <;> rfl
theorem RowPre.cell {h:Heap} {sz:Nat} {x:AV} {es:List (List AV)} (r:RowPre h sz x es):x.cell=true:=by
 rcases r with ⟨rfl,_⟩ | ⟨a,_,rfl,b⟩ <;> rfl
theorem RowPre.len {h:Heap} {sz:Nat} {x:AV} {es:List (List AV)} (r:RowPre h sz x es) (s:St):eL 1 x s=some (.int es.length):=by
 rcases r with ⟨rfl,rfl⟩ | ⟨a,_,rfl,b⟩ <;> rfl
theorem RowAt.len {h:Heap} {sz:Nat} {x:AV} {es:List (List AV)} (r:RowAt h sz x es) (s:St):eL 1 x s=some (.int es.length):=r.pre.len s
theorem RowPre.norm {h:Heap} {sz:Nat} {x:AV} {es:List (List AV)} (r:RowPre h sz x es):x=.sl [] true/\es=[]\/norm x=x:=by
 rcases r with r | ⟨a,_,rfl,b⟩
 ·exact .inl r
 ·exact .inr rfl
theorem Av {a:Type} {es full:List a} {b x:a}:(es++b::full).set es.length x=es++x::full:=by
 rw [List.set_append_right _ _ (q5 _),x3,List.set_cons_zero]
theorem RowPre.push {sz bytes:Nat} {md:Md} {x:AV} {es:List (List AV)} {h:Heap} {c:Nat} (r:RowPre h sz x es) (M:md≠.fork) (m:0<sz) (o:0<bytes) (p:bytes<=2048) {e:List AV} {b:Bool} (t:aF sz e=true) (Q:∀ e∈es,aF sz e=true) (y:es.length+1<=68719476736) (O:∀ k,au x k->k<c) :
  ∃ l h' c',apI sz bytes md x (.sl [e] b) ⟨h,c⟩=some (l,⟨h',c'⟩)/\RowPre h' sz l (es++[e])/\c<=c'/\(∀ k,au l k->au x k\/(k=c/\c<c'))/\(∀ k,k≠c->¬au x k->h' k=h k)/\(c'=c->h' c=h c\/au x c)/\∃ g,l=.row g sz 0 (es.length+1):=by
 rcases r with ⟨rfl,rfl⟩ | ⟨g,d,rfl,w⟩
 ·have:=dr (sz:=sz) (bytes:=bytes) (md:=md) (es:=[]) (xs:=[e]) (b:=b) (s:=⟨h,c⟩) m o p (by simp) (fun f z=>by simp at z; rw [z]; exact t) (by simp) (.inr rfl)
  refine ⟨_,_,_,this,.inr ⟨c,[],rfl,?_⟩,by simp [newRow],fun k a=>?_,fun k a _=>?_,fun q=>?_,c,rfl⟩
  ·simp [newRow]
  ·have:=aq.1 a; exact .inr ⟨this,by simp [newRow]⟩
  ·simp [newRow,ad a]
  ·simp [newRow] at q
 ·cases d with
  | nil=>
   have R:g<c:=O g (aq.2 rfl);have H:h g=some (.row sz es .live none):=by simpa using w
   have:=bE (sz:=sz) (bytes:=bytes) (md:=md) (x:=e) (b:=b) (s:=⟨h,c⟩) M H rfl m o p t y;refine ⟨_,_,_,this,.inr ⟨c,[],by simp,?_⟩,by simp,fun k a=>?_,fun k a u=>?_,fun q=>?_,c,rfl⟩
   ·simp
   ·have:=aq.1 a; exact .inr ⟨this,by simp⟩
   ·have:k≠g:=fun e=>u (aq.2 e);show upd (upd h g none) c _ k=h k;rw [ad a,ad this]
   ·simp at q
  | cons f d=>
   have C:[e].all (aF sz)=true:=rx.2 fun S P=>by rw [sa.1 P]; exact t
   have K:es.length≠(es++f::d).length:=by simp
   have J:es.length+1<=(es++f::d).length:=by simp
   have N:(es++f::d).take es.length=es:=by simp
   have G:(es++f::d).drop (es.length+1)=d:=by
    rw [List.drop_append,u2 (by omega)]
    simp [show es.length+1-es.length=1 by omega]
   have D:apI sz bytes md (.row g sz 0 es.length) (.sl [e] b) ⟨h,c⟩=some (.row g sz 0 (es.length+1),⟨upd h g (some (.row sz (es++[e]++d) .live none)),c⟩):=by
    simp only [apI,St.show_,m,o,C,fp,and_self,if_true,w,p,s5,x5,s7,y,if_neg K,J];rw [N,G]
   refine ⟨_,_,_,D,.inr ⟨g,d,by simp,by rw [ae]⟩,q5 _,fun k a=>.inl (aq.2 (aq.1 a)),fun k a u=>ad fun e=>u (aq.2 e),fun _=>?_,g,rfl⟩
   by_cases v:c=g
   ·exact .inr (aq.2 v)
   ·exact .inl (ad v)
theorem RowAt.push {sz bytes:Nat} {md:Md} {x:AV} {es:List (List AV)} {h:Heap} {c:Nat} (r:RowAt h sz x es) (u:md≠.fork) (f:0<sz) (g:0<bytes) (l:bytes<=2048) {e:List AV} {b:Bool} (m:aF sz e=true) (w:∀ e∈es,aF sz e=true) (t:es.length+1<=68719476736) (v:∀ k,au x k->k<c) :
  ∃ h',apI sz bytes md x (.sl [e] b) ⟨h,c⟩=some (.row c sz 0 (es.length+1),⟨h',c+1⟩)/\h' c=some (.row sz (es++[e]) .live none)/\RowAt h' sz (.row c sz 0 (es.length+1)) (es++[e])/\(∀ k,k≠c->¬au x k->h' k=h k):=by
 rcases r with ⟨rfl,rfl⟩ | ⟨a,rfl,p⟩
 ·have:=dr (sz:=sz) (bytes:=bytes) (md:=md) (es:=[]) (xs:=[e]) (b:=b) (s:=⟨h,c⟩) f g l (by simp) (fun z o=>by simp at o; rw [o]; exact m) (by simp) (.inr rfl)
  refine ⟨_,this,by simp [newRow],.inr ⟨c,rfl,by simp [newRow]⟩,fun k d _=>by simp [newRow,ad d]⟩
 ·have y:a<c:=v a (aq.2 rfl);have:=bE (sz:=sz) (bytes:=bytes) (md:=md) (x:=e) (b:=b) (s:=⟨h,c⟩) u p rfl f g l m t;refine ⟨_,this,ae,.inr ⟨c,by simp,ae⟩,fun k d q=>?_⟩
  have:k≠a:=fun e=>q (aq.2 e);show upd (upd h a none) c _ k=h k;rw [ad d,ad this]
theorem RowPre.pop {h:Heap} {sz:Nat} {x:AV} {es:List (List AV)} {e:List AV} (r:RowPre h sz x (es++[e])):∃ g,x=.row g sz 0 (es.length+1)/\srI sz x none (some (.int es.length)) none=some (.row g sz 0 es.length)/\RowPre h sz (.row g sz 0 es.length) es:=by
 rcases r with ⟨_,r⟩ | ⟨g,a,rfl,d⟩
 ·simp at r
 ·refine ⟨g,by simp,?_,.inr ⟨g,e::a,rfl,by simpa using d⟩⟩
  have b:(es++[e]).length=es.length+1:=by simp
  have c:(es.length:Int)<=(es.length:Int)+1:=by omega
  simp [srI,bnd,b,c]
theorem RowPre.last {h:Heap} {sz:Nat} {x:AV} {es:List (List AV)} {e:List AV} (r:RowPre h sz x (es++[e])):∃ g full,x=.row g sz 0 (es.length+1)/\h g=some (.row sz (es++e::full) .live none):=by
 rcases r with ⟨_,r⟩ | ⟨g,full,rfl,a⟩
 ·simp at r
 ·exact ⟨g,full,by simp,by simpa using a⟩
inductive Frz (h:Heap) (D:Nat->Prop):AV->AV->Prop
 | leaf (v:AV):Frz h D v (norm v)
 | agg (cs ys:List AV) (hl:cs.length=ys.length) (hh:∀ (j:Nat) (c y:AV),cs[j]?=some c->ys[j]?=some y->Frz h D c y):Frz h D (.agg cs) (.agg ys)
 | row (g sz off len:Nat) (es:List (List AV)) (st:RSt) (ys:List (List AV)) (hg:h g=some (.row sz es st none)) (hst:st=.live\/st=.frz) (hD:D g) (hle:off+len<=es.length) (hl:ys.length=len)
   (hz:∀ (i:Nat) (e y:List AV),es[off+i]?=some e->ys[i]?=some y->e.length=y.length)
   (hh:∀ (i j:Nat) (e y:List AV) (c d:AV),es[off+i]?=some e->ys[i]?=some y->e[j]?=some c->y[j]?=some d->Frz h D c d):Frz h D (.row g sz off len) (.sl ys false)
def FzH (D:Nat->Prop) (h h':Heap):Prop:=∀ a,h' a=h a\/(D a/\∃ (d:Nat) (c:List (List AV)) (b:RSt),(b=.live\/b=.frz)/\h a=some (.row d c b none)/\h' a=some (.row d c .frz none))
theorem FzH.refl (D:Nat->Prop) (h:Heap):FzH D h h:=fun a=>.inl rfl
theorem FzH.trans {D:Nat->Prop} {a b c:Heap} (h:FzH D a b) (k:FzH D b c):FzH D a c:=fun i=>by
 rcases k i with k | ⟨f,o,g,m,l,d,e⟩
 ·rcases h i with h | ⟨f,o,g,m,l,d,e⟩
  ·exact .inl (k.trans h)
  ·exact .inr ⟨f,o,g,m,l,d,k.trans e⟩
 ·rcases h i with h | ⟨_,y,p,x,u,q,t⟩
  ·exact .inr ⟨f,o,g,m,l,h▸d,e⟩
  ·rw [t] at d;injection d with d;injection d with v w z C;subst v; subst w;exact .inr ⟨f,y,p,x,u,q,e⟩
def vx (h:Heap) (D:Nat->Prop) (a b:AV):Prop:=∀ (e:Gh) (s:St) (d:World) (g:Value),Sim e s d->FzH D h s.h->Rep e (norm a) g->∃ f c,Stp e s d f c d/\Sim f c d/\Rep f b g/\c.c=s.c/\FzH D s.h c.h
theorem pz {h:Heap} {D:Nat->Prop} {w:World}:∀ (b:List (AV×AV×Value)) (G:Gh) (s:St),(∀ t∈b,vx h D t.1 t.2.1)->Sim G s w->FzH D h s.h->(∀ t∈b,Rep G (norm t.1) t.2.2) ->
  ∃ d s',Stp G s w d s' w/\Sim d s' w/\(∀ t∈b,Rep d t.2.1 t.2.2)/\s'.c=s.c/\FzH D s.h s'.h
 | [],G,s,_,e,_,_=>⟨G,s,Stp.refl G s w,e,by simp,rfl,FzH.refl D _⟩
 | t::b,G,s,g,e,f,k=>by
  obtain ⟨p,J,l,u,v,x,m⟩:=g t (r4) G s w t.2.2 e f (k t (r4));obtain ⟨q,K,o,y,z,C,H⟩:=pz b p J (fun c a=>g c (r3 _ a)) u (f.trans m) (fun c a=>(k c (r3 _ a)).mono l.le);refine ⟨q,K,l.trans o,y,fun c a=>?_,C.trans x,m.trans H⟩;rcases se.1 a with rfl | a
  ·exact v.mono o.le
  ·exact z c a
theorem jm {cs:List AV} {j:Nat} {c:AV} (h:cs[j]?=some c):(br cs)[j]?=some (norm c):=by
 induction cs generalizing j with
 | nil=>cases h
 | cons b cs a=>cases j with
  | zero=>simp at h; subst h; rfl
  | succ j=>simpa [br] using a (by simpa using h)
theorem rp {es:List (List AV)} {i:Nat} {e:List AV} (h:es[i]?=some e):(aP es)[i]?=some (br e):=by
 induction es generalizing i with
 | nil=>cases h
 | cons c b a=>cases i with
  | zero=>simp at h; subst h; rfl
  | succ j=>simpa [aP] using a (by simpa using h)
theorem Frz.ok {h:Heap} {D:Nat->Prop} {a b:AV} (bf:Frz h D a b):vx h D a b:=by
 induction bf with
 | leaf a6=>
  intro z s w a5 G u H;exact ⟨z,s,Stp.refl z s w,G,H,rfl,FzH.refl D _⟩
 | agg o ys S _ ab=>
  intro z s w a5 G u H;obtain ⟨O,rfl,ar⟩:=Rep.ofAgg (by simpa [norm] using H)
  have cc:o.length=O.size:=by have:=ar.1; rw [ib] at this; simpa using this
  obtain ⟨W,b6,J,K,M,a2,b1⟩:=pz (h:=h) (D:=D) (w:=w) ((List.range o.length).map fun j=>(o.getD j .undef,ys.getD j .undef,O.getD j undef)) z s (fun ag m=>by
   obtain ⟨j,l,rfl⟩:=rf.1 m;have p:j<o.length:=uc.1 l;have t:o[j]?=some (o.getD j .undef):=by simp [List.getD,q3 p]
   have Y:ys[j]?=some (ys.getD j .undef):=by simp [List.getD,q3 (show j<ys.length by omega)]
   exact ab j _ _ t Y) G u (fun ag m=>by
   obtain ⟨j,l,rfl⟩:=rf.1 m;have p:j<o.length:=uc.1 l;have t:o[j]?=some (o.getD j .undef):=by simp [List.getD,q3 p]
   exact ar.2 j _ _ (jm t) (by simp [show j<O.size by omega]))
  refine ⟨W,b6,J,K,.agg ys O (by omega) fun j P a6 Z bx=>?_,a2,b1⟩
  have p:j<ys.length:=(q4.1 Z).1;have:=M _ (rf.2 ⟨j,uc.2 (show j<o.length by omega),rfl⟩)
  have C:ys.getD j .undef=P:=by simp [List.getD,Z]
  have q:O.getD j undef=a6:=by rw [r5,bx]; rfl
  simp only [C,q] at this;exact this
 | row x N off len g b8 ys am bt bb bj S U _ ab=>
  intro z s w a5 G u H;have T:∃ y,(y=.live\/y=.frz)/\s.h x=some (.row N g y none):=by
   rcases u x with u | ⟨_,a4,b9,y,_,t,Y⟩
   ·exact ⟨b8,bt,u.trans am⟩
   ·rw [am] at t; injection t with t; injection t with J K M a2;subst J; subst K;exact ⟨.frz,.inr rfl,Y⟩
  obtain ⟨y,ax,T⟩:=T;have bi:fz1 (.row x N off len) s=some (.sl (aP ((g.drop off).take len)) false,{ s with h:=upd s.h x (some (.row N g .frz none)) }):=by
   simp only [fz1,T];rw [if_pos (by simp [bj,ax])]
  obtain ⟨W,J,K,M⟩:=pS bi (by simpa [norm] using H) G
  have al:FzH D s.h (upd s.h x (some (.row N g .frz none))):=fun bW=>by
   by_cases ap:bW=x
   ·subst ap; exact .inr ⟨bb,N,g,y,ax,T,ae⟩
   ·exact .inl (ad ap)
  have R:∀ (i:Nat) (c:List AV),i<len->g[off+i]?=some c->(aP ((g.drop off).take len))[i]?=some (br c):=fun i c v e=>rp (by rw [tt v,s8]; exact e)
  have bk:(aP ((g.drop off).take len)).length=len:=by rw [nC]; simp; omega
  generalize b':aP ((g.drop off).take len)=E at M R bk;cases M with
  | sl _ _ a a8 b b0 a4 ai Z cb bc bN bl bo ca=>
   have Q:∀ i,i<len->∃ c,g[off+i]?=some c:=fun i v=>⟨g[off+i],q3 (by omega)⟩
   have a0:∀ i,i<len->∃ d,ys[i]?=some d:=fun i v=>⟨ys[i],q3 (by omega)⟩
   obtain ⟨a7,b7,a3,b2,b3,b4,b5⟩:=pz (h:=h) (D:=D) (w:=w) ((List.range len).flatMap fun i=>(List.range (ys.getD i []).length).map fun j=>((g.getD (off+i) []).getD j .undef,(ys.getD i []).getD j .undef,ai i j)) W _ (fun ag m=>by
    obtain ⟨i,v,m⟩:=x0.1 m;obtain ⟨j,l,rfl⟩:=rf.1 m;have k:i<len:=uc.1 v;obtain ⟨c,e⟩:=Q i k;obtain ⟨d,f⟩:=a0 i k;have C:g.getD (off+i) []=c:=by simp [List.getD,e]
    have q:ys.getD i []=d:=by simp [List.getD,f]
    rw [q] at l;have p:j<d.length:=uc.1 l;have ao:=U i c d e f;simp only [C,q];exact ab i j c d _ _ e f (by simp [List.getD,q3 (show j<c.length by omega)]) (by simp [List.getD,q3 p])) K (u.trans al) (fun ag m=>by
    obtain ⟨i,v,m⟩:=x0.1 m;obtain ⟨j,l,rfl⟩:=rf.1 m;have k:i<len:=uc.1 v;obtain ⟨c,e⟩:=Q i k;obtain ⟨d,f⟩:=a0 i k;have C:g.getD (off+i) []=c:=by simp [List.getD,e]
    have q:ys.getD i []=d:=by simp [List.getD,f]
    rw [q] at l;have p:j<d.length:=uc.1 l;have ao:=U i c d e f;simp only [C];have aa:c[j]?=some (c.getD j .undef):=by simp [List.getD,q3 (show j<c.length by omega)]
    exact bo i (br c) j _ (R i c k e) (jm aa))
   have a1:ys.length=E.length:=by omega
   refine ⟨a7,b7,J.trans a3,b2,?_,b4,al.trans b5⟩;rw [<-a1];refine .sl ys false a a8 b b0 a4 ai (by omega) (by simp) (fun bm=>bc ?_) ?_ ?_ ?_ (by omega)
   ·intro a9; apply bm; exact s6.1 (by rw [a1,a9]; rfl)
   ·intro i d f;have k:i<len:=by rw [<-S]; exact (q4.1 f).1
    obtain ⟨c,e⟩:=Q i k;have:=bN i _ (R i c k e);rw [ib] at this;rw [<-U i c d e f]; exact this
   ·intro i d j P f l;have k:i<len:=by rw [<-S]; exact (q4.1 f).1
    obtain ⟨c,e⟩:=Q i k;have p:j<d.length:=(q4.1 l).1;have ao:=U i c d e f;have aa:c[j]?=some (c.getD j .undef):=by simp [List.getD,q3 (show j<c.length by omega)]
    exact a3.le.mem _ _ _ (bl i (br c) j _ (R i c k e) (jm aa))
   ·intro i d j P f l;have k:i<len:=by rw [<-S]; exact (q4.1 f).1
    have p:j<d.length:=(q4.1 l).1;have q:ys.getD i []=d:=by simp [List.getD,f]
    have:=b3 _ (x0.2 ⟨i,uc.2 k,rf.2 ⟨j,uc.2 (by rw [q]; exact p),rfl⟩⟩)
    simp only [q] at this;have a':d.getD j .undef=P:=by simp [List.getD,l]
    rw [a'] at this;exact this
theorem ACalls.deep {P:Program} {f:FuncId} {args:List AV} {s:St} {R a:AV->St->Prop} (D:Nat->Prop) (q:ACalls P f args s R) (t:∀ av s',R av s'->∃ y,Frz s'.h D av y/\∀ b,FzH D s'.h b->a y ⟨b,s'.c⟩):ACalls P f args s a:=by
 intro d K J p u;refine (q d K J p u).mono fun H M ⟨av,e,s',h,k,l,m⟩=>?_;obtain ⟨y,v,o⟩:=t av s' m;obtain ⟨g,c,w,x,z,C,G⟩:=v.ok e s' M H k (FzH.refl D _) (kg _ _ l);refine ⟨y,g,c,h.trans w,x,z,?_⟩;have:=o c.h G;rw [<-C] at this;exact this
def dropF (c:Nat) (h:Heap):Heap:=fun a=>match h a with
 | some (.row g d f (some e))=>if c<=a then none else some (.row g d f (some e))
 | b=>b
theorem eC {d k:Nat} {h:Heap} {b:Body} (a:dropF d h k=some b):h k=some b/\(k<d\/∀ sz es c p,b≠.row sz es c (some p)):=by
 unfold dropF at a;split at a
 ·rename_i sz es c p g;split at a
  ·cases a
  ·injection a with a; subst a;exact ⟨g,.inl (by omega)⟩
 ·rename_i l f;refine ⟨a,.inr fun sz es c p e=>?_⟩;subst e;exact f _ _ _ _ a
theorem fM {a k:Nat} {h:Heap} (d:k<a):dropF a h k=h k:=by
 unfold dropF;split
 ·rename_i g c f e b;rw [if_neg (by omega),b]
 ·rfl
theorem jA {b k:Nat} {h:Heap} (d:∀ sz es a p,h k≠some (.row sz es a (some p))):dropF b h k=h k:=by
 unfold dropF;split
 ·rename_i sz es a p c; exact absurd c (d _ _ _ _)
 ·rfl
theorem uX {a k:Nat} {h:Heap} (b:a<=k) {sz:Nat} {es:List (List AV)} {d:RSt} {p:Nat} (c:h k=some (.row sz es d (some p))):dropF a h k=none:=by
 unfold dropF; rw [c]; simp [b]
theorem Sim.dropF {G:Gh} {s:St} {w:World} (b:Sim G s w) (p:Nat):Sim G ⟨dropF p s.h,s.c⟩ w:=by
 refine ⟨b.mem,b.dom,fun D o J=>?_,fun i j x y Y Z N K O S T H e f=>?_⟩
 ·obtain ⟨e,_⟩:=eC J;obtain ⟨W,f,g⟩:=b.blk D o e;refine ⟨W,f,?_⟩;cases o with
  | row v q a1 u=>exact g
  | map t ver=>exact g
  | iter a0 ver done=>
   obtain ⟨h,k,ab,am,last,seen,l,m,c⟩:=g;exact ⟨h,k,ab,am,last,seen,l,m,fun t R=>c t (eC R).1⟩
 ·obtain ⟨M,_⟩:=eC K;obtain ⟨a,P⟩:=eC O;obtain ⟨v,U,q,u,h,k,⟨ar,z,ao,ai,aa,l,m⟩,ax,C,ap,ag,c,al⟩:=b.ov i j x y Y Z N M a S T H e f;have Q:j<p:=by
   rcases P with d | d
   ·exact d
   ·rw [c] at a; injection a with a; exact absurd a.symm (d _ _ _ _)
  exact ⟨v,U,q,u,(fM (by omega)).trans h,k,⟨ar,z,ao,ai,aa,(fM (by omega)).trans l,m⟩,ax,C,ap,ag,(fM Q).trans c,al⟩
theorem Stp.dropF {G:Gh} {s:St} {w:World} (a:Nat):Stp G s w G ⟨AM.dropF a s.h,s.c⟩ w:=
 ⟨.refl G,q5 _,rfl,rfl,rfl,q5 _,fun _ _ _=>rfl,fun f _ ⟨b,body,e,c,d⟩=>⟨b,body,e,(eC c).1,d⟩⟩
theorem ACalls.dropF {P:Program} {f:FuncId} {args:List AV} {s:St} {R b:AV->St->Prop} (a:Nat) (m:ACalls P f args s R) (o:∀ av s',s.c<=s'.c->R av s'->b av ⟨AM.dropF a s'.h,s'.c⟩):ACalls P f args s b:=by
 intro d t q l p;refine (m d t q l p).mono fun u v ⟨av,e,s',c,g,h,k⟩=>?_;exact ⟨av,e,_,c.trans (Stp.dropF a),g.dropF a,h,o av s' c.c k⟩
theorem ACalls.clean {P:Program} {f:FuncId} {args:List AV} {s:St} {R:AV->St->Prop} (h:(∀ k,s.c<=k->s.h k=none)->ACalls P f args s R):ACalls P f args s R:=by
 intro b g e a d;refine h (fun k m=>?_) b g e a d;cases c:s.h k with
 | none=>rfl
 | some l=>have:=a.hLt c; omega
abbrev Om (a s:Nat):AO:=⟨some a,none,.plain,.mv (.t s),[]⟩
abbrev Oc (b:Nat) (a:AV):AO:=⟨some b,none,.plain,.mv (.c a),[]⟩
abbrev Oo (a:Nat) (i:I):AO:=⟨some a,none,.plain,i,[]⟩
abbrev Ow (i:I):AO:=⟨none,none,.plain,i,[]⟩
abbrev Og (a t:Nat) (i:I):AO:=⟨some a,some (t,true),.plain,i,[]⟩
abbrev Oh (a t s:Nat):AO:=⟨some a,some (t,true),.plain,.mv (.t s),[]⟩
abbrev Ol (a s:Nat):AO:=⟨some a,none,.plain,.ld none (.t s),[]⟩
abbrev Of (a k s:Nat):AO:=⟨some a,none,.plain,.fa k (.t s),[]⟩
abbrev On (a s:Nat):AO:=⟨some a,none,.plain,.nc (.t s),[]⟩
abbrev Oe (a s:Nat):AO:=⟨some a,none,.plain,.len 1 (.t s),[]⟩
abbrev aj (P:Program) (n:FuncId) (ac:AC) (r:List RX):Prop:=∀ {b:List AV} {s:St} {a:AV->St->Prop} (c:RM),acW P ac (oO c r s a) (jp b) s->ACalls P n b s a
abbrev Sq (l:List AO) (a:AC):AC:=.seq (.ops l) a
abbrev Pmd:Tmp->Md:=fun _=>.plain
abbrev Ppl:Nat->PL:=fun _=>.one []
theorem cya {P:Program} {f:FuncId} {fn:Func} (ac:AC) (rx:List RX) (md:Tmp->Md) (pl:Nat->PL) (hcall:∀ (vs:Array Value) (w:World),(callFunc f vs).run P w=.ok (.enter f vs) w) (hf:P.funcs[f]?=some fn) (h3:(fn.body,eB P fn.ntmps md pl ((fn.body).getD .skip),yH P fn.results)=(some ((fn.body).getD .skip),some ac,some rx)):aj P f ac rx:=fun q h=>af q hcall hf (congrArg (·.1) h3) (congrArg (·.2.1) h3) (congrArg (·.2.2) h3) h
theorem cza {P:Program} {f:FuncId} {fn:Func} (ac:AC) (rx:List RX) (hcall:∀ (vs:Array Value) (w:World),(callFunc f vs).run P w=.ok (.enter f vs) w) (hf:P.funcs[f]?=some fn) (h3:(fn.body,eB P fn.ntmps Pmd Ppl ((fn.body).getD .skip),yH P fn.results)=(some ((fn.body).getD .skip),some ac,some rx)):aj P f ac rx:=cya ac rx Pmd Ppl hcall hf h3
abbrev Baa (d:Nat) (a b:X):AO:=Oo d (.bin .sc .add a b)
abbrev Ga (d g:Nat) (a b:X):AO:=Og d g (.bin .sc .add a b)
abbrev Bea (d:Nat) (a b:X):AO:=Oo d (.bin .sc .eql a b)
abbrev Ge (d g:Nat) (a b:X):AO:=Og d g (.bin .sc .eql a b)
abbrev Bna (d:Nat) (a b:X):AO:=Oo d (.bin .sc .neq a b)
abbrev Bla (d:Nat) (a b:X):AO:=Oo d (.bin .sc .lss a b)
abbrev Bga (d:Nat) (a b:X):AO:=Oo d (.bin .sc .gtr a b)
abbrev Gg (d g:Nat) (a b:X):AO:=Og d g (.bin .sc .gtr a b)
abbrev Bsa (d:Nat) (a b:X):AO:=Oo d (.bin .sc .sub a b)
abbrev Gs (d g:Nat) (a b:X):AO:=Og d g (.bin .sc .sub a b)
abbrev Bqa (d:Nat) (a b:X):AO:=Oo d (.bin .sc .leq a b)
abbrev Bha (d:Nat) (a b:X):AO:=Oo d (.bin .sc .geq a b)
abbrev Bma (d:Nat) (a b:X):AO:=Oo d (.bin .sc .mul a b)
abbrev Od (d k a:Nat):AO:=Oo d (.ld (some k) (.t a))
abbrev Gd (d g k a:Nat):AO:=Og d g (.ld (some k) (.t a))
abbrev Oi (d k a b:Nat):AO:=Oo d (.ia k (.t a) (.t b))
abbrev Ok (d f:Nat) (l:List X):AO:=Oo d (.call f l)
abbrev Gk (d g f:Nat) (l:List X):AO:=Og d g (.call f l)
abbrev Ox (d a k:Nat):AO:=Oo d (.bx (.t a) k)
abbrev Oy (d a k:Nat):AO:=Oo d (.ex (.t a) k)
abbrev Oz (d a:Nat):AO:=Oo d (.un .not (.t a))
abbrev Gl (d g a:Nat):AO:=Og d g (.ld none (.t a))
abbrev Gf (d g k a:Nat):AO:=Og d g (.fa k (.t a))
abbrev Osa (k a b:Nat):AO:=Ow (.st k (.t a) (.t b))
abbrev Opa (d a b:Nat):AO:=Oo d (.pk (.t a) (.t b) (.c (.bool false)))
abbrev Or (d k a:Nat):AO:=Oo d (.bs k [.str ⟨#[]⟩] 1 [(0,.t a)])
abbrev t28:X:=.t 28
abbrev t31:X:=.t 31
abbrev t33:X:=.t 33
abbrev t34:X:=.t 34
abbrev t35:X:=.t 35
abbrev t4:X:=.t 4
abbrev t37:X:=.t 37
abbrev t39:X:=.t 39
abbrev t40:X:=.t 40
abbrev t42:X:=.t 42
abbrev t43:X:=.t 43
abbrev t45:X:=.t 45
abbrev t46:X:=.t 46
abbrev t44:X:=.t 44
abbrev t47:X:=.t 47
abbrev t50:X:=.t 50
abbrev t51:X:=.t 51
abbrev t56:X:=.t 56
abbrev t57:X:=.t 57
abbrev t62:X:=.t 62
abbrev t63:X:=.t 63
abbrev t69:X:=.t 69
abbrev t70:X:=.t 70
abbrev t74:X:=.t 74
abbrev t77:X:=.t 77
abbrev t81:X:=.t 81
abbrev t84:X:=.t 84
abbrev t85:X:=.t 85
abbrev t87:X:=.t 87
abbrev t91:X:=.t 91
abbrev t89:X:=.t 89
abbrev t92:X:=.t 92
abbrev t97:X:=.t 97
abbrev t98:X:=.t 98
abbrev t99:X:=.t 99
abbrev t100:X:=.t 100
abbrev t102:X:=.t 102
abbrev t107:X:=.t 107
abbrev t108:X:=.t 108
abbrev t119:X:=.t 119
abbrev t120:X:=.t 120
abbrev t121:X:=.t 121
abbrev t124:X:=.t 124
abbrev t127:X:=.t 127
abbrev t138:X:=.t 138
abbrev t3:X:=.t 3
abbrev t5:X:=.t 5
abbrev t7:X:=.t 7
abbrev t9:X:=.t 9
abbrev t6:X:=.t 6
abbrev t8:X:=.t 8
abbrev t10:X:=.t 10
abbrev t12:X:=.t 12
abbrev t11:X:=.t 11
abbrev t13:X:=.t 13
abbrev t15:X:=.t 15
abbrev t16:X:=.t 16
abbrev t17:X:=.t 17
abbrev t21:X:=.t 21
abbrev t22:X:=.t 22
abbrev t14:X:=.t 14
abbrev t19:X:=.t 19
abbrev t23:X:=.t 23
abbrev t24:X:=.t 24
abbrev t18:X:=.t 18
abbrev t32:X:=.t 32
abbrev t30:X:=.t 30
abbrev t26:X:=.t 26
abbrev t38:X:=.t 38
abbrev t36:X:=.t 36
abbrev t25:X:=.t 25
abbrev t29:X:=.t 29
abbrev t48:X:=.t 48
abbrev t49:X:=.t 49
abbrev t52:X:=.t 52
abbrev t54:X:=.t 54
abbrev t55:X:=.t 55
abbrev t60:X:=.t 60
abbrev t61:X:=.t 61
abbrev t64:X:=.t 64
abbrev t66:X:=.t 66
abbrev t71:X:=.t 71
abbrev t73:X:=.t 73
abbrev t79:X:=.t 79
abbrev t80:X:=.t 80
abbrev t20:X:=.t 20
abbrev t0:X:=.t 0
abbrev t27:X:=.t 27
abbrev t53:X:=.t 53
abbrev t59:X:=.t 59
abbrev t58:X:=.t 58
abbrev t65:X:=.t 65
abbrev t76:X:=.t 76
abbrev t83:X:=.t 83
abbrev t67:X:=.t 67
abbrev t86:X:=.t 86
abbrev t94:X:=.t 94
abbrev t116:X:=.t 116
abbrev t131:X:=.t 131
abbrev t132:X:=.t 132
abbrev t2:X:=.t 2
abbrev t68:X:=.t 68
abbrev t75:X:=.t 75
abbrev t41:X:=.t 41
abbrev t101:X:=.t 101
abbrev k0a:X:=.c (.int 1)
abbrev k1a:X:=.c (.int 0)
abbrev k2a:X:=.c (.nil)
abbrev k3a:X:=.c (.bool true)
abbrev k4a:X:=.c (.int 2)
abbrev k5a:X:=.c (.int 3)
abbrev k6a:X:=.c (.str ⟨#[]⟩)
abbrev k7a:X:=.c (.int 12)
abbrev k8a:X:=.c (.int 4)
abbrev k9a:X:=.c (.str ⟨#[97]⟩)
abbrev k10:X:=.c (.int 6)
abbrev k11:X:=.c (.int (-1))
abbrev k12:X:=.c (.bool false)
abbrev k13:X:=.c (.int 5)
abbrev k14:X:=.c (.str ⟨#[105]⟩)
abbrev k15:X:=.c (.int 1000000)
abbrev k16:X:=.c (.int 1000)
abbrev k17:X:=.c (.int 20000)
abbrev k18:X:=.c (.int 1000002)
abbrev k19:X:=.c (.int 200000)
abbrev k20:X:=.c (.str ⟨#[122,122]⟩)
abbrev k21:X:=.c (.int 300)
abbrev k22:X:=.c (.int (-1000000))
abbrev k23:X:=.c (.int 7)
abbrev k24:X:=.c (.int 8)
abbrev k25:X:=.c (.str ⟨#[98]⟩)
abbrev k26:X:=.c (.str ⟨#[102,111,114]⟩)
abbrev k27:X:=.c (.str ⟨#[115]⟩)
abbrev k28:X:=.c (.str ⟨#[106]⟩)
abbrev k29:X:=.c (.int 128)
abbrev k35:X:=.c (.str ⟨#[97,114,114,97,121]⟩)
abbrev k36:X:=.c (.str ⟨#[105,102]⟩)
abbrev k37:X:=.c (.str ⟨#[109,97,120]⟩)
abbrev k38:X:=.c (.str ⟨#[109,105,110]⟩)
abbrev k41:X:=.c (.str ⟨#[115,48]⟩)
abbrev k46:X:=.c (.str ⟨#[32,32,32,32,32,32,32,32,32,32,32,32,32,32,32,32,32,32,32,32,32,32,32,32,32,32,32,32,32,32,32,32,32,32,32,32,32,32,32,32,32,32,32,32,32,32,32,32,32,32,32,32,32,32,32,32,32,32,32,32,32,32,32,32,32,32,32,32,32,32,32,32,32,32,32,32,32,32,32,32,32,32,32,32,32,32,32,32,32,32,32,32,32,32,32,32,32,32,32,32,32,32,32,32,32,32,32,32,32,32,32,32,32,32,32,32,32,32,32,32,32,32,32,32,32,32,32,32]⟩)
abbrev k47:X:=.c (.str ⟨#[45,45,45,45,45,45,45,45,45,45,45,45,45,45,45,45,45,45,45,45,45,45,45,45,45,45,45,45,45,45,45,45,45,45,45,45,45,45,45,45,45,45,45,45,45,45,45,45,45,45,45,45,45,45,45,45,45,45,45,45,45,45,45,45,45,45,45,45,45,45,45,45,45,45,45,45,45,45,45,45,45,45,45,45,45,45,45,45,45,45,45,45,45,45,45,45,45,45,45,45,45,45,45,45,45,45,45,45,45,45,45,45,45,45,45,45,45,45,45,45,45,45,45,45,45,45,45,45]⟩)
abbrev k49:X:=.c (.str ⟨#[48,48,48,48,48,48,48,48,48,48,48,48,48,48,48,48,48,48,48,48,48,48,48,48,48,48,48,48,48,48,48,48,48,48,48,48,48,48,48,48,48,48,48,48,48,48,48,48,48,48,48,48,48,48,48,48,48,48,48,48,48,48,48,48]⟩)
abbrev k50:X:=.c (.str ⟨#[61,61,61,61,61,61,61,61,61,61,61,61,61,61,61,61,61,61,61,61,61,61,61,61,61,61,61,61,61,61,61,61,61,61,61,61,61,61,61,61,61,61,61,61,61,61,61,61,61,61,61,61,61,61,61,61,61,61,61,61,61,61,61,61,61,61,61,61,61,61,61,61,61,61,61,61,61,61,61,61,61,61,61,61,61,61,61,61,61,61,61,61,61,61,61,61,61,61,61,61,61,61,61,61,61,61,61,61,61,61,61,61,61,61,61,61,61,61,61,61,61,61,61,61,61,61,61,61]⟩)
abbrev k51:X:=.c (.str ⟨#[9,9,9,9,9,9,9,9,9,9,9,9,9,9,9,9,9,9,9,9,9,9,9,9,9,9,9,9,9,9,9,9,9,9,9,9,9,9,9,9,9,9,9,9,9,9,9,9,9,9,9,9,9,9,9,9,9,9,9,9,9,9,9,9]⟩)
end Go.AM
