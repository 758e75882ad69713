/- Part of the claim: see its last text. -/
import Derived.Test.YtjhogglgkjcacaaGreatMa6
import Derived.Test.YtjhogglgkjcacaaGreatMa5
set_option linter.all false
namespace Go.AM
def sK (G:Gh) (s:St) (g b:Nat):Prop:=∀ j c a,g<j->s.h j=some c->G.loc j=some a->0<a.cap->a.b≠b
def eD (s:St) (g sz:Nat) (es xs:List (List AV)) (a:Option Nat):St:=
 { h:=upd (upd s.h g (some (.row sz es (.lent s.c) a))) s.c (some (.row sz (es++xs) .live (some g))),c:=s.c+1 }
theorem dR {s:St} {g sz:Nat} {es xs:List (List AV)} {a:Option Nat} (b:g≠s.c) (k:Nat):(eD s g sz es xs a).h k =
  if k=s.c then some (.row sz (es++xs) .live (some g)) else if k=g then some (.row sz es (.lent s.c) a) else s.h k:=by
 simp only [eD,upd]
theorem rk {G:Gh} {s:St} {w:World} (c:Sim G s w) {g:Nat} {sz:Nat} {es xs:List (List AV)} {Z:RSt} {e:Option Nat} {l l':Loc} (t:s.h g=some (.row sz es Z e)) {i j:Nat} {C:Loc} (T:i≠g) (h:mV G s i j C) (U:G.loc s.c=none) :
  mV (G.addLoc s.c l') (eD s g sz es xs e) i j C:=by
 obtain ⟨ag,d,O,W,f,R,⟨ai,P,aa,Y,D,k,m,o,p⟩,al,Q,ab,H,a,q⟩:=h;have b:g≠s.c:=tr (c.hLt t);have S:i≠s.c:=tr (c.hLt f);have y:d≠s.c:=tr (c.hLt k);have v:j≠s.c:=tr (c.hLt a);have z:G.Le (G.addLoc s.c l'):=Gh.le_addLoc U;refine ⟨ag,d,O,W,by rw [dR b,if_neg S,if_neg T]; exact f,R,?_,?_⟩
 ·by_cases x:d=g
  ·subst x;exact ⟨sz,es,.lent s.c,e,D,by rw [dR b,if_neg y,if_pos rfl],z.loc _ _ m,o,p⟩
  ·exact ⟨ai,P,aa,Y,D,by rw [dR b,if_neg y,if_neg x]; exact k,z.loc _ _ m,o,p⟩
 ·by_cases u:j=g
  ·subst u;rw [t] at a; injection a with a; injection a with J K M N;subst J; subst K; subst M; subst N;exact ⟨sz,es,.lent s.c,H,by rw [dR b,if_neg v,if_pos rfl],q⟩
  ·exact ⟨al,Q,ab,H,by rw [dR b,if_neg v,if_neg u]; exact a,q⟩
theorem yN {G:Gh} {s:St} {w w':World} (d:Sim G s w) {g sz:Nat} {es xs:List (List AV)} {ab:RSt} {z:Option Nat} {l':Loc} (P:s.h g=some (.row sz es ab z)) {k:Nat} {b:Body} {l:Loc} (R:s.h k=some b) (S:G.loc k=some l)
  (U:∀ J es' H D,b=.row J es' H D->RowOk (G.addLoc s.c l') w'.heap l es') (h:∀ (r:Nat) (o:Obj),w.heap[r]?=some o->(∀ C t f,o≠Obj.cells C t f)->w'.heap[r]?=some o) :
  nS (G.addLoc s.c l') (eD s g sz es xs z) w'.heap l b:=by
 obtain ⟨ag,v,a⟩:=d.blk k b R;rw [S] at v; injection v with K; subst K;have Q:g≠s.c:=tr (d.hLt P);have x:G.Le (G.addLoc s.c l'):=Gh.le_addLoc d.fresh;cases b with
 | row J es' H D=>exact ⟨a.1,a.2.1,U _ _ _ _ rfl,a.2.2.2⟩
 | map y ver=>
  obtain ⟨q,p,m,c,u⟩:=a.1;exact ⟨MapOk.keep a.1 x (by rw [h _ _ c (by simp),c]),xi a.2⟩
 | iter Z ver done=>
  obtain ⟨q,W,Y,aa,last,seen,c,u,M⟩:=a;refine ⟨q,xi W,Y,aa,last,seen,x.loc _ _ c,h _ _ u (by simp),fun y e=>?_⟩
  have T:Z≠s.c:=tr (d.dom _ _ c);rw [dR Q,if_neg T] at e;split at e
  ·cases e
  ·obtain ⟨p,m,N,O⟩:=M y e;exact ⟨p,m,h _ _ N (by simp),O⟩
theorem Ah {G:Gh} {s:St} {w:World} (c:Sim G s w) {g sz:Nat} {es xs:List (List AV)} {a7:RSt} {q:Option Nat} {l l':Loc} (o:s.h g=some (.row sz es a7 q)) (P:G.loc g=some l) (U:0<l.cap->sK G s g l.b)
  (a3:0<l'.cap->(l'.b=l.b/\0<l.cap)\/w.heap.size<=l'.b) :
  ∀ i j t M b a,i<j->(eD s g sz es xs q).h i=some t->(eD s g sz es xs q).h j=some M->(G.addLoc s.c l').loc i=some b->(G.addLoc s.c l').loc j=some a->b.b=a.b->0<b.cap->0<a.cap ->
   mV (G.addLoc s.c l') (eD s g sz es xs q) i j b:=by
 have x:g≠s.c:=tr (c.hLt o);have bj:=c.hLt o;have bk:G.Le (G.addLoc s.c l'):=Gh.le_addLoc c.fresh;have Q:∀ m K,m≠s.c->(G.addLoc s.c l').loc m=some K->G.loc m=some K:=by
  intro m K a1 u;have:(if m=s.c then some l' else G.loc m)=some K:=u
  rwa [if_neg a1] at this
 intro i j t M b a O d e W Y D v C;rw [dR x] at d e;by_cases H:j=s.c
 ·subst H;have p:i≠s.c:=tr O;rw [if_neg p] at d;have f:=Q i b p W;have J:a=l':=by
   have:(if s.c=s.c then some l' else G.loc s.c)=some a:=Y
   rw [if_pos rfl] at this; injection this with this; exact this.symm
  subst J;have R:(eD s g sz es xs q).h s.c=some (.row sz (es++xs) .live (some g)):=by rw [dR x,if_pos rfl]
  have a4:(G.addLoc s.c a).loc s.c=some a:=ci _ _ _;have a5:∃ S,s.h i=some S:=by
   split at d
   ·rename_i h; subst h; exact ⟨_,o⟩
   ·exact ⟨_,d⟩
  obtain ⟨S,ap⟩:=a5;rcases a3 C with ⟨z,T⟩ | z
  ·by_cases k:i=g
   ·subst k;have:b=l:=by rw [P] at f; injection f with h; exact h.symm
    subst this;exact ⟨sz,s.c,es,q,by rw [dR x,if_neg p,if_pos rfl],q5 _,⟨_,_,_,_,a,R,a4,z,C⟩,_,_,_,i,R,by simp,rfl⟩
   ·rw [if_neg k] at d;have a2:i<g:=by
     rcases y1 k with u | u
     ·exact u
     ·exact absurd (D.trans z) (U T i t b u d f v)
    have am:=c.ov i g t _ b l a2 d o f P (D.trans z) v T;have ao:=rk (xs:=xs) (l:=l) (l':=a) c o k am c.fresh;obtain ⟨a8,m,ab,a6,ag,bf,ai,bo,bc,bm,bl,y,bi,al⟩:=ao;rw [dR x,if_neg x,if_pos rfl] at y;injection y with y; injection y with Z aa a' bb;subst Z; subst aa;exact ⟨a8,m,ab,a6,ag,by omega,ai,_,_,_,g,R,by simp; omega,al⟩
  ·have:=c.blkLt ap f v;omega
 ·have p:i≠s.c:=by
   intro h;have:j<s.c:=by
    rw [if_neg H] at e;split at e
    ·rename_i a9; omega
    ·exact c.hLt e
   omega
  rw [if_neg p] at d;rw [if_neg H] at e;have f:=Q i b p W;have J:=Q j a H Y;by_cases k:i=g
  ·subst k;have:b=l:=by rw [P] at f; injection f with h; exact h.symm
   subst this;have a0:j≠i:=by omega
   rw [if_neg a0] at e;exact absurd D.symm (U v j M a O e J C)
  ·rw [if_neg k] at d;have ax:∃ N,s.h j=some N:=by
    split at e
    ·rename_i h; subst h; exact ⟨_,o⟩
    ·exact ⟨_,e⟩
   obtain ⟨N,ar⟩:=ax;exact rk (l:=l) c o k (c.ov i j t N b a O d ar f J D v C) c.fresh
theorem pq {G:Gh} {s:St} {w w':World} (d:Sim G s w) {g sz:Nat} {es xs:List (List AV)} {J:RSt} {D:Option Nat} {l l':Loc} (h:s.h g=some (.row sz es J D)) (m:G.loc g=some l) (U:J≠.frz) (P:0<l.cap->sK G s g l.b)
  (S:0<l'.cap->(l'.b=l.b/\0<l.cap)\/w.heap.size<=l'.b) (Q:∀ b o v,G.mem b o=some v->w'.cell? ⟨b,o,none⟩=some v) (T:RowOk (G.addLoc s.c l') w'.heap l' (es++xs)) (W:l'.sz=sz) (R:0<l'.cap->∀ k,G.mem l'.b k=none)
  (z:∀ k M es' K H e,s.h k=some (.row M es' K H)->G.loc k=some e->RowOk (G.addLoc s.c l') w'.heap e es') (N:∀ (r:Nat) (o:Obj),w.heap[r]?=some o->(∀ C t f,o≠Obj.cells C t f)->w'.heap[r]?=some o) :
  Sim (G.addLoc s.c l') (eD s g sz es xs D) w':=by
 have O:g≠s.c:=tr (d.hLt h);have x:G.Le (G.addLoc s.c l'):=Gh.le_addLoc d.fresh;refine ⟨Q,fun k e a=>?_,fun k b a=>?_,Ah d h m P S⟩
 ·have:(if k=s.c then some l' else G.loc k)=some e:=a
  split at this
  ·rename_i c; subst c; exact q7 _
  ·exact xi (d.dom k e this)
 ·rw [dR O] at a;obtain ⟨Y,y,p⟩:=d.blk g _ h;split at a
  ·rename_i c; subst c;injection a with a; subst a;exact ⟨l',ci _ _ _,W,p.2.1,T,fun _ q o=>R q o⟩
  ·split at a
   ·rename_i c; subst c;injection a with a; subst a;rw [m] at y; injection y with c; subst c;exact ⟨l,x.loc _ _ m,p.1,p.2.1,z _ _ _ _ _ _ h m,fun _ q o=>p.2.2.2 U q o⟩
   ·obtain ⟨e,u,_⟩:=d.blk k b a;exact ⟨e,x.loc _ _ u,yN d h a u (fun M es' K H c=>by subst c; exact z _ _ _ _ _ _ a u) N⟩
theorem pp {G:Gh} {s:St} {w:World} (v:Sim G s w) {g sz:Nat} {es xs:List (List AV)} {D:RSt} {o:Option Nat} {l l':Loc} (k:s.h g=some (.row sz es D o)) (y:G.loc g=some l) (C:0<l'.cap->(l'.b=l.b/\0<l.cap)\/w.heap.size<=l'.b) :
  ∀ b,b<w.heap.size->nV (G.addLoc s.c l') (eD s g sz es xs o) b->nV G s b:=by
 have x:g≠s.c:=tr (v.hLt k);rintro b J ⟨d,p,m,c,z,h,f⟩;rw [dR x] at c;have a:(if d=s.c then some l' else G.loc d)=some m:=z
 split at c
 ·rename_i e;rw [if_pos e] at a; injection a with a; subst a;rcases C f with ⟨t,u⟩ | H
  ·exact ⟨g,_,l,k,y,by rw [<-t]; exact h,u⟩
  ·omega
 ·rename_i e;rw [if_neg e] at a;split at c
  ·rename_i q; subst q; exact ⟨d,_,m,k,a,h,f⟩
  ·exact ⟨d,p,m,c,a,h,f⟩
theorem uK {P:Program} {G:Gh} {s:St} {w:World} {t e:TypeId} {i:TypeInfo} {z:Value} (bj:P.underlying t=some (.slice e)) (a':P.info? e=some i) (d2:i.zero=some z) (d3:z.cells.size=i.size) (b4:0<i.size) (c0:0<i.bytes)
  {g:Nat} {es xs:List (List AV)} {b':RSt} {al:Option Nat} {l:Loc} {a cc:Option Addr} {ch:Nat} {u:List Value} (b:Sim G s w) (o:s.h g=some (.row i.size es b' al)) (v:G.loc g=some l) (ai:b'≠.frz) (ax:0<l.cap->sK G s g l.b)
  (bl:0<l.cap->a=some ⟨l.b,0,none⟩) (aa:Flat G i.size xs u) (b5:(es.length+xs.length)*i.bytes<=140737488355328) (b2:es.length+xs.length<=68719476736)
  (bi:∀ w',w'.heap=w.heap->(Builtin.firstCells i.size xs.length (.slice cc xs.length ch)).run P w'=.ok u.toArray w') (a3:TypeId) :
  Out P (Builtin.append_ #[t,t] a3 #[.slice a es.length l.cap,.slice cc xs.length ch]) G s w (.row s.c i.size 0 (es.length+xs.length)) (eD s g i.size es xs al):=by
 obtain ⟨e4,b1,C,ex,a7,bm⟩:=b.blk g _ o;rw [v] at b1; injection b1 with cl; subst cl;have dk:=aa.mem_cell b4;have c7:=a7.1;have ez:g≠s.c:=tr (b.hLt o);by_cases ar:es.length+xs.length<=l.cap
 ·by_cases D:0<l.cap
  ·
   obtain ⟨k,a4,O,c1,a9⟩:=a7.flat D;have cs:=bl D;subst cs;have dN:u.length=xs.length*i.size:=aa.1;have e1:(es.length+xs.length)*l.sz<=l.cap*l.sz:=r2 _ ar;have bx:0+es.length*i.size+u.length<=k.size:=by
    rw [dN,<-C,s7,<-Nat.add_mul]; omega
   have a1:=px (P:=P) bj a' O (bi w rfl) dk (len:=es.length) (cap:=l.cap) ar bx a3;rw [s7] at a1 bx;have x:G.Le (G.addLoc s.c l):=Gh.le_addLoc b.fresh;have b6:=setRow_heap w l.b k (k.toList.take (es.length*i.size)++u++k.toList.drop (es.length*i.size+u.length)).toArray a4 _ O;have M:0<l.cap->(l.b=l.b/\0<l.cap)\/w.heap.size<=l.b:=fun _=>.inl ⟨rfl,D⟩;have c9:∀ h,h<es.length*i.size->(k.toList.take (es.length*i.size)++u++k.toList.drop (es.length*i.size+u.length)).toArray[h]?=k[h]?:=by
    intro h c;simp only [x8];rw [u0,sk (by simp; omega),s0,if_pos c]
    simp
   have ag:Sim (G.addLoc s.c l) (eD s g i.size es xs al) (w.setRow l.b (k.toList.take (es.length*i.size)++u++k.toList.drop (es.length*i.size+u.length)).toArray):=by
    refine pq b o v ai ax M ?_ ?_ C (fun R=>bm ai R) ?_ ?_
    ·intro d N Z T;by_cases Q:d=l.b
     ·subst Q; rw [bm ai D N] at T; cases T
     ·rw [d6 (setRow_other w l.b d _ Q)]; exact b.mem d N Z T
    ·have c6:=a9.append (by rw [C]; exact aa:Flat G l.sz xs u)
     refine RowOk.ofFlat (e:=a4) b6 (by simp; omega) (by simpa using ar) (c6.mono x) ?_
     intro j Z ab;simp only [x8];rw [sk (by
      have:=(q4.1 ab).1;rw [C] at this;simpa using this)]
     rw [C] at ab;exact ab
    ·intro h cb am ca b9 y c p;obtain ⟨b7,K,bb,bN,S,bW⟩:=b.blk h _ c;rw [p] at K; injection K with H; subst H;by_cases bo:0<y.cap/\y.b=l.b
     ·obtain ⟨a8,ap⟩:=bo;have cx:am.length<=es.length/\y.sz=i.size:=by
       by_cases b0:h=g
       ·subst b0;rw [o] at c; injection c with c; injection c with W Y;subst Y;rw [v] at p; injection p with p; subst p;exact ⟨q5 _,C⟩
       ·have c':h<g:=by
         rcases y1 b0 with m | m
         ·exact m
         ·exact absurd ap (ax D h _ y m c p a8)
        obtain ⟨e',e3,en,e6,f,J,_,fa,eo,e9,e5,ao,cp,cq⟩:=b.ov h g _ _ y l c' c o p v ap a8 D;rw [c] at f; injection f with f; injection f with W Y;rw [o] at ao; injection ao with ao; injection ao with d' ea;subst W; subst Y; subst ea;exact ⟨cp,by rw [bb,cq,d']⟩
      obtain ⟨dn,dp⟩:=S;refine ⟨dn,fun _=>?_⟩;obtain ⟨eg,fb,f,J,a6⟩:=dp a8;rw [ap,O] at f; injection f with f; injection f with f et;subst f;refine ⟨_,a4,by rw [ap]; exact b6,by simp; omega,fun n a5 a2=>⟨(a6 n a5 a2).1,fun b8 av T=>?_⟩⟩
      obtain ⟨W,Z,Y,bk⟩:=(a6 n a5 a2).2 b8 av T;refine ⟨W,Z,?_,bk.mono x⟩;have eP:n<am.length:=(q4.1 a2).1;have eM:b8<a5.length:=(q4.1 T).1;have e2:=(a6 n a5 a2).1;rw [c9]
      ·exact Y
      ·have:(n+1)*y.sz<=es.length*y.sz:=r2 _ (by omega)
       rw [tn,D5] at this;rw [<-cx.2]; omega
     ·refine S.keep x fun R=>?_;exact setRow_other w l.b y.b _ fun e=>bo ⟨R,e⟩
    ·intro r N q bc;rw [setRow_other w l.b r _ (by rintro rfl; rw [O] at q; injection q with q; exact bc _ _ _ q.symm)]
     exact q
   refine ⟨_,_,G.addLoc s.c l,a1,⟨x,rv _,rfl,rfl,rfl,by simp,fun d Q q=>?_,pp b o v M⟩,ag,?_⟩
   ·by_cases H:d=l.b
    ·exact absurd ⟨g,_,l,o,v,H.symm,D⟩ q
    ·exact setRow_other w l.b d _ H
   ·have:=Rep.row (G:=G.addLoc s.c l) s.c 0 (es.length+xs.length) l (some ⟨l.b,0,none⟩) (ci _ _ _) (by simpa using ar) (by simp) b2
    rw [C] at this;simpa using this
  ·
   have cn:l.cap=0:=by omega
   have c4:es=[]:=s6.1 (by omega)
   have d0:xs=[]:=s6.1 (by omega)
   subst c4; subst d0;have dv:u=[]:=by have:=aa.1; simpa using this
   subst dv;have x:G.Le (G.addLoc s.c ⟨0,0,i.size⟩):=Gh.le_addLoc b.fresh;have M:0<(⟨0,0,i.size⟩:Loc).cap->((⟨0,0,i.size⟩:Loc).b=l.b/\0<l.cap)\/w.heap.size<=(⟨0,0,i.size⟩:Loc).b:=fun m=>absurd m (u6 _);have ag:Sim (G.addLoc s.c ⟨0,0,i.size⟩) (eD s g i.size [] [] al) w:=by
    refine pq b o v ai ax M b.mem ⟨by simp,fun m=>absurd m (u6 _)⟩ rfl (fun m=>absurd m (u6 _)) ?_ (fun r N q _=>q)
    intro h cb am ca b9 y c p;obtain ⟨b7,K,bb,bN,S,bW⟩:=b.blk h _ c;rw [p] at K; injection K with H; subst H;exact S.keep x fun _=>rfl
   refine ⟨.slice a 0 0,w,_,?_,⟨x,rv _,rfl,rfl,rfl,q5 _,fun _ _ _=>rfl,pp b o v M⟩,ag,?_⟩
   ·have:=gE (P:=P) (w:=w) (a:=a) (len:=0) (cap:=0) bj a' (bi w rfl) (q5 _) a3;simpa [cn] using this
   ·have:=Rep.row (G:=G.addLoc s.c ⟨0,0,i.size⟩) s.c 0 0 ⟨0,0,i.size⟩ a (ci _ _ _) (q5 _) (fun m=>absurd m (u6 _)) (v7 _);simpa using this
 ·
  have ds:s.show_ (.row g l.sz 0 es.length)=some es:=by simp [St.show_,o]
  have c5:es.all (aF l.sz)=true:=by
   rw [rx];intro fd d1;obtain ⟨h,c⟩:=w7.1 d1;by_cases D:0<l.cap
   ·obtain ⟨k,a4,O,c1,a9⟩:=a7.flat D;exact (a9.elem c).1
   ·have:h<es.length:=(q4.1 c).1;omega
  have dl:Rep G (.row g l.sz 0 es.length) (.slice a es.length (l.cap-0)):=.row g 0 es.length l a v (by simpa using c7) (by intro m; simpa using bl m) (by omega)
  obtain ⟨el,em,ef,c3,ey,bt,c2⟩:=fo b ds dl c5 (by rintro g z N l ⟨rfl⟩; rfl)
  injection c3 with W Y bk;subst W; subst bk;have di:∀ w',w'.heap=w.heap->(Builtin.firstCells i.size es.length (.slice a es.length (l.cap-0))).run P w'=.ok ef.toArray w':=by
   intro w' dW;rw [<-C];refine gR bt fun bc=>?_;obtain ⟨d,N,f,J⟩:=c2 bc;exact ⟨d,N,f,fun j Z ab=>by rw [d6 (w:=w) (by rw [dW])]; exact J j Z ab⟩
  obtain ⟨k,U,a1,b3,O⟩:=pw (P:=P) (w:=w) bj a' d2 di bi (by omega) b5 (tA c0 b5) a3
  obtain ⟨f,J⟩:=pr (e:=e) b b4 d3 b3 (by rw [<-C]; exact bt) aa O
  have x:G.Le (G.addLoc s.c ⟨w.heap.size,U,i.size⟩):=Gh.le_addLoc b.fresh;have bf:∀ d,d<w.heap.size->(w.drew.alloc (.cells k e)).heap[d]?=w.heap[d]?:=fun d Q=>heap_alloc_old w.drew _ d Q;have M:0<(⟨w.heap.size,U,i.size⟩:Loc).cap->((⟨w.heap.size,U,i.size⟩:Loc).b=l.b/\0<l.cap)\/w.heap.size<=(⟨w.heap.size,U,i.size⟩:Loc).b:=fun _=>.inr (q5 _);obtain ⟨d4,a0,eW,e0,da,de⟩:=f.blk s.c (.row i.size (es++xs) .live none) (by simp [newRow,upd])
  have c8:d4=⟨w.heap.size,U,i.size⟩:=by
   rw [ci] at a0; injection a0 with a0; exact a0.symm
  subst c8;have ag:Sim (G.addLoc s.c ⟨w.heap.size,U,i.size⟩) (eD s g i.size es xs al) (w.drew.alloc (.cells k e)):=by
   refine pq b o v ai ax M f.mem da rfl (fun R=>de (by simp) R) ?_ (fun r N q _=>(bf r (cF q)).trans q)
   intro h cb am ca b9 y c p;obtain ⟨b7,K,bb,bN,S,bW⟩:=b.blk h _ c;rw [p] at K; injection K with H; subst H;exact S.keep x fun R=>bf _ (b.blkLt c p R)
  refine ⟨_,_,_,by simpa using a1,⟨x,rv _,J.os,J.tape,J.output,J.size,fun d Q _=>bf d Q,pp b o v M⟩,ag,fZ b b3 b2⟩
theorem wu {G:Gh} {s:St} {w:World} (h:Sim G s w) {g sz:Nat} {es:List (List AV)} {t:Option Nat} {l:Loc} (b:s.h g=some (.row sz es .live t)) (p:G.loc g=some l) (k:0<l.cap):sK G s g l.b:=by
 intro j c q o d e f m;obtain ⟨_,_,_,_,a,_⟩:=h.ov g j _ c l q o b d p e m.symm k f;rw [b] at a; injection a with a; injection a with _ _ a; cases a
theorem vX {G:Gh} {s:St} {w:World} (C:Sim G s w) {g k sz:Nat} {es:List (List AV)} {y:Option Nat} {l:Loc} (H:s.h g=some (.row sz es (.lent k) y)) (ab:G.loc g=some l) (N:s.h.gone k=true) :
  k≠g/\Sim G { s with h:=upd s.h k none } w/\Stp G s w G { s with h:=upd s.h k none } w/\(0<l.cap->sK G { s with h:=upd s.h k none } g l.b):=by
 have aa:k≠g:=by
  rintro rfl;simp [Heap.gone,H] at N
 have O:∀ i j t e o c,i<j->s.h i=some t->s.h j=some e->j≠k->G.loc i=some o->G.loc j=some c->o.b=c.b->0<o.cap->0<c.cap->∀ sz es y,s.h i=some (.row sz es (.lent k) y)->False:=by
  intro i j t e o c J b m a0 K x q D v Q M P Z;obtain ⟨a',a1,am,a4,a,z,⟨bb,ao,a8,a5,al,u,R,S,T⟩,_⟩:=C.ov i j t e o c J b m K x q D v;rw [Z] at a; injection a with a; injection a with _ _ a; injection a with a; subst a;have ag:k<j:=by omega
  obtain ⟨bc,a2,ap,a6,p,ax,⟨bf,ar,a9,a7,a3,U,_⟩,_⟩:=C.ov k j _ e al c ag u m R x (S.trans q) T v;rw [u] at p; injection p with p; injection p with _ _ p; subst p;simp [Heap.gone,u,U] at N
 have f:∀ i d,upd s.h k none i=some d->i≠k/\s.h i=some d:=by
  intro i d b;unfold upd at b;split at b
  ·cases b
  ·rename_i h; exact ⟨h,b⟩
 refine ⟨aa,?_,Stp.sub (q5 _) fun i d b=>(f i d b).2,?_⟩
 ·refine C.sub (q5 _) (fun i d b=>(f i d b).2) ?_;intro i j t e o c J b m K x q D v Q ai M P a z d W;show upd s.h k none ai=some d;unfold upd;rw [if_neg]
  ·exact W
  ·rintro rfl;exact O i j t e o c J (f i _ b).2 (f j _ m).2 (f j _ m).1 K x q D v Q M P a
 ·intro Y j e c m a z u q;exact O g j _ e l c m H (f j _ a).2 (f j _ a).1 ab z q.symm Y u sz es y H
theorem vD {P:Program} {G:Gh} {s s':St} {w:World} {t e:TypeId} {i:TypeInfo} (a:ql P t=some (e,i)) {l x av:AV} {R ap:Value} (h:apI i.size i.bytes .fork l x s=some (av,s'))
  (U:Rep G l R) (ag:Rep G x ap) (m:Sim G s w) (v:TypeId):Out P (Builtin.append_ #[t,t] v #[R,ap]) G s w av s':=by
 by_cases W:∃ b N off O d p o,l=.row b N off d.length/\s.h b=some (.row O d p o)
 ·obtain ⟨b,cb,off,cc,d,p,o,rfl,c⟩:=W;have b9:=a;unfold ql at a;split at a
  case h_2=>cases a
  case h_1 b5 am bl=>
  split at a
  case h_2=>cases a
  case h_1 ch ca bm=>
  split at a
  case isFalse=>cases a
  case isTrue bf=>
  injection a with a; injection a with f g; subst f; subst g;obtain ⟨ab,D⟩:=dT bl;obtain ⟨q,b4,ai,rfl⟩:=eQ bm;rw [D] at q; injection q with q; subst q;obtain ⟨_,al⟩:=iX (G:=G) bf;unfold apI at h;split at h
  case h_1=>cases h
  case h_2 xs bj=>
  split at h
  case isFalse=>cases h
  case isTrue z=>
  obtain ⟨aa,T,a5,bk⟩:=z;obtain ⟨b2,b3,b1,rfl,b',C,bt⟩:=fo m bj ag a5 (by
   rintro b b4 ao M rfl;simpa [fp] using bk)
  have Z:∀ k,k.heap=w.heap->(Builtin.firstCells am.size xs.length (.slice b2 xs.length b3)).run P k=.ok b1.toArray k:=by
   intro k bo;refine gR C fun J=>?_;obtain ⟨y,ao,f,g⟩:=bt J;exact ⟨y,ao,f,fun j Q a'=>by rw [d6 (w:=w) (by rw [bo])]; exact g j Q a'⟩
  simp only [c] at h;split at h
  ·rename_i a7;obtain ⟨b6,a0,a1,H,a6⟩:=a7;have Y:=qF H a6;subst a1;simp only [if_true] at h;cases U with
   | row _ _ _ M ax u b7 a4=>
    have S:0<M.cap->ax=some ⟨M.b,0,none⟩:=fun z=>by simpa using a4 z
    rw [<-a0] at c;unfold rR at h;cases p with
    | live=>
     simp only at h;injection h with h; injection h with f g; subst f; subst g;exact uK ab D ai al aa T m c u (by simp) (wu m c u) S C Y H Z v
    | frz=>cases h
    | lent K=>
     simp only at h;split at h
     ·rename_i a9;injection h with h; injection h with f g; subst f; subst g;obtain ⟨bb,a2,a3,bc⟩:=vX m c u a9;have a8:({ s with h:=upd s.h K none }:St).h b=some (.row am.size d (.lent K) o):=by
       show upd s.h K none b=_;unfold upd; rw [if_neg (s4 bb)]; exact c
      obtain ⟨Q,k,ar,bx,bN,bW,b0⟩:=uK ab D ai al aa T a2 a8 u (by simp) bc S C Y H Z v
      exact ⟨Q,k,ar,bx,a3.trans bN,bW,b0⟩
     ·cases h
  ·cases h
 ·have bi:apI i.size i.bytes .plain l x s=some (av,s'):=by
   rw [<-h];unfold apI;cases b8:s.show_ x with
   | none=>rfl
   | some xs=>
    simp only;cases l with
    | row b N off len=>
     simp only;cases c:s.h b with
     | none=>rfl
     | some y=>
      cases y with
      | row O d p o=>
       simp only;have J:¬len=d.length:=fun e=>W ⟨b,N,off,O,d,p,o,by rw [e],c⟩
       simp only [if_neg J]
      | _=>rfl
    | _=>rfl
  exact zz a (by simp) bi U ag m v
end Go.AM
