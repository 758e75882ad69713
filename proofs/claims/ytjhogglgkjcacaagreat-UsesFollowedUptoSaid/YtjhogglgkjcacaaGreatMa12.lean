/- Part of the claim: see its last text. -/
import Derived.Test.YtjhogglgkjcacaaGreatMa11
set_option linter.all false
namespace Go.AM
def vw:Next->Option Value
 | .value a=>some a
 | .skip=>some Go.undef
 | _=>none
def OpRes (P:Program) (m:Sem Next) (G:Gh) (s:St) (w:World) (av:AV) (s':St):Prop:=
 ∃ n c b a,m.run P w=.ok n b/\vw n=some c/\Stp G s w a s' b/\Sim a s' b/\Rep a av c
theorem up {v:Value} (h:ofValue v=.sl [] true):v=.slice none 0 0:=by
 unfold ofValue at h;split at h
 ·cases h
 ·unfold kh at h;split at h
  ·rfl
  ·split at h <;> cases h
  ·split at h <;> cases h
theorem wB {G:Gh} {sl:Slots} {a:Act} (h:RepSl G sl a) {x:Operand} {y:X} (b:cX x=some y) (md:Md):Rep G (mvI md y sl) (a.eval x):=by
 unfold mvI;split
 ·cases x with
  | const f=>
   simp only [cX] at b;injection b with b;injection b with b;have:=up b;subst this;exact .sc _ rfl
  | tmp e=>simp only [cX] at b; injection b with b; cases b
  | global d=>simp [cX] at b
  | func c=>simp only [cX] at b; injection b with b; cases b
 ·exact bh h b
theorem OpRes.ofOut {P:Program} {x:Sem Value} {G:Gh} {s s':St} {w:World} {av:AV} (h:Out P x G s w av s'):OpRes P (do pure (.value (←x))) G s w av s':=by
 obtain ⟨a,g,b,c,d,e,f⟩:=h;exact ⟨.value a,a,g,b,by simp [c],rfl,d,e,f⟩
theorem OpRes.ofEx {P:Program} {x:Sem Value} {G:Gh} {s:St} {w:World} {av:AV} (c:Sim G s w) (h:∃ r,x.run P w=.ok r w/\Rep G av r):OpRes P (do pure (.value (←x))) G s w av s:=by
 obtain ⟨r,a,b⟩:=h;exact .ofOut (.quiet c a b)
theorem OpRes.ofPure {P:Program} {v:Value} {G:Gh} {s:St} {w:World} {av:AV} (a:Sim G s w) (h:Rep G av v):OpRes P (pure (.value v)) G s w av s:=
 ⟨.value v,v,w,G,rfl,rfl,Stp.refl G s w,a,h⟩
theorem ay {b c:Type} {f:b->c} {x:Option b} {y:c} (h:x.map f=some y):∃ a,x=some a/\f a=y:=by
 cases x with
 | none=>simp at h
 | some a=>exact ⟨a,rfl,by simpa using h⟩
theorem uF {xs:Array Operand} {x:X} (h:cXs xs=some [x]):∃ o,xs=#[o]/\cX o=some x:=by
 obtain ⟨a,b⟩:=fW h
 match xs,a,b with
 | ⟨[o]⟩,_,b=>exact ⟨o,rfl,b 0 o x rfl rfl⟩
 | ⟨[]⟩,a,_=>simp at a
 | ⟨_::_::_⟩,a,_=>simp at a
theorem qy {xs:Array Operand} {x y:X} (h:cXs xs=some [x,y]):∃ o p,xs=#[o,p]/\cX o=some x/\cX p=some y:=by
 obtain ⟨a,b⟩:=fW h
 match xs,a,b with
 | ⟨[o,p]⟩,_,b=>exact ⟨o,p,rfl,b 0 o x rfl rfl,b 1 p y rfl rfl⟩
 | ⟨[]⟩,a,_=>simp at a
 | ⟨[_]⟩,a,_=>simp at a
 | ⟨_::_::_::_⟩,a,_=>simp at a
set_option maxHeartbeats 1000000 in
theorem zE {P:Program} {o:Oper} {i:I} (b:aS P o=some i) {sl:Slots} {s s':St} {md:Md} {av:AV} (h:aO i md sl s=some (av,s'))
  {G:Gh} {w:World} {a:Act} (l:Sim G s w) (g:RepSl G sl a):OpRes P (execOp a.eval o) G s w av s':=by
 have K:∀ {m:Option AV} {a2:St},m.map (·,s)=some (av,a2)->m=some av/\a2=s:=by
  intro m a2 f;obtain ⟨ap,c,d⟩:=ay f;injection d with d y;exact ⟨by rw [c,d],y.symm⟩
 unfold execOp;cases p:o.op with
 | move m=>
  simp only [aS,p] at b;obtain ⟨C,D,rfl⟩:=ay b;simp only [aO] at h; injection h with h; injection h with c d; subst c; subst d;exact .ofPure l (wB g D md)
 | assign m=>
  simp only [aS,p] at b;obtain ⟨C,D,rfl⟩:=ay b;simp only [aO] at h; injection h with h; injection h with c d; subst c; subst d;exact .ofPure l (wB g D md)
 | pick x m C=>
  simp only [aS,p] at b;split at b
  ·rename_i di N c9 c d y;injection b with b; subst b;simp only [aO] at h;split at h
   ·rename_i t W;injection h with h; injection h with J S; subst J; subst S;have cx:=bh g c;rw [W] at cx;obtain ⟨bx,_⟩:=bH cx;refine ⟨.value (if t=true then a.eval m else a.eval C),_,w,G,?_,rfl,Stp.refl G s w,l,?_⟩
    ·simp [bx,asBool]
    ·cases t
     ·exact bh g y
     ·exact bh g d
   ·cases h
  ·cases b
 | alloc e=>
  simp only [aS,p] at b;obtain ⟨c',b3,rfl⟩:=ay b;simp only [aO] at h;exact .ofOut (yA (i:=c'.2) b3 h l)
 | box e m=>
  simp only [aS,p] at b;split at b
  ·rename_i n N c d;injection b with b; subst b;simp only [aO] at h;exact .ofOut (AL h (bh g d) l)
  ·cases b
 | build t b0=>
  simp only [aS,p] at b;split at b
  ·rename_i cq aa pl c d;split at b
   ·rename_i dl;obtain ⟨ao,cb,rfl⟩:=ay b;obtain ⟨bk,cc⟩:=fW cb;simp only [aO] at h;obtain ⟨f,rfl⟩:=K h;obtain ⟨b6,dp,rfl⟩:=ay f;refine .ofOut (Bt c dl d dp (by simp [<-bk]) ?_ l)
    intro z a1 a5 M bo;rw [rb] at M;cases ag:ao[z]? with
    | none=>simp [ag] at M
    | some eg=>
     simp [ag] at M; subst M;have O:z<b0.toList.length:=by rw [bk]; exact (q4.1 ag).1
     have:=cc z _ _ (q3 O) ag;have ca:z<b0.size:=by simpa using O
     simp [ca] at bo;subst bo;simp only [Array.getElem_toList] at this;split at this
     ·rename_i e5 e4 N y J;injection this with this; subst this;exact ⟨y,bh g J⟩
     ·cases this
   ·cases b
  ·cases b
 | buildSlice t n b0=>
  simp only [aS,p] at b;split at b
  ·rename_i e aa c;split at b
   ·rename_i cq b1 d;split at b
    ·rename_i bm;obtain ⟨ao,cb,rfl⟩:=ay b;obtain ⟨bk,cc⟩:=fW cb;have a0:b1=aa:=by
      have u:=(dT c).2;have q:=(eQ d).1;rw [u] at q; exact (ty q).symm
     subst a0;simp only [aO] at h;refine .ofOut (BD c d bm h (by simp [<-bk]) ?_ l)
     intro z a1 a5 M bo;rw [rb] at M;cases ag:ao[z]? with
     | none=>simp [ag] at M
     | some eg=>
      simp [ag] at M; subst M;have O:z<b0.toList.length:=by rw [bk]; exact (q4.1 ag).1
      have:=cc z _ _ (q3 O) ag;have ca:z<b0.size:=by simpa using O
      simp [ca] at bo;subst bo;simp only [Array.getElem_toList] at this;obtain ⟨N,y,J⟩:=ay this;subst J;exact ⟨rfl,bh g y⟩
    ·cases b
   ·cases b
  ·cases b
 | load t m=>
  simp only [aS,p] at b;split at b
  ·rename_i de N c d;injection b with b; subst b;simp only [aO] at h;obtain ⟨f,rfl⟩:=K h;exact .ofOut (BV c f (bh g d) l)
  ·cases b
 | store t m C=>
  simp only [aS,p] at b;split at b
  ·rename_i n N c9 c d y;injection b with b; subst b;simp only [aO] at h;obtain ⟨a2,al,am⟩:=ay h;injection am with J S; subst J; subst S;obtain ⟨b2,da,bc,bf,bi⟩:=Cm c al (bh g d) (bh g y) l;exact ⟨.skip,Go.undef,b2,da,by simp [bc],rfl,bf,bi,.undef _⟩
  ·cases b
 | nilCheck m=>
  simp only [aS,p] at b;obtain ⟨C,D,rfl⟩:=ay b;have H:=bh g D;simp only [aO] at h;have ch:∀ ap,C.ev sl=ap->((∃ cs e o,ap=.ptr cs e o)\/(∃ b6 o,ap=.zp b6 o)\/(∃ ar ao b5,ap=.fn (.func ar) ao b5))->av=ap->s'=s->OpRes P (execOp a.eval o) G s w av s':=by
   intro ap a4 O c d;subst c; subst d;rw [a4] at H;exact ⟨.value (a.eval m),_,w,G,B4 H O p rfl,rfl,Stp.refl G _ w,l,H⟩
  have cl:OpRes P (execOp a.eval o) G s w av s':=by
   split at h
   ·rename_i cs e em a4;injection h with h; injection h with c d;exact ch _ a4 (.inl ⟨_,_,_,rfl⟩) c.symm d.symm
   ·rename_i b6 em a4;injection h with h; injection h with c d;exact ch _ a4 (.inr (.inl ⟨_,_,rfl⟩)) c.symm d.symm
   ·rename_i ar ao b5 a4;injection h with h; injection h with c d;exact ch _ a4 (.inr (.inr ⟨_,_,_,rfl⟩)) c.symm d.symm
   ·cases h
  unfold execOp at cl;simp only [p] at cl;exact cl
 | binOp bW t m C fd=>
  simp only [aS,p] at b;split at b
  ·rename_i z N c9 c d y;injection b with b; subst b;simp only [aO] at h;obtain ⟨f,rfl⟩:=K h;have U:=bh g d;have ax:=bh g y;have fin:∀ r,(eqGuard bW t m C (a.eval m) (a.eval C)).run P w=.ok () w->(binOp bW t (a.eval m) (a.eval C)).run P w=.ok r w->Rep G av r ->
     OpRes P (do pure (.value (←(do eqGuard bW t m C (a.eval m) (a.eval C); binOp bW t (a.eval m) (a.eval C))))) G s' w av s':=by
    intro r u q a3;exact .ofOut (.quiet l (by simp [u,q]) a3)
   unfold cBk at c;split at c
   ·injection c with c; subst c;simp only [gq] at f;split at f
    ·rename_i c7 c8 u q;obtain ⟨r,T,bt⟩:=ay f;subst bt;rw [u] at U; rw [q] at ax;obtain ⟨Y,_⟩:=bH U;obtain ⟨Z,_⟩:=bH ax;obtain ⟨a3,a'⟩:=sR (P:=P) (w:=w) (t:=t) T;refine fin r (fU ?_ ?_) (by rw [Y,Z]; exact a3) (.sc _ a')
     ·rw [Y,Z]; rintro ⟨rfl,rfl⟩; simp [fT] at T
     ·rw [Y,Z]; rintro xs ys ⟨rfl,rfl⟩; simp [fT] at T
    ·cases f
   ·injection c with c; subst c;simp only [gq] at f;split at f
    ·rename_i c7 c8 u q;obtain ⟨r,T,bt⟩:=ay f;subst bt;rw [u] at U; rw [q] at ax;obtain ⟨Y,_⟩:=bH U;obtain ⟨Z,_⟩:=bH ax;obtain ⟨a3,a'⟩:=sR (P:=P) (w:=w) (t:=t) T;refine fin r (fU ?_ ?_) (by rw [Y,Z]; exact a3) (.sc _ a')
     ·rw [Y,Z]; rintro ⟨rfl,rfl⟩; simp [fT] at T
     ·rw [Y,Z]; rintro xs ys ⟨rfl,rfl⟩; simp [fT] at T
    ·cases f
   ·rename_i R;injection c with c; subst c;simp only [gq] at f;split at f
    ·rename_i c7 c8 u q;obtain ⟨r,T,bt⟩:=ay f;subst bt;rw [u] at U; rw [q] at ax;obtain ⟨Y,_⟩:=bH U;obtain ⟨Z,_⟩:=bH ax;obtain ⟨a3,a'⟩:=yE (P:=P) (w:=w) R T;refine fin r (fU ?_ ?_) (by rw [Y,Z]; exact a3) (.sc _ a')
     ·rw [Y,Z]; rintro ⟨rfl,rfl⟩; simp [kz] at T
     ·rw [Y,Z]; rintro xs ys ⟨rfl,rfl⟩; simp [kz] at T
    ·cases f
   ·rename_i e R;injection c with c; subst c;obtain ⟨r,u,q⟩:=yF (P:=P) (w:=w) R f U ax;have d2:∃ a1,a.eval m=.pointer a1:=by
     simp only [gq] at f;split at f
     ·rename_i b7 dk; obtain ⟨a1,M,_⟩:=gY b7 U; exact ⟨a1,M⟩
     ·rename_i b7 dk; obtain ⟨a1,M,_⟩:=gY b7 U; exact ⟨a1,M⟩
     ·cases f
    obtain ⟨a1,M⟩:=d2;exact fin r (fU (by rw [M]; simp) (by rw [M]; simp)) u q
   ·rename_i ez R;split at c
    ·rename_i eW dW;split at c
     ·rename_i dv;injection c with c; subst c;exact .ofOut (vG dW dv f U ax l)
     ·cases c
    ·cases c
   ·split at c
    ·injection c with c; subst c;simp [gq] at f
    ·cases c
   ·rename_i mk e3 R;split at c
    ·rename_i bm;injection c with c; subst c;have D:a.eval C=.map none:=by
      unfold zC at bm;split at bm
      ·rfl
      ·cases bm
     have:=yY (P:=P) (w:=w) (ox:=m) (oy:=C) R f U l;rw [<-D] at this;exact .ofOut this
    ·cases c
   ·cases c
  ·cases b
 | unOp bW t m=>
  simp only [aS,p] at b;obtain ⟨C,D,rfl⟩:=ay b;simp only [aO] at h;obtain ⟨f,rfl⟩:=K h;exact .ofEx l (Cp f (bh g D))
 | convert e6 ey m=>
  simp only [aS,p] at b;split at b
  ·rename_i z N c d;injection b with b; subst b;simp only [aO] at h;obtain ⟨f,rfl⟩:=K h;have H:=bh g d;unfold cCv at c;split at c
   ·rename_i ea eM a6 a7;injection c with c; subst c;simp only [cvI] at f;split at f <;> first | (simp_all; done) | skip
    rename_i eP ef n u q;injection u with u; subst u;injection f with f; subst f;rw [q] at H;obtain ⟨a5,_⟩:=bH H;exact .ofEx l ⟨_,by rw [a5]; simp [convert,run_underlying a6,run_underlying a7,Conv.intToInt],.sc _ rfl⟩
   ·rename_i ea a6 a7;injection c with c; subst c;simp only [cvI] at f;split at f <;> first | (simp_all; done) | skip
    rename_i ef n u q;injection f with f; subst f;rw [q] at H;obtain ⟨a5,_⟩:=bH H;exact .ofEx l ⟨_,by rw [a5]; simp [convert,run_underlying a6,run_underlying a7,Conv.intToString],.sc _ rfl⟩
   ·rename_i a6 a7;injection c with c; subst c;simp only [cvI] at f;split at f <;> first | (simp_all; done) | skip
    rename_i ap u q;injection f with f; subst f;rw [q] at H;obtain ⟨a5,_⟩:=bH H;exact .ofEx l ⟨_,by rw [a5]; simp [convert,run_underlying a6,run_underlying a7],.sc _ rfl⟩
   ·rename_i e a6 a7;split at c
    ·rename_i et;injection c with c; subst c;exact .ofOut (AK a6 et a7 f H l)
    ·cases c
   ·cases c
  ·cases b
 | makeFunc ar xs ys=>
  cases ar with
  | func ar=>
   simp only [aS,p] at b;split at b
   ·rename_i e' fb c d;injection b with b; subst b;simp only [aO] at h;injection h with h; injection h with u q; subst u; subst q;have c5:=mX g c;have c6:=mX g d;refine .ofOut (.quiet l (v:=.func (.func ar) (xs.map a.eval) (ys.map a.eval)) (by simp [Instr.makeFunc]) (.fn _ _ _ _ _ ?_ ?_ ?_ ?_))
    ·have:=c5.1; simpa using this
    ·have:=c6.1; simpa using this
    ·exact fun j x v b bx=>c5.2 j x v b (by simpa using bx)
    ·exact fun j x v b bx=>c6.2 j x v b (by simpa using bx)
   ·cases b
  | _=>simp [aS,p] at b
 | makeSlice t ao x=>
  simp only [aS,p] at b;split at b
  ·rename_i e aa c;split at b
   ·rename_i cq b1 e0 di d y J;injection b with b; subst b;have a0:b1=aa:=by
     have u:=(dT c).2;have q:=(eQ d).1;rw [u] at q; exact (ty q).symm
    subst a0;simp only [aO] at h;exact .ofOut (B1 c d h (bh g y) (bh g J) l)
   ·cases b
  ·cases b
 | slice t m e1 a9 mx=>
  simp only [aS,p] at b;split at b
  ·rename_i N e2 dN cp c d y J;split at b
   ·rename_i R;split at b
    ·rename_i c0;injection b with b; subst b;simp only [aO] at h;obtain ⟨f,rfl⟩:=K h;have bl:=jX g J;have:mx=none:=by
      cases mx with
      | none=>rfl
      | some _=>cases cp with
       | none=>have:=bl.1; simp at this
       | some _=>simp at c0
     subst this;exact .ofOut (Ck R f (bh g c) (jX g d) (jX g y) l)
    ·cases b
   ·rename_i e R;split at b
    ·rename_i aa a0;split at b
     ·rename_i d1;injection b with b; subst b;have bl:=jX g J;have b':=jX g y;have c2:(mx.map a.eval).isSome=true->(a9.map a.eval).isSome=true:=by
       intro c0;have u:=bl.1;have q:=b'.1;have d0:cp.isSome=true:=by
        cases mx <;> cases cp <;> simp_all
       have:=d1 d0;cases a9 <;> cases dN <;> simp_all
      simp only [aO] at h;split at h
      ·obtain ⟨f,rfl⟩:=K h;exact .ofOut (A8 (e:=e) (i:=aa) (by simp [eI,R,a0]) f (bh g c) (jX g d) b' bl c2 l)
      ·obtain ⟨f,rfl⟩:=K h;exact .ofOut (Cj (e:=e) (i:=aa) (by simp [eI,R,a0]) f (bh g c) (jX g d) b' bl c2 l)
     ·cases b
    ·cases b
   ·cases b
  ·cases b
 | fieldAddr t m ar=>
  simp only [aS,p] at b;split at b
  ·rename_i off N c d;injection b with b; subst b;simp only [aO] at h;obtain ⟨f,rfl⟩:=K h;exact .ofOut (BM c f (bh g d) l)
  ·cases b
 | field t m ar=>
  simp only [aS,p] at b;split at b
  ·rename_i de off N c d;injection b with b; subst b;simp only [aO] at h;obtain ⟨f,rfl⟩:=K h;exact .ofOut (BN c f (bh g d) l)
  ·cases b
 | indexAddr t m i=>
  simp only [aS,p] at b;split at b
  ·rename_i e aa N d4 c d y;injection b with b; subst b;simp only [aO] at h;obtain ⟨f,rfl⟩:=K h;exact .ofOut (BR c f (bh g d) (bh g y) l)
  ·cases b
 | index t m i=>
  simp only [aS,p] at b;split at b
  ·rename_i N d4 c d y;injection b with b; subst b;simp only [aO] at h;obtain ⟨f,rfl⟩:=K h;exact .ofOut (BS c f (bh g d) (bh g y) l)
  ·cases b
 | extract m i=>
  simp only [aS,p] at b;obtain ⟨C,D,rfl⟩:=ay b;simp only [aO] at h;obtain ⟨f,rfl⟩:=K h;exact .ofOut (BL f (bh g D) l)
 | panic m=>
  simp only [aS,p] at b;injection b with b; subst b;simp [aO,exI,X.ev] at h
 | makeMap t r=>
  cases r with
  | none=>
   simp only [aS,p] at b;injection b with b; subst b;simp only [aO] at h;injection h with h; injection h with u q; subst u; subst q;exact .ofOut (vf t l)
  | some r=>simp [aS,p] at b
 | lookup t m z ok=>
  simp only [aS,p] at b;split at b
  ·rename_i b4 bb N c4 c d y;split at b
   ·rename_i cn c' J S;injection b with b; subst b;simp only [aO] at h;obtain ⟨f,rfl⟩:=K h;unfold tZv at S;cases a9:P.info? bb with
    | none=>simp [a9] at S
    | some aa=>
     simp [a9] at S;exact .ofOut (BW c J a9 S f (bh g d) (bh g y) l)
   ·cases b
  ·cases b
 | mapUpdate t b5 z v=>
  simp only [aS,p] at b;split at b
  ·rename_i b4 bb el c4 ex c d y J;obtain ⟨cn,bj,rfl⟩:=ay b;simp only [aO] at h;obtain ⟨a2,al,am⟩:=ay h;injection am with S bc; subst S; subst bc;obtain ⟨b2,bf,bi,b9⟩:=zB c bj al (bh g d) (bh g y) (bh g J) l;exact ⟨.skip,Go.undef,b2,G,by simp [bf],rfl,bi,b9,.undef _⟩
  ·cases b
 | insert t b5 z v=>
  simp only [aS,p] at b;split at b
  ·rename_i b4 bb el c4 ex c d y J;obtain ⟨cn,bj,rfl⟩:=ay b;simp only [aO] at h;obtain ⟨a2,al,am⟩:=ay h;injection am with S bc; subst S; subst bc;obtain ⟨b2,bf,bi,b9⟩:=zB c bj al (bh g d) (bh g y) (bh g J) l;exact ⟨.skip,Go.undef,b2,G,by simp [bf],rfl,bi,b9,.undef _⟩
  ·cases b
 | range t m=>
  simp only [aS,p] at b;split at b
  ·rename_i b4 bb N c d;injection b with b; subst b;simp only [aO] at h;exact .ofOut (Cf c h (bh g d) l)
  ·cases b
 | next d' en=>
  cases en with
  | false=>
   simp only [aS,p] at b;obtain ⟨C,D,rfl⟩:=ay b;simp [aO] at h
  | true=>simp [aS,p] at b
 | entry d'=>
  simp only [aS,p] at b;obtain ⟨C,D,rfl⟩:=ay b;simp only [aO] at h;obtain ⟨f,rfl⟩:=K h;exact .ofOut (Cc f (bh g D) l)
 | makeInterface t m=>
  simp only [aS,p] at b;split at b
  ·cases b
  ·rename_i k N b8 c d;injection b with b; subst b;simp only [aO] at h;split at h
   ·injection h with h; injection h with u q; subst u; subst q;refine .ofOut (.quiet l (v:=.iface t (a.eval m)) ?_ (.ifc _ _ _ (bh g d)));cases k <;> first | (exact absurd rfl (b8 _)) | simp [Instr.makeInterface,run_underlying c]
   ·cases h
  ·cases b
 | typeAssert m fa t ok=>
  cases ok with
  | true=>simp [aS,p] at b
  | false=>
   simp only [aS,p] at b;split at b
   ·cases b
   ·rename_i k N b8 c d;injection b with b; subst b;simp only [aO] at h;split at h
    ·rename_i eo v f;split at h
     ·rename_i ds; subst ds;injection h with h; injection h with u q; subst u; subst q;have H:=bh g d;rw [f] at H;cases D:a.eval m with
      | iface e9 es=>
       rw [D] at H;cases H with
       | ifc _ _ _ H=>
        refine .ofOut (.quiet l (v:=es) ?_ H);cases k <;> first | (exact absurd rfl (b8 _)) | simp [Instr.typeAssert,run_underlying c,D]
      | _=>rw [D] at H; cases H
     ·cases h
    ·cases h
   ·cases b
 | call x=>
  simp only [aS,p] at b;split at b
  ·
   injection b with b; subst b; simp [aO] at h
  ·obtain ⟨C,D,rfl⟩:=ay b; simp [aO] at h
  ·obtain ⟨C,D,rfl⟩:=ay b; simp [aO] at h
  ·rename_i m c d;obtain ⟨ox,ai,ab⟩:=uF d;split at b
   ·rename_i t W;obtain ⟨z,O,rfl⟩:=ay b;simp only [aO] at h;obtain ⟨f,rfl⟩:=K h;have Q:(do let k <-resolve a.eval x o.type; invoke k.target k.args:Sem Next)=(do pure (.value (←Builtin.len_ x.argTypes o.type #[a.eval ox]))):=by
     simp [resolve,c,invoke,builtin,ai]
    show OpRes P (do let k <-resolve a.eval x o.type; invoke k.target k.args) G s' w av s'
    rw [Q];exact .ofOut (AU W O f (bh g ab) l)
   ·cases b
  ·rename_i k m c d;obtain ⟨bN,ox,ai,a8,ab⟩:=qy d;split at b
   ·rename_i t eo W;split at b
    ·rename_i d3;subst d3;obtain ⟨z,O,rfl⟩:=ay b;simp only [aO] at h;have dn:x.argTypes=#[t,t]:=by rw [<-Array.toArray_toList (xs:=x.argTypes),W]
     have Q:(do let k <-resolve a.eval x o.type; invoke k.target k.args:Sem Next)=(do pure (.value (←Builtin.append_ #[t,t] o.type #[a.eval bN,a.eval ox]))):=by
      simp [resolve,c,invoke,builtin,ai,dn]
     show OpRes P (do let k <-resolve a.eval x o.type; invoke k.target k.args) G s w av s'
     rw [Q];by_cases c1:md=.fork
     ·subst c1;exact .ofOut (vD (e:=z.1) (i:=z.2) O h (bh g a8) (bh g ab) l o.type)
     ·exact .ofOut (zz (e:=z.1) (i:=z.2) O c1 h (bh g a8) (bh g ab) l o.type)
    ·cases b
   ·cases b
  ·rename_i k m c d;obtain ⟨bN,ox,ai,a8,ab⟩:=qy d;split at b
   ·rename_i t W;obtain ⟨z,O,rfl⟩:=ay b;simp only [aO] at h;have Q:(do let k <-resolve a.eval x o.type; invoke k.target k.args:Sem Next)=(do pure (.value (←Builtin.copy_ x.argTypes o.type #[a.eval bN,a.eval ox]))):=by
     simp [resolve,c,invoke,builtin,ai]
    show OpRes P (do let k <-resolve a.eval x o.type; invoke k.target k.args) G s w av s'
    rw [Q];exact .ofOut (BG (e:=z.1) (i:=z.2) W O h (bh g a8) (bh g ab) l)
   ·cases b
  ·rename_i k m c d;obtain ⟨bN,ox,ai,a8,ab⟩:=qy d;split at b
   ·rename_i t W;split at b
    ·rename_i b4 bb R;obtain ⟨cn,bj,rfl⟩:=ay b;simp only [aO] at h;obtain ⟨a2,al,am⟩:=ay h;injection am with u q; subst u; subst q;have Q:(do let k <-resolve a.eval x o.type; invoke k.target k.args:Sem Next)=(do pure (.value (←Builtin.delete_ x.argTypes o.type #[a.eval bN,a.eval ox]))):=by
      simp [resolve,c,invoke,builtin,ai]
     show OpRes P (do let k <-resolve a.eval x o.type; invoke k.target k.args) G s w _ _
     rw [Q];exact .ofOut (BH W R bj al (bh g a8) (bh g ab) l)
    ·cases b
   ·cases b
  ·rename_i m c d;obtain ⟨ox,ai,ab⟩:=uF d;split at b
   ·rename_i t W;split at b
    ·rename_i e aa c3;split at b
     ·rename_i cq b1 b3;injection b with b; subst b;have a0:b1=aa:=by
       have u:=(dT c3).2;have q:=(eQ b3).1;rw [u] at q; exact (ty q).symm
      subst a0;simp only [aO] at h;obtain ⟨a2,al,am⟩:=ay h;injection am with u q; subst u; subst q;have Q:(do let k <-resolve a.eval x o.type; invoke k.target k.args:Sem Next)=(do pure (.value (←Builtin.clear_ x.argTypes o.type #[a.eval ox]))):=by
       simp [resolve,c,invoke,builtin,ai]
      show OpRes P (do let k <-resolve a.eval x o.type; invoke k.target k.args) G s w _ _
      rw [Q];exact .ofOut (BE W c3 b3 al (bh g ab) l)
     ·cases b
    ·cases b
   ·cases b
  ·rename_i ao c d;injection b with b; subst b;simp only [aO] at h;obtain ⟨f,rfl⟩:=K h;have Q:(do let k <-resolve a.eval x o.type; invoke k.target k.args:Sem Next)=(do pure (.value (←Builtin.max_ x.argTypes o.type (x.args.map a.eval)))):=by
    simp [resolve,c,invoke,builtin]
   show OpRes P (do let k <-resolve a.eval x o.type; invoke k.target k.args) G s' w av s'
   rw [Q];exact .ofEx l (B3 (mX g d) f)
  ·rename_i ao c d;injection b with b; subst b;simp only [aO] at h;obtain ⟨f,rfl⟩:=K h;have Q:(do let k <-resolve a.eval x o.type; invoke k.target k.args:Sem Next)=(do pure (.value (←Builtin.min_ x.argTypes o.type (x.args.map a.eval)))):=by
    simp [resolve,c,invoke,builtin]
   show OpRes P (do let k <-resolve a.eval x o.type; invoke k.target k.args) G s' w av s'
   rw [Q];exact .ofEx l (BZ (mX g d) f)
  ·cases b
 | _=>simp [aS,p] at b
end Go.AM
