/- Part of the claim: see its last text. -/
import Derived.Test.YtjhogglgkjcacaaGreatMa14
set_option linter.all false
namespace Go.AM
structure PE where
 i:Nat
 anc:List Nat
 re:List Nat
def reads (cs:List AO) (l:List Nat):List (Nat×Option (Nat×Bool)×I):=
 l.filterMap fun j=>(cs[j]?).bind fun a=>a.dst.map fun b=>(b,a.grd,a.i)
def jy (cs:List AO) (i:Nat):AO:=(cs[i]?).getD ⟨none,none,.plain,.mm,[]⟩
def aD (cs:List AO) (e:PE):AO:={ jy cs e.i with re:=reads cs e.re }
def dZ (b:Array Oper) (i:Nat):List Nat:=match b[i]? with
 | some a=>(a.after.toList.filter (Region.binds .any)).map (·.on)
 | none=>[]
def cH (cs:List AO) (e f:PE):Bool:=
 (aD cs e).quiet&&my (aD cs e)&&apart (aD cs e) (aD cs f)&&((aD cs f).quiet||dD (aD cs e).i||(f.re.contains e.i&&(aD cs e).dst.isSome))
def jo (a:Array Oper) (cs:List AO) (e f:PE):Bool:=
 e.i != f.i&&!(dZ a e.i).contains f.i&&(f.anc.contains e.i||cH cs e f)&&(!(aD cs e).quiet||d7 (aD cs e) (aD cs f))
def jS {a:Type} (r:a->a->Bool):List a->Bool
 | []=>true
 | c::b=>b.all (r c)&&jS r b
theorem kP {b:Type} {r:b->b->Bool}:∀ {l:List b},jS r l=true->l.Pairwise fun x y=>r x y=true
 | [],_=>.nil
 | c::l,a=>by
  simp only [jS,q9,rx] at a;exact .cons a.1 (kP a.2)
def ie (a:Array Oper) (pl:List PE) (e:PE):Bool:=
 decide (e.i<a.size)&&!(dZ a e.i).contains e.i&&(dZ a e.i).all (fun j=>decide (j<a.size))&&e.anc.all fun j=>(dZ a e.i).contains j||pl.any fun b=>(dZ a e.i).contains b.i&&b.anc.contains j
def tF (a:Array Oper) (cs:List AO) (pl:List PE):Bool:=
 jS (jo a cs) pl&&pl.all (ie a pl)&&decide (pl.length<=a.size)&&(List.range a.size).all fun i=>pl.any fun b=>b.i==i
structure DInv (ops:Array Oper) (cs:List AO) (pl L:List PE) (listed:Array Bool):Prop where
 size:listed.size=ops.size
 open_:∀ e∈L,listed.getD e.i true=false
 done:∀ i,i<ops.size->(∀ e∈L,e.i≠i)->listed.getD i false=true
 pair:L.Pairwise fun x y=>jo ops cs x y=true
 sub:∀ e∈L,e∈pl
 shut:∀ e∈pl,listed.getD e.i false=true->∀ j∈e.anc,listed.getD j false=true
theorem jk {md:Region.Mode} {b:Array Oper} {a:Array Bool} {i:Nat}:i∈Region.ready md b a↔i<b.size/\a.getD i true=false/\((b[i]?).map (·.after.all fun e=>!Region.binds md e||a.getD e.on false)).getD false=true:=by
 simp [Region.ready]
theorem je {b:Array Oper} {c:Array Bool} {i:Nat} (h:i<b.size):((b[i]?).map (·.after.all fun e=>!Region.binds .any e||c.getD e.on false)).getD false=true↔∀ j∈dZ b i,c.getD j false=true:=by
 unfold dZ;rw [rm h];simp only [EH,ym,<-Array.all_toList,rx,rf,A0];constructor
 ·rintro a j ⟨e,⟨d,f⟩,rfl⟩;have:=a e d;simpa [f] using this
 ·intro a e k;cases g:Region.binds .any e
  ·simp
  ·simp [a e.on ⟨e,⟨k,g⟩,rfl⟩]
theorem ly {a:Array Bool} {i:Nat} (c:i<a.size) (b e:Bool):a.getD i b=a.getD i e:=by
 rw [r5,r5,rm c]; rfl
theorem iR {b:Array Bool} {i j:Nat} {c:Bool} (d:i<b.size):(b.setIfInBounds i true).getD j c=if j=i then true else b.getD j c:=by
 rw [r5,r5,u4];by_cases a:j=i
 ·subst a; simp [d]
 ·simp [a,s4 a]
theorem nH {cs:List AO} {l:List Nat} {j b:Nat} (d:j∈l) (a:(jy cs j).dst=some b):(b,(jy cs j).grd,(jy cs j).i)∈reads cs l:=by
 unfold reads jy at *;rw [Es];refine ⟨j,d,?_⟩;cases c:cs[j]? with
 | none=>simp [c] at a
 | some e=>simp [c] at a ⊢; exact a
theorem ub {P:Program} {n:Nat} {md:Tmp->Md} {e:Array Oper} {Q:Exit->Act->World->Prop} (c2:∀ (j:Nat) o t,e[j]?=some o->o.dst=some t->t<n) {cs:List AO} (b':e.toList.mapM (cD P n md e)=some cs)
  {pl:List PE} (c3:pl.all (ie e pl)=true) {K:Slots->St->Prop} :
  ∀ (N:Nat) (L:List PE) (l:Array Bool),DInv e cs pl L l->L.length<=N->∀ {sl:Slots} {s:St} {G:Gh} {w:World} {a:Act},aQ P (L.map (aD cs)) K sl s->Sim G s w->RepSl G sl a->n<=a.tmps.size ->
   (∀ R s' y q w',K R s'->Stp G s w y s' w'->Sim y s' w'->RepSl y R q->q.tmps.size=a.tmps.size->q.defers=a.defers->Q .normal q w')->wpAny P .any e Q N l a w:=by
 have Z:∀ b∈pl,b.i<e.size/\b.i∉dZ e b.i/\(∀ j∈dZ e b.i,j<e.size)/\∀ j∈b.anc,j∈dZ e b.i\/∃ u∈pl,u.i∈dZ e b.i/\j∈u.anc:=by
  intro b g;have:=rx.1 c3 b g;simpa [ie,and_assoc] using this
 have nil:∀ {L l},DInv e cs pl L l->∀ {sl:Slots} {s:St},aQ P (L.map (aD cs)) K sl s->Region.ready .any e l=[]->K sl s:=by
  intro L l d sl s C ap;cases L with
  | nil=>exact C
  | cons b L=>
   exfalso;obtain ⟨v,z,b6,dW⟩:=Z b (d.sub b (by simp))
   have:b.i∈Region.ready .any e l:=by
    rw [jk,je v];refine ⟨v,d.open_ b (by simp),fun j k=>?_⟩
    refine d.done j (b6 j k) ?_;intro u p bi;rcases se.1 p with rfl | p
    ·exact z (bi▸k)
    ·have:=(w5.1 d.pair).1 u p;simp [jo] at this;exact this.1.1.2 (bi▸k)
   rw [ap] at this; cases this
 intro N
 induction N with
 | zero=>
  intro L l d ab sl s G w a C T J O S;have b7:L=[]:=by cases L with | nil=>rfl | cons _ _=>simp at ab
  subst b7;refine ⟨?_,S sl s G a w C (Stp.refl G s w) T J rfl rfl⟩;rw [List.eq_nil_iff_forall_not_mem];intro i D;rw [jk] at D;have:=d.done i D.1 (by simp)
  rw [ly (by rw [d.size]; exact D.1) false true] at this
  rw [this] at D; cases D.2.1
 | succ N bW=>
  intro L l d ab sl s G w a C T J O S;refine ⟨fun ap=>S sl s G a w (nil d C ap) (Stp.refl G s w) T J rfl rfl,?_⟩;intro i D;obtain ⟨H,c1,U⟩:=jk.1 D;rw [je H] at U;have cl:∃ b∈L,b.i=i:=by
   refine sx fun Y=>?_;have:=d.done i H fun b g cb=>Y ⟨b,g,cb⟩;rw [ly (by rw [d.size]; exact H) false true,c1] at this; cases this
  obtain ⟨x,bo,rfl⟩:=cl;obtain ⟨A,B,rfl⟩:=Et bo;obtain ⟨d2,d3,d4,c8⟩:=Z x (d.sub x bo);have bm:=d.pair;rw [tj] at bm;obtain ⟨bk,bl,aa⟩:=bm;have b8:∀ f∈A,x.anc.contains f.i=false:=by
   intro f h;cases b9:x.anc.contains f.i with
   | false=>rfl
   | true=>
    exfalso;have c4:f.i∈x.anc:=by simpa using b9
    have:l.getD f.i false=true:=by
     rcases c8 f.i c4 with c | ⟨u,p,v,z⟩
     ·exact U _ c
     ·exact d.shut u p (U _ v) _ z
    have c5:=(Z f (d.sub f (by simp [h]))).1
    rw [ly (by rw [d.size]; exact c5) false true,d.open_ f (by simp [h])] at this
    cases this
  have am:∀ f∈A,cH cs f x=true:=by
   intro f h;have:=aa f h x (by simp)
   simp only [jo,q9,b8 f h,w0] at this;exact this.1.2
  have c0:∀ b∈A++B,b.i≠x.i:=by
   intro b g;rcases rd.1 g with c | c
   ·have:=aa b c x (by simp)
    simp only [jo,q9] at this;simpa using this.1.1.1
   ·have:=(w5.1 bl).1 b c;simp only [jo,q9] at this;have:=this.1.1.1;simp at this;exact s4 this
  have a9:DInv e cs pl (A++B) (l.setIfInBounds x.i true):=by
   have ar:x.i<l.size:=by rw [d.size]; exact H
   refine ⟨by simp [d.size],?_,?_,?_,fun b g=>d.sub b ?_,?_⟩
   ·intro b g;rw [iR ar,if_neg (c0 b g)];exact d.open_ b (by rcases rd.1 g with c | c <;> simp [c])
   ·intro j k Y;rw [iR ar];split
    ·rfl
    ·rename_i cp;refine d.done j k ?_;intro b g ag;rcases rd.1 g with c | c
     ·exact Y b (by simp [c]) ag
     ·rcases se.1 c with rfl | c
      ·exact cp ag.symm
      ·exact Y b (by simp [c]) ag
   ·rw [tj];exact ⟨bk,(w5.1 bl).2,fun f h a7 ax=>aa f h a7 (by simp [ax])⟩
   ·rcases rd.1 g with c | c <;> simp [c]
   ·intro b g al j k;rw [iR ar] at al ⊢;split
    ·rfl
    ·split at al
     ·rename_i bf;have c6:=Z b g;rcases c6.2.2.2 j k with c | ⟨u,p,v,z⟩
      ·exact U j (by rw [<-bf]; exact c)
      ·exact d.shut u p (U _ (by rw [<-bf]; exact v)) _ z
     ·exact d.shut b g al j k
  rw [sh,s9] at C;have m:=mo (A:=A.map (aD cs)) (B:=B.map (aD cs)) (x:=aD cs x) (by
    intro c9 ao;obtain ⟨f,h,rfl⟩:=rf.1 ao;have:=am f h;simp only [cH,q9] at this;exact ⟨this.1.1.1,this.1.1.2,this.1.2⟩) (by
    rw [x6];refine bk.imp_of_mem ?_;intro a7 em ax d1 bN;have h:=am a7 ax;simp only [cH,q9] at h;simp only [jo,q9,h.1.1.1,y8,w0] at bN;exact bN.2) (by
    by_cases bx:(aD cs x).quiet=true
    ·exact .inl bx
    ·refine .inr fun c9 ao=>?_;obtain ⟨f,h,rfl⟩:=rf.1 ao;have:=am f h;simp only [cH,q9,vv] at this;rcases this.2 with (c | c) | c
     ·exact absurd c bx
     ·exact .inl c
     ·right;obtain ⟨v,z⟩:=c;obtain ⟨b5,bb⟩:=x1.1 z;exact ⟨b5,bb,nH (by simpa using v) bb⟩) C
  rw [<-List.map_append] at m;obtain ⟨cq,cx⟩:=fW b';have bt:x.i<cs.length:=by rw [<-cq]; simpa using H
  have W:jy cs x.i=cs[x.i]:=by simp [jy,q3 bt]
  have ca:=cx x.i e[x.i] cs[x.i] (by rw [w6,rm H]) (q3 bt)
  obtain ⟨b2,b3,a8,ds,b4,dv,dN⟩:=jW ca;unfold wpOp;rw [rm H];simp only;have bc:(aD cs x).dst=e[x.i].dst:=by simp only [aD,W]; exact b3
  have cc:(aD cs x).grd=cs[x.i].grd:=by simp only [aD,W]
  have d0:(aD cs x).md=cs[x.i].md:=by simp only [aD,W]
  have cn:(aD cs x).i=cs[x.i].i:=by simp only [aD,W]
  have ch:∀ j b0 t,e[x.i].guard=some (j,b0)->(e[j]?).bind (·.dst)=some t->t<a.tmps.size:=by
   intro j b0 t _ M;cases k:e[j]? with
   | none=>simp [k] at M
   | some c7=>simp [k] at M; exact ro (c2 j c7 t k M) O
  have bj:(A++B).length<=N:=by simp at ab ⊢; omega
  rw [cc] at m;cases ai:gdI cs[x.i].grd sl with
  | none=>rw [ai] at m; exact m.elim
  | some b1=>
   rw [ai] at m;rw [nZ J ch b4 ai];cases b1 with
   | false=>
    simp only at m;rw [if_neg (by simp)]
    refine bW (A++B) _ a9 bj m T ?_ (by rw [cT]; exact O) ?_
    ·rw [bc];exact d8 J (fun t M=>ro (a8 t M) O) (mt _)
    ·intro R s' y q w' a0 a1 a2 a3 a4 a5;exact S R s' y q w' a0 a1 a2 a3 (by rw [a4,cT]) (by rw [a5,d5])
   | true=>
    simp only at m;rw [if_pos rfl];refine .inl (tE (by rw [cn]; exact b2) m T J ?_)
    intro ef av dn d' el c' da de a6;split at a6
    ·rename_i eg ea p;obtain ⟨dp,di,dk,dl⟩:=nY p de da;have a':=c'.trans di;refine bW (A++B) _ a9 bj a6 dk ?_ (by rw [cT]; exact O) ?_
     ·rw [bc];exact d8 (J.mono a'.le) (fun t M=>ro (a8 t M) O) dl
     ·intro R s' y q w' a0 a1 a2 a3 a4 a5;exact S R s' y q w' a0 (a'.trans a1) a2 a3 (by rw [a4,cT]) (by rw [a5,d5])
    ·exact a6.elim
theorem Af {P:Program} {n:Nat} {md:Tmp->Md} {e:Array Oper} {Q:Exit->Act->World->Prop} (H:P.follows .mixedOrders=true) (N:∀ (j:Nat) o t,e[j]?=some o->o.dst=some t->t<n) {cs:List AO} (z:e.toList.mapM (cD P n md e)=some cs)
  {pl:List PE} (p:tF e cs pl=true) {K:Slots->St->Prop} {id:Nat} {sl:Slots} {s:St} {G:Gh} {w:World} {a:Act} (y:aQ P (pl.map (aD cs)) K sl s) (h:Sim G s w) (O:RepSl G sl a) (J:n<=a.tmps.size)
  (x:∀ k s' f c w',K k s'->Stp G s w f s' w'->Sim f s' w'->RepSl f k c->c.tmps.size=a.tmps.size->c.defers=a.defers->Q .normal c w'):(Code.region id e true).wp P Q a w:=by
 simp only [tF,q9] at p;obtain ⟨⟨⟨q,m⟩,u⟩,v⟩:=p;refine wp_region_any H ?_;refine ub N z m e.size pl _ ?_ (by simpa using u) y ⟨h.mem,h.dom,h.blk,h.ov⟩ O J ?_
 ·refine ⟨by simp,?_,?_,kP q,fun g d=>d,?_⟩
  ·intro g d;have:=rx.1 m g d;simp [ie] at this;rw [r5,x2];simp [this.1.1.1]
  ·intro i D M;have:=rx.1 v i (by simpa using D)
   simp at this;obtain ⟨g,d,C⟩:=this;exact absurd C (M g d)
  ·intro g d l;rw [r5,x2] at l;split at l <;> simp at l
 ·intro k s' f c w' R b S T U W;exact x k s' f c w' R ⟨b.le,b.c,b.os,b.tape,b.output,b.size,b.keep,b.own⟩ S T U W
theorem eO {P:Program}:∀ (A B:List AO) {K:Slots->St->Prop} {sl:Slots} {s:St},aQ P (A++B) K sl s=aQ P A (aQ P B K) sl s
 | [],B,K,sl,s=>rfl
 | a::A,B,K,sl,s=>by
  simp only [t1,aQ];cases gdI a.grd sl with
  | none=>rfl
  | some b=>
   cases b with
   | false=>exact eO A B
   | true=>
    simp only;congr 1;funext d c;cases dt a.md d c with
    | none=>rfl
    | some e=>simp only [eO A B]
theorem ry {P:Program} {a:AO} {post:List AO} {K:Slots->St->Prop}:∀ (A:List (Bool×AO)) (r:List (Bool×AO)) {sl:Slots} {s:St},cE P a post K (A++r) sl s->aQ P (A.map (·.2)) (cE P a post K r) sl s
 | [],r,sl,s,h=>h
 | (b,e)::A,r,sl,s,h=>by
  simp only [t1,cE] at h;have h2:=h.2;show aQ P ([e]++A.map (·.2)) _ sl s;rw [eO];exact opsW_mono1 h2 fun sl' s' h'=>ry A r h'
where
 opsW_mono1 {P:Program} {e:AO} {K K':Slots->St->Prop} {sl:Slots} {s:St} (h:aQ P [e] K sl s) (hk:∀ sl s,K sl s->K' sl s):aQ P [e] K' sl s:=by
  simp only [aQ] at h ⊢;split at h
  ·exact hk _ _ h
  ·refine iU h fun v s' hv=>?_;split at hv
   ·exact ⟨hv.1,hk _ _ hv.2⟩
   ·exact hv
  ·exact h
theorem nR {P:Program} {n:Nat} {md:Tmp->Md} {b:Array Oper} {Q:Exit->Act->World->Prop} (al:∀ (j:Nat) o t,b[j]?=some o->o.dst=some t->t<n) {cs:List AO} (U:b.toList.mapM (cD P n md b)=some cs)
  {x:PE} (m:x.i<b.size) {C:Slots->St->Prop} {sl:Slots} {s:St} {G:Gh} {w:World} {a:Act} (y:Sim G s w) (f:RepSl G sl a) (p:n<=a.tmps.size)
  (c:match gdI (aD cs x).grd sl with
   | some false=>C (put sl (aD cs x).dst (.tup [])) s
   | some true=>opW P (aD cs x) sl s fun v s'=>match dt (aD cs x).md v s' with
    | some (v',ao)=>C (put sl (aD cs x).dst v') ao
    | none=>False
   | none=>False) {next:Act->World->Prop}
  (H:∀ K s' g e w',C K s'->Stp G s w g s' w'->Sim g s' w'->RepSl g K e->e.tmps.size=a.tmps.size->e.defers=a.defers->next e w'):wpOp P b Q x.i next a w:=by
 obtain ⟨ag,ai⟩:=fW U;have J:x.i<cs.length:=by rw [<-ag]; simpa using m
 have k:jy cs x.i=cs[x.i]:=by simp [jy,q3 J]
 have W:=ai x.i b[x.i] cs[x.i] (by rw [w6,rm m]) (q3 J)
 obtain ⟨R,S,u,a6,T,a7,a8⟩:=jW W;unfold wpOp;rw [rm m];simp only;have D:(aD cs x).dst=b[x.i].dst:=by simp only [aD,k]; exact S
 have Z:(aD cs x).grd=cs[x.i].grd:=by simp only [aD,k]
 have ab:(aD cs x).i=cs[x.i].i:=by simp only [aD,k]
 have aa:∀ j M t,b[x.i].guard=some (j,M)->(b[j]?).bind (·.dst)=some t->t<a.tmps.size:=by
  intro j M t _ d;cases l:b[j]? with
  | none=>simp [l] at d
  | some am=>simp [l] at d; exact ro (al j am t l d) p
 rw [Z] at c;cases h:gdI cs[x.i].grd sl with
 | none=>rw [h] at c; exact c.elim
 | some O=>
  rw [h] at c;rw [nZ f aa T h];cases O with
  | false=>
   simp only at c;rw [if_neg (by simp)]
   refine H _ s G _ w c (Stp.refl G s w) y ?_ (by rw [cT]) (by rw [d5])
   rw [D];exact d8 f (fun t d=>ro (u t d) p) (mt _)
  | true=>
   simp only at c;rw [if_pos rfl];refine .inl (tE (by rw [ab]; exact R) c y f ?_)
   intro v av a5 a9 a4 ar ax a0 q;split at q
   ·rename_i v' ap Y;obtain ⟨N,a1,a2,a3⟩:=nY Y a0 ax;have z:=ar.trans a1;refine H _ ap N _ a4 q z a2 ?_ (by rw [cT]) (by rw [d5])
    rw [D];exact d8 (f.mono z.le) (fun t d=>ro (u t d) p) a3
   ·exact q.elim
def dx (a:Array Oper) (cs:List AO) (ea:PE) (e f:PE):Bool:=
 e.i != f.i&&!(dZ a e.i).contains f.i&&(f.anc.contains e.i||cH cs e f||(f.i==ea.i&&!(aD cs e).quiet))&&(!(aD cs e).quiet||d7 (aD cs e) (aD cs f))
def tJ (a:Array Oper) (cs:List AO) (pre:List PE) (ea:PE) (post:List PE):Bool:=
 jS (dx a cs ea) (pre++ea::post)&&(pre++ea::post).all (ie a (pre++ea::post))&&decide ((pre++ea::post).length<=a.size)&&((List.range a.size).all fun i=>(pre++ea::post).any fun b=>b.i==i) &&
  post.all fun b=>b.anc.contains ea.i
structure LInv (ops:Array Oper) (pl L:List PE) (listed:Array Bool):Prop where
 size:listed.size=ops.size
 open_:∀ e∈L,listed.getD e.i true=false
 done:∀ i,i<ops.size->(∀ e∈L,e.i≠i)->listed.getD i false=true
 sub:∀ e∈L,e∈pl
 shut:∀ e∈pl,listed.getD e.i false=true->∀ j∈e.anc,listed.getD j false=true
theorem LInv.take {d:Array Oper} {pl A B:List PE} {x:PE} {h:Array Bool} (c:LInv d pl (A++x::B) h) (y:x.i<d.size) (z:∀ e∈A++B,e.i≠x.i)
  (q:∀ j∈dZ d x.i,h.getD j false=true) (C:∀ e∈pl,∀ j∈e.anc,j∈dZ d e.i\/∃ f∈pl,f.i∈dZ d e.i/\j∈f.anc):LInv d pl (A++B) (h.setIfInBounds x.i true):=by
 have m:x.i<h.size:=by rw [c.size]; exact y
 refine ⟨by simp [c.size],?_,?_,fun e b=>c.sub e ?_,?_⟩
 ·intro e b;rw [iR m,if_neg (z e b)];exact c.open_ e (by rcases rd.1 b with a | a <;> simp [a])
 ·intro j g p;rw [iR m];split
  ·rfl
  ·rename_i w;refine c.done j g ?_;intro e b k;rcases rd.1 b with a | a
   ·exact p e (by simp [a]) k
   ·rcases se.1 a with rfl | a
    ·exact w k.symm
    ·exact p e (by simp [a]) k
 ·rcases rd.1 b with a | a <;> simp [a]
 ·intro e b l j g;rw [iR m] at l ⊢;split
  ·rfl
  ·split at l
   ·rename_i o;rcases C e b j g with a | ⟨f,v,t,u⟩
    ·exact q j (by rw [<-o]; exact a)
    ·exact c.shut f v (q _ (by rw [<-o]; exact t)) _ u
   ·exact c.shut e b l j g
end Go.AM
