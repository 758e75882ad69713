/- Part of the claim: see its last text. -/
import Derived.Test.YtjhogglgkjcacaaGreatMa15
set_option linter.all false
namespace Go.AM
theorem tp {P:Program} {cs:List AO} {A:List PE} {x:PE} {B:List AO} {K:Slots->St->Prop} {sl:Slots} {s:St} (d:∀ c∈A,cH cs c x=true)
  (o:A.Pairwise fun y z=>(aD cs y).quiet=true->d7 (aD cs y) (aD cs z)=true) (m:aQ P (A.map (aD cs)++aD cs x::B) K sl s) :
  match gdI (aD cs x).grd sl with
  | some false=>aQ P (A.map (aD cs)++B) K (put sl (aD cs x).dst (.tup [])) s
  | some true=>opW P (aD cs x) sl s fun v s'=>match dt (aD cs x).md v s' with
   | some (v',u)=>aQ P (A.map (aD cs)++B) K (put sl (aD cs x).dst v') u
   | none=>False
  | none=>False:=by
 refine mo (A:=A.map (aD cs)) (B:=B) (x:=aD cs x) ?_ ?_ ?_ m
 ·intro t e;obtain ⟨c,a,rfl⟩:=rf.1 e;have:=d c a;simp only [cH,q9] at this;exact ⟨this.1.1.1,this.1.1.2,this.1.2⟩
 ·rw [x6];refine o.imp_of_mem ?_;intro y z p w q;have a:=d y p;simp only [cH,q9] at a;exact q a.1.1.1
 ·by_cases g:(aD cs x).quiet=true
  ·exact .inl g
  ·refine .inr fun t e=>?_;obtain ⟨c,a,rfl⟩:=rf.1 e;have:=d c a;simp only [cH,q9,vv] at this;rcases this.2 with (b | b) | b
   ·exact absurd b g
   ·exact .inl b
   ·right;obtain ⟨k,l⟩:=b;obtain ⟨h,f⟩:=x1.1 l;exact ⟨h,f,nH (by simpa using k) f⟩
theorem vQ {a:AO} {l:List AO} (h:a.quiet=true):(a.cut l).quiet=true:=by
 obtain ⟨b,c,d,i,re⟩:=a;simp only [AO.quiet,AO.cut,q9,y9] at h ⊢;refine ⟨⟨h.1.1,?_⟩,h.2⟩;rw [h.1.2]; rfl
theorem vU {P:Program} {cs:List AO} {A:List PE} {x:PE} {B:List AO} {K:Slots->St->Prop} {sl:Slots} {s:St} (f:∀ a∈A,cH cs a x=true)
  (w:A.Pairwise fun y z=>(aD cs y).quiet=true->d7 (aD cs y) (aD cs z)=true) (C:List AO) (t:∀ a∈A,dD (aD cs a).i=false->∀ o∈C,∀ d,o.dst=some d->¬(aD cs a).dst=some d) (u:aQ P (A.map (aD cs)++(aD cs x).cut C::B) K sl s) :
  match gdI (aD cs x).grd sl with
  | some false=>aQ P (A.map (aD cs)++B) K (put sl (aD cs x).dst (.tup [])) s
  | some true=>opW P (aD cs x) sl s fun v s'=>match dt (aD cs x).md v s' with
   | some (v',O)=>aQ P (A.map (aD cs)++B) K (put sl (aD cs x).dst v') O
   | none=>False
  | none=>False:=by
 refine mo (A:=A.map (aD cs)) (B:=B) (x:=(aD cs x).cut C) ?_ ?_ ?_ u
 ·intro N g;obtain ⟨a,b,rfl⟩:=rf.1 g;have:=f a b;simp only [cH,q9] at this;exact ⟨this.1.1.1,this.1.1.2,this.1.2⟩
 ·rw [x6];refine w.imp_of_mem ?_;intro y z J Q M;have b:=f y J;simp only [cH,q9] at b;exact M b.1.1.1
 ·by_cases k:(aD cs x).quiet=true
  ·exact .inl (vQ k)
  ·refine .inr fun N g=>?_;obtain ⟨a,b,rfl⟩:=rf.1 g;have:=f a b;simp only [cH,q9,vv] at this;by_cases h:dD (aD cs a).i=true
   ·exact .inl h
   have H:dD (aD cs a).i=false:=by simpa using h
   rcases this.2 with (c | c) | c
   ·exact absurd c k
   ·exact .inl c
   ·right;obtain ⟨p,q⟩:=c;obtain ⟨d,e⟩:=x1.1 q;refine ⟨d,e,?_⟩;show _∈(List.filter _ _);rw [A0];refine ⟨nH (by simpa using p) e,?_⟩
    rw [rx];intro o D;have:=t a b H o D;cases G:o.dst with
    | none=>rfl
    | some l=>
     have:=this l G;simp only [bne_iff_ne,ne_eq];intro m;rw [m] at this;exact this e
theorem fY {P:Program}:∀ (l:List AO) {K d:Slots->St->Prop} {sl:Slots} {s:St},aQ P l K sl s->(∀ sl s,K sl s->d sl s)->aQ P l d sl s
 | [],_,_,_,_,a,b=>b _ _ a
 | e::r,_,_,_,_,a,b=>by
  simp only [aQ] at a ⊢;split at a
  ·exact fY r a b
  ·refine iU a fun g f c=>?_;split at c
   ·exact ⟨c.1,fY r c.2 b⟩
   ·exact c
  ·exact a
theorem Ab (a:AO):a.cut []=a:=by
 obtain ⟨b,c,d,i,re⟩:=a;show AO.mk b c d i (re.filter fun e=>true)=_;congr 1;exact List.filter_eq_self.2 fun _ _=>rfl
theorem tK {P:Program} {cs:List AO} {ea:PE} {post:List PE} {K:Slots->St->Prop}:∀ (R:List PE),∃ c b,R=c++b/\(∀ d∈c,(aD cs d).quiet=true) /\
  ∀ sl s,cE P (aD cs ea) (post.map (aD cs)) K (R.map fun e=>(!(aD cs e).quiet,aD cs e)) sl s->aQ P (c.map (aD cs)++(aD cs ea).cut (b.map (aD cs))::(b++post).map (aD cs)) K sl s
 | []=>⟨[],[],rfl,by simp,fun sl s a=>by simpa [cE,Ab] using a⟩
 | e::R=>by
  by_cases f:(aD cs e).quiet=true
  ·obtain ⟨c,b,h,k,l⟩:=tK (P:=P) (cs:=cs) (ea:=ea) (post:=post) (K:=K) R;refine ⟨e::c,b,by rw [h]; rfl,fun d m=>?_,fun sl s a=>?_⟩
   ·rcases se.1 m with rfl | a
    ·exact f
    ·exact k d a
   ·simp only [s9,cE] at a;show aQ P ([aD cs e]++(c.map (aD cs)++(aD cs ea).cut (b.map (aD cs))::(b++post).map (aD cs))) K sl s;rw [eO];exact fY _ a.2 fun p o g=>l p o g
  ·refine ⟨[],e::R,rfl,by simp,fun sl s a=>?_⟩
   simp only [s9,cE] at a;have:=a.1 (by simpa using f)
   simpa [y3,Function.comp_def] using this
theorem vl {P:Program} {n:Nat} {md:Tmp->Md} {d:Array Oper} {Q:Exit->Act->World->Prop} (bl:∀ (j:Nat) o t,d[j]?=some o->o.dst=some t->t<n) {cs:List AO} (bj:d.toList.mapM (cD P n md d)=some cs)
  {pl post:List PE} {ea:PE} (cl:pl.all (ie d pl)=true) (di:∀ e∈post,ea.i∈e.anc) {K:Slots->St->Prop} :
  ∀ (T:Nat) (f R:List PE) (p:Array Bool),LInv d pl (f++(R++ea::post)) p->(f++(R++ea::post)).Pairwise (fun x y=>dx d cs ea x y=true)->(∀ b∈f,(aD cs b).quiet=true)->(f++(R++ea::post)).length<=T ->
   ∀ {sl:Slots} {s:St} {G:Gh} {w:World} {a:Act},aQ P (f.map (aD cs)) (cE P (aD cs ea) (post.map (aD cs)) K (R.map fun e=>(!(aD cs e).quiet,aD cs e))) sl s->Sim G s w->RepSl G sl a->n<=a.tmps.size ->
   (∀ q s' O C w',K q s'->Stp G s w O s' w'->Sim O s' w'->RepSl O q C->C.tmps.size=a.tmps.size->C.defers=a.defers->Q .normal C w')->wpAny P .any d Q T p a w:=by
 have ab:∀ e∈pl,e.i<d.size/\e.i∉dZ d e.i/\(∀ j∈dZ d e.i,j<d.size)/\∀ j∈e.anc,j∈dZ d e.i\/∃ S∈pl,S.i∈dZ d e.i/\j∈S.anc:=by
  intro e m;have:=rx.1 cl e m;simpa [ie,and_assoc] using this
 intro T
 induction T with
 | zero=>intro f R p k l g M; simp at M
 | succ T c1=>
  intro f R p k l cp M sl s G w a bi bW b8 aa bN;have c9:Region.ready .any d p≠[]:=by
   intro b7;cases cb:f++(R++ea::post) with
   | nil=>simp at cb
   | cons e L=>
    rw [cb] at k l;obtain ⟨H,U,bx,dW⟩:=ab e (k.sub e (by simp))
    have:e.i∈Region.ready .any d p:=by
     rw [jk,je H];refine ⟨H,k.open_ e (by simp),fun j b3=>?_⟩
     refine k.done j (bx j b3) ?_;intro S ao cc;rcases se.1 ao with rfl | ao
     ·exact U (cc▸b3)
     ·have:=(w5.1 l).1 S ao;simp [dx] at this;exact this.1.1.2 (cc▸b3)
    rw [b7] at this; cases this
  refine ⟨fun b7=>absurd b7 c9,?_⟩;intro i c6;obtain ⟨v,de,ag⟩:=jk.1 c6;rw [je v] at ag;have c7:∃ e∈f++(R++ea::post),e.i=i:=by
   refine sx fun c'=>?_;have:=k.done i v fun e m c5=>c' ⟨e,m,c5⟩;rw [ly (by rw [k.size]; exact v) false true,de] at this; cases this
  obtain ⟨x,cx,rfl⟩:=c7;have dp:=ab x (k.sub x cx);have b1:∀ b∈f++(R++ea::post),b.i∉x.anc:=by
   intro b g b5;have:p.getD b.i false=true:=by
    rcases dp.2.2.2 b.i b5 with c | ⟨S,ao,H,U⟩
    ·exact ag _ c
    ·exact k.shut S ao (ag _ H) _ U
   have dk:=(ab b (k.sub b g)).1;rw [ly (by rw [k.size]; exact dk) false true,k.open_ b g] at this
   cases this
  have ch:∀ b,b∈f++(R++ea::post)->dx d cs ea b x=true->x.i≠ea.i->cH cs b x=true:=by
   intro b g ar ax;simp only [dx,q9,vv] at ar;rcases ar.1.2 with (c | c) | c
   ·exact absurd (by simpa using c) (b1 b g)
   ·exact c
   ·exact absurd (by simpa using c.1) ax
  have b4:∀ {L:List PE},L.Pairwise (fun x y=>dx d cs ea x y=true)->L.Pairwise fun y bm=>(aD cs y).quiet=true->d7 (aD cs y) (aD cs bm)=true:=by
   intro L M;refine M.imp fun {y bm} N g=>?_;simp only [dx,q9,g,y8,w0] at N;exact N.2
  have Z:∀ {A B:List PE},(A++x::B).Pairwise (fun x y=>dx d cs ea x y=true)->∀ e∈A++B,e.i≠x.i:=by
   intro A B l e m;rw [tj,w5] at l;rcases rd.1 m with c | c
   ·have:=l.2.2 e c x (by simp)
    simp only [dx,q9] at this;simpa using this.1.1.1
   ·have:=l.2.1.1 e c;simp only [dx,q9] at this;have:=this.1.1.1;simp at this;exact s4 this
  have b2:∀ {A B:List PE},(A++x::B).Pairwise (fun x y=>dx d cs ea x y=true)->(A++B).Pairwise (fun x y=>dx d cs ea x y=true):=by
   intro A B l;exact l.sublist (List.Sublist.append (List.Sublist.refl A) (List.sublist_cons_self x B))
  rcases rd.1 cx with dl | b'
  ·
   obtain ⟨A,B,rfl⟩:=Et dl;have h:(A++x::(B++(R++ea::post))).Pairwise (fun x y=>dx d cs ea x y=true):=by simpa using l
   have am:LInv d pl (A++x::(B++(R++ea::post))) p:=by simpa using k
   have ax:x.i≠ea.i:=by
    have:=Z h ea (by simp)
    exact s4 this
   have J:∀ b∈A,cH cs b x=true:=fun b g=>ch b (by simp [g]) (by
    rw [tj] at h;exact h.2.2 b g x (by simp)) ax
   rw [sh,s9] at bi;have ap:A.Pairwise (fun x y=>dx d cs ea x y=true):=(tj.1 h).1;have Y:=tp J (b4 ap) bi;refine nR bl bj v bW b8 aa Y ?_;intro q s' O C w' W a0 a1 a2 z a3;have u:=am.take v (Z h) ag fun e m=>(ab e m).2.2.2;refine c1 (A++B) R _ (by simpa using u) (by simpa using b2 h) (fun b g=>cp b (by rcases rd.1 g with c | c <;> simp [c])) (by simp at M ⊢; omega) (by rw [sh]; exact W) a1 a2 (by rw [z]; exact aa) ?_
   intro bb a' ai al bc a4 a5 a6 a7 a8 a9;exact bN bb a' ai al bc a4 (a0.trans a5) a6 a7 (by rw [a8,z]) (by rw [a9,a3])
  ·rcases rd.1 b' with b' | b9
   ·
    obtain ⟨A,B,rfl⟩:=Et b';have h:((f++A)++x::(B++ea::post)).Pairwise (fun x y=>dx d cs ea x y=true):=by simpa using l
    have am:LInv d pl ((f++A)++x::(B++ea::post)) p:=by simpa using k
    have ax:x.i≠ea.i:=by
     have:=Z h ea (by simp)
     exact s4 this
    have J:∀ b∈f++A,cH cs b x=true:=fun b g=>ch b (by rcases rd.1 g with c | c <;> simp [c]) (by
     rw [tj] at h;exact h.2.2 b g x (by simp)) ax
    have ap:(f++A).Pairwise (fun x y=>dx d cs ea x y=true):=(tj.1 h).1;have b0:aQ P ((f++A).map (aD cs)++aD cs x::[]) (cE P (aD cs ea) (post.map (aD cs)) K (B.map fun e=>(!(aD cs e).quiet,aD cs e))) sl s:=by
     rw [sh,u0,eO];refine fY (f.map (aD cs)) bi fun q s' D=>?_;rw [sh,s9] at D;have U:=ry _ _ D;rw [y3] at U;rw [eO];refine fY _ U fun q s' bx=>?_;exact bx.2
    have Y:=tp J (b4 ap) b0;rw [xg] at Y;refine nR bl bj v bW b8 aa Y ?_;intro q s' O C w' W a0 a1 a2 z a3;have u:=am.take v (Z h) ag fun e m=>(ab e m).2.2.2;refine c1 (f++A) B _ (by simpa using u) (by simpa using b2 h) (fun b g=>?_) (by simp at M ⊢; omega) W a1 a2 (by rw [z]; exact aa) ?_
    ·have:=J b g;simp only [cH,q9] at this;exact this.1.1.1
    ·intro bb a' ai al bc a4 a5 a6 a7 a8 a9;exact bN bb a' ai al bc a4 (a0.trans a5) a6 a7 (by rw [a8,z]) (by rw [a9,a3])
   ·rcases se.1 b9 with dn | b9
    ·
     subst dn;have h:((f++R)++x::post).Pairwise (fun ca y=>dx d cs x ca y=true):=by simpa using l
     have am:LInv d pl ((f++R)++x::post) p:=by simpa using k
     obtain ⟨bo,bt,bf,c2,c8⟩:=tK (P:=P) (cs:=cs) (ea:=x) (post:=post) (K:=K) R;have b0:aQ P ((f++bo).map (aD cs)++(aD cs x).cut (bt.map (aD cs))::(bt++post).map (aD cs)) K sl s:=by
      rw [sh,u0,eO];exact fY _ bi fun q s' D=>c8 q s' D
     have J:∀ b∈f++bo,cH cs b x=true:=by
      intro b g;have cn:b∈f++R:=by
       rcases rd.1 g with c | c
       ·simp [c]
       ·rw [bf]; simp [c]
      have b6:(aD cs b).quiet=true:=by
       rcases rd.1 g with c | c
       ·exact cp b c
       ·exact c2 b c
      have ar:dx d cs x b x=true:=by
       rw [tj] at h;exact h.2.2 b cn x (by simp)
      simp only [dx,q9,vv,b6,y8] at ar;rcases ar.1.2 with (c | c) | c
      ·exact absurd (by simpa using c) (b1 b (by rcases rd.1 cn with D | D <;> simp [D]))
      ·exact c
      ·exact absurd c.2 (by simp)
     have ap:(f++bo).Pairwise (fun ca y=>dx d cs x ca y=true):=by
      refine (tj.1 h).1.sublist ?_;rw [bf,<-List.append_assoc];exact List.sublist_append_left _ _
     have Y:=vU J (b4 ap) (bt.map (aD cs)) (by
      intro b g b5 o da;obtain ⟨y,c0,rfl⟩:=rf.1 da;have cq:dx d cs x b y=true:=by
       have H:=(tj.1 h).1;rw [bf,<-List.append_assoc,tj] at H;exact H.2.2 b g y c0
      have b6:(aD cs b).quiet=true:=by
       have:=J b g;simp only [cH,q9] at this;exact this.1.1.1
      simp only [dx,q9,b6,y8,w0] at cq;have bk:=cq.2;simp only [d7,b5,w0] at bk;intro dN c4;rw [c4] at bk;simp at bk;exact bk.2) b0
     refine nR bl bj v bW b8 aa Y ?_;intro q s' O C w' W a0 a1 a2 z a3;have u:=am.take v (Z h) ag fun e m=>(ab e m).2.2.2;have c3:aQ P (((f++R)++post).map (aD cs)) K q s':=by
      rw [<-List.map_append] at W;rw [bf];simpa using W
     refine ub bl bj cl T ((f++R)++post) _ ⟨u.size,u.open_,u.done,?_,u.sub,u.shut⟩ (by simp at M ⊢; omega) c3 a1 a2 (by rw [z]; exact aa) ?_
     ·refine (b2 h).imp_of_mem ?_;intro y bm c0 ds N;have dv:=Z h bm ds;simp only [dx,q9,vv] at N;simp only [jo,q9,vv];refine ⟨⟨N.1.1,?_⟩,N.2⟩;rcases N.1.2 with c | c
      ·exact c
      ·exact absurd (by simpa using c.1) dv
     ·intro bb a' ai al bc a4 a5 a6 a7 a8 a9;exact bN bb a' ai al bc a4 (a0.trans a5) a6 a7 (by rw [a8,z]) (by rw [a9,a3])
    ·
     exact absurd (di x b9) (b1 ea (by simp))
theorem Au {P:Program} {n:Nat} {md:Tmp->Md} {f:Array Oper} {Q:Exit->Act->World->Prop} (J:P.follows .mixedOrders=true) (O:∀ (j:Nat) o t,f[j]?=some o->o.dst=some t->t<n) {cs:List AO} (C:f.toList.mapM (cD P n md f)=some cs)
  {pre post:List PE} {ea:PE} (p:tJ f cs pre ea post=true) {K:Slots->St->Prop} {id:Nat} {sl:Slots} {s:St} {G:Gh} {w:World} {a:Act} (z:cE P (aD cs ea) (post.map (aD cs)) K (pre.map fun e=>(!(aD cs e).quiet,aD cs e)) sl s) (h:Sim G s w) (R:RepSl G sl a) (M:n<=a.tmps.size)
  (y:∀ k s' g d w',K k s'->Stp G s w g s' w'->Sim g s' w'->RepSl g k d->d.tmps.size=a.tmps.size->d.defers=a.defers->Q .normal d w'):(Code.region id f true).wp P Q a w:=by
 simp only [tJ,q9] at p;obtain ⟨⟨⟨⟨q,m⟩,u⟩,v⟩,x⟩:=p;refine wp_region_any J ?_;refine vl O C (pl:=pre++ea::post) m ?_ f.size [] pre _ ?_ (by simpa using kP q) (by simp) (by simpa using u) z ⟨h.mem,h.dom,h.blk,h.ov⟩ R M ?_
 ·intro e b;have:=rx.1 x e b;simpa using this
 ·refine ⟨by simp,?_,?_,fun e b=>by simpa using b,?_⟩
  ·intro e b;have:=rx.1 m e (by simpa using b)
   simp only [ie,q9,decide_eq_true_eq] at this;rw [r5,x2];simp [this.1.1.1]
  ·intro i H N;have:=rx.1 v i (by simpa using H)
   rw [v8] at this;obtain ⟨e,b,D⟩:=this;exact absurd (by simpa using D) (N e (by simpa using b))
  ·intro e b l;rw [r5,x2] at l;split at l <;> simp at l
 ·intro k s' g d w' S c T U W Y;exact y k s' g d w' S ⟨c.le,c.c,c.os,c.tape,c.output,c.size,c.keep,c.own⟩ T U W Y
end Go.AM
