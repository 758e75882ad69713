/- Part of the claim: see its last text. -/
import Derived.Test.YtjhogglgkjcacaaGreatMa16
set_option linter.all false
namespace Go.AM
inductive PL where
 | one (l:List PE)
 | roam (pre:List PE) (a:PE) (post:List PE)
def eB (P:Program) (n:Nat) (md:Tmp->Md) (pl:Nat->PL):Code->Option AC
 | .skip=>some .skip
 | .region id d draw=>match d.toList.mapM (cD P n md d) with
  | some b=>if draw=true then match pl id with
    | .one g=>if P.follows .mixedOrders=true/\tF d b g=true then some (.ops (g.map (aD b))) else none
    | .roam pre a h=>if P.follows .mixedOrders=true/\tJ d b pre a h=true then some (.roam (aD b a) (pre.map fun f=>(!(aD b f).quiet,aD b f)) (h.map (aD b))) else none
   else some (.ops b)
  | none=>none
 | .seq a c=>match eB P n md pl a,eB P n md pl c with
  | some a,some c=>some (.seq a c)
  | _,_=>none
 | .cond e a c=>match cX e,eB P n md pl a,eB P n md pl c with
  | some e,some a,some c=>some (.cond e a c)
  | _,_,_=>none
 | .block id a=>(eB P n md pl a).map (.block id)
 | .loop a=>(eB P n md pl a).map .loop
 | .exit id=>some (.exit id)
 | .ret=>some .ret
 | _=>none
def Ex.out:Ex->Exit
 | .normal=>.normal
 | .exit id=>.exit id
 | .ret=>.ret
theorem jZ {P:Program} {n:Nat} {md:Tmp->Md} {a:Array Oper} {cs:List AO} (h:a.toList.mapM (cD P n md a)=some cs):∀ (j:Nat) o t,a[j]?=some o->o.dst=some t->t<n:=by
 intro j o t b f;obtain ⟨c,d⟩:=fW h;have e:j<cs.length:=by rw [<-c]; simpa using (u7.1 b).1
 exact (jW (d j o _ (by simpa using b) (q3 e))).2.2.1 t f
theorem AI {P:Program} {n:Nat} {md:Tmp->Md} {pl:Nat->PL} (c:Code):∀ (ac:AC),eB P n md pl c=some ac->∀ {Q:Ex->Slots->St->Prop} {sl:Slots} {s:St} {G:Gh} {w:World} {a:Act} {y:Exit->Act->World->Prop},
  acW P ac Q sl s->Sim G s w->RepSl G sl a->n<=a.tmps.size ->
  (∀ e o s' k g w',Q e o s'->Stp G s w k s' w'->Sim k s' w'->RepSl k o g->g.tmps.size=a.tmps.size->g.defers=a.defers->y e.out g w')->c.wp P y a w:=by
 induction c with
 | skip=>
  intro ac b Q sl s G w a y f p m x d;simp only [eB] at b; injection b with b; subst b;exact wp_skip (d .normal sl s G a w f (Stp.refl G s w) p m rfl rfl)
 | region id a6 draw=>
  intro ac b Q sl s G w a y f p m x d;simp only [eB] at b;split at b
  ·rename_i ax C;split at b
   ·rename_i N;subst N;split at b
    ·split at b
     ·rename_i H;injection b with b; subst b;exact Af H.1 (jZ C) C H.2 f p m x fun o s' k g w' h q t u l v=>d .normal o s' k g w' h q t u l v
     ·cases b
    ·split at b
     ·rename_i H;injection b with b; subst b;exact Au H.1 (jZ C) C H.2 f p m x fun o s' k g w' h q t u l v=>d .normal o s' k g w' h q t u l v
     ·cases b
   ·rename_i N;injection b with b; subst b;have:draw=false:=by simpa using N
    subst this;exact wp_region_list (oe (jZ C) a6.toList ax C f p m x fun o s' k g w' h q t u l v=>d .normal o s' k g w' h q t u l v)
  ·cases b
 | seq ao a8 a4 T=>
  intro ac b Q sl s G w a y f p m x d;simp only [eB] at b;split at b
  ·rename_i D ap z M;injection b with b; subst b;simp only [acW] at f;refine wp_seq (a4 D z f p m x ?_);intro e o s' k g w' h q t u l v;cases e with
   | normal=>
    exact T ap M h t u (by rw [l]; exact x) fun e al ai J K am W Y Z aa ab ag=>d e al ai J K am W (q.trans Y) Z aa (by rw [ab,l]) (by rw [ag,v])
   | exit id=>exact d _ o s' k g w' h q t u l v
   | ret=>exact d _ o s' k g w' h q t u l v
  ·cases b
 | cond ao a8 a' T a5=>
  intro ac b Q sl s G w a y f p m x d;simp only [eB] at b;split at b
  ·rename_i D ap a9 a0 z M;injection b with b; subst b;simp only [acW] at f;split at f
   ·rename_i a7 a1;have ar:=bh m a0;rw [a1] at ar;obtain ⟨a2,_⟩:=bH ar;refine wp_cond a2 ?_;cases a7
    ·exact a5 a9 M (by simpa using f) p m x d
    ·exact T ap z (by simpa using f) p m x d
   ·exact f.elim
  ·cases b
 | block id ao S=>
  intro ac b Q sl s G w a y f p m x d;simp only [eB] at b;obtain ⟨D,z,rfl⟩:=ay b;simp only [acW] at f;refine wp_block (S D z f p m x ?_);intro e o s' k g w' h q t u l v;cases e with
  | normal=>exact d _ o s' k g w' h q t u l v
  | exit i=>
   show (if i=id then y .normal g w' else y (.exit i) g w')
   simp only at h;split
   ·rename_i O;rw [if_pos O] at h;exact d .normal o s' k g w' h q t u l v
   ·rename_i O;rw [if_neg O] at h;exact d (.exit i) o s' k g w' h q t u l v
  | ret=>exact d _ o s' k g w' h q t u l v
 | loop ao S=>
  intro ac b Q sl s G w a y f p m x d;simp only [eB] at b;obtain ⟨D,z,rfl⟩:=ay b;simp only [acW] at f;obtain ⟨U,R⟩:=f;refine wp_loop_rounds U ?_;clear b
  induction U generalizing sl s G w a with
  | zero=>exact R.elim
  | succ U a3=>
   rw [rounds_succ];simp only [fV] at R;refine S D z R p m x ?_;intro e o s' k g w' h q t u l v;cases e with
   | normal=>
    exact a3 t u (by rw [l]; exact x) (fun e al ai J K am W Y Z aa ab ag=>d e al ai J K am W (q.trans Y) Z aa (by rw [ab,l]) (by rw [ag,v])) h
   | exit id=>exact d _ o s' k g w' h q t u l v
   | ret=>exact d _ o s' k g w' h q t u l v
 | exit id=>
  intro ac b Q sl s G w a y f p m x d;simp only [eB] at b; injection b with b; subst b;exact wp_exit (d (.exit id) sl s G a w f (Stp.refl G s w) p m rfl rfl)
 | ret=>
  intro ac b Q sl s G w a y f p m x d;simp only [eB] at b; injection b with b; subst b;exact wp_ret (d .ret sl s G a w f (Stp.refl G s w) p m rfl rfl)
 | _=>intro ac b; simp [eB] at b
inductive RX where
 | t (n:Nat)
 | l (n:Nat) (ag:Option Nat)
def l8 (P:Program):ResultVar->Option RX
 | .tmp a=>some (.t a)
 | .cell b a=>(tAg P a).map (.l b)
def yH (P:Program) (a:Array ResultVar):Option (List RX):=a.toList.mapM (l8 P)
def cr (sl:Slots) (s:St):RX->Option AV
 | .t n=>some (sl n)
 | .l n a=>ldI a (sl n) s
def fH (a:List RX) (sl:Slots) (s:St):Option AV:=match a.mapM (cr sl s) with
 | some [b]=>some b
 | some c=>some (.tup c)
 | none=>none
inductive RM where
 | frz | keep | fresh
def eb (d:RM) (a:St) (r:AV) (s:St):Option (AV×St):=match d with
 | .frz=>(fzR r s).map fun c=>(c.1,{ h:=retH a.c a.h c.2.h,c:=c.2.c })
 | .keep=>some (r,s)
 | .fresh=>match r with
  | .row b e off len=>match s.h b with
   | some (.row _ _ .live none)=>some (r,{ h:=upd (retH a.c a.h s.h) b (s.h b),c:=s.c })
   | _=>none
  | _=>none
def rv1 (tmps:Array Value):ResultVar->Sem Value
 | .tmp a=>pure (tmps.getD a undef)
 | .cell b a=>do loadVar a (←asAddr (tmps.getD b undef))
theorem zf {P:Program} {G:Gh} {s:St} {w:World} {sl:Slots} {a:Act} (m:Sim G s w) (d:RepSl G sl a) {c:ResultVar} {e:RX} {av:AV} (b:l8 P c=some e) (h:cr sl s e=some av) :
  ∃ v,(rv1 a.tmps c).run P w=.ok v w/\Rep G av v:=by
 cases c with
 | tmp f=>
  simp only [l8] at b; injection b with b; subst b;simp only [cr] at h; injection h with h; subst h;exact ⟨_,rfl,d f⟩
 | cell p f=>
  simp only [l8] at b;obtain ⟨q,o,rfl⟩:=ay b;simp only [cr] at h;obtain ⟨t,v,g,k,l⟩:=wv (P:=P) o h (d p) m;refine ⟨v,?_,l⟩;simp only [rv1,g,asAddr,Sem.run_bind,Sem.run_pure,Result.andThen_ok];exact k
theorem uP {P:Program} {G:Gh} {s:St} {w:World} {sl:Slots} {a:Act} (l:Sim G s w) (m:RepSl G sl a):∀ (d:List ResultVar) (g:List RX) (avs:List AV),d.mapM (l8 P)=some g->g.mapM (cr sl s)=some avs ->
  ∃ vs,(d.mapM (rv1 a.tmps)).run P w=.ok vs w/\RepL G avs vs
 | [],g,avs,b,c=>by
  simp at b; subst b; simp at c; subst c;exact ⟨[],by simp,RepL.nil G⟩
 | u::d,g,avs,b,c=>by
  rw [v1] at b;cases e:l8 P u with
  | none=>simp [e] at b
  | some v=>
   cases h:d.mapM (l8 P) with
   | none=>simp [e,h] at b
   | some rxs'=>
    simp [e,h] at b; subst b;rw [v1] at c;cases f:cr sl s v with
    | none=>simp [f] at c
    | some av=>
     cases k:rxs'.mapM (cr sl s) with
     | none=>simp [f,k] at c
     | some avs'=>
      simp [f,k] at c; subst c;obtain ⟨x,o,p⟩:=zf (P:=P) l m e f;obtain ⟨vs,q,t⟩:=uP l m d rxs' avs' h k;refine ⟨x::vs,?_,RepL.cons p t⟩;rw [v1];simp [o,q]
theorem uO {P:Program} {G:Gh} {s:St} {w:World} {sl:Slots} {a:Act} (l:Sim G s w) (u:RepSl G sl a) {fn:Func} {f:List RX} {av:AV} (m:yH P fn.results=some f) (h:fH f sl s=some av) :
  ∃ v,(results fn a.tmps).run P w=.ok v w/\Rep G av v:=by
 unfold fH at h;cases g:f.mapM (cr sl s) with
 | none=>simp [g] at h
 | some avs=>
  obtain ⟨d,k,e⟩:=uP (P:=P) l u fn.results.toList f avs m g;have q:(fn.results.mapM (rv1 a.tmps)).run P w=.ok d.toArray w:=by
   rw [EK];simp [k]
  have p:results fn a.tmps=(fn.results.mapM (rv1 a.tmps) >>= fun d=>pure (if h:d.size=1 then d[0] else .tuple d)):=by
   unfold results;congr 1
  simp only [g] at h;rw [p];simp only [Sem.run_bind,q,Result.andThen_ok];split at h
  ·rename_i y b;injection b with b; subst b;injection h with h; subst h;have c:=e.1
   match d,c,e with
   | [v],_,e=>exact ⟨v,by simp,e.2 0 _ v rfl rfl⟩
  ·rename_i vs' o b;injection b with b; subst b;injection h with h; subst h;refine ⟨.tuple d.toArray,?_,e.toTup⟩;rw [dif_neg]
   ·rfl
   ·intro t;have c:=e.1;simp at t
    match avs,c with
    | [x],_=>exact o x rfl
    | [],c=>simp at c; omega
    | _::_::_,c=>simp at c; omega
  ·cases h
theorem uZ {G u:Gh} {s b s':St} {w J:World} {O:RM} {r av:AV} {v:Value} (T:Sim u b J) (y:Stp u b J G s w) (p:Sim G s w) (H:Rep G r v) (h:eb O b r s=some (av,s')) :
  ∃ t,Stp u b J t s' w/\Sim t s' w/\Rep t av v:=by
 have D:∀ a,b.c<=a->b.h a=none:=by
  intro a c;cases Y:b.h a with
  | none=>rfl
  | some d=>have:=T.hLt Y; omega
 cases O with
 | frz=>
  simp only [eb] at h;obtain ⟨q,ai,z⟩:=ay h;injection z with k l; subst k; subst l;obtain ⟨P,Q,R,S⟩:=AT (v':=q.1) (s':=q.2) ai H p;refine ⟨P,(y.trans Q).trans (Stp.sub (q5 _) ?_),R.ret D,S⟩;intro e d C;have m:retH b.c b.h q.2.h e=some d:=C;unfold retH at m;split at m
  ·exact m
  ·rw [D e (by omega)] at m; cases m
 | keep=>
  simp only [eb] at h; injection h with h; injection h with k l; subst k; subst l;exact ⟨G,y,p,H⟩
 | fresh=>
  simp only [eb] at h;split at h
  ·rename_i e a2 off len;split at h
   ·rename_i a3 ao C;injection h with h; injection h with k l; subst k; subst l;have o:∀ a d,upd (retH b.c b.h s.h) e (s.h e) a=some d->s.h a=some d/\(a=e\/a<b.c):=by
     intro a d c;unfold upd at c;split at c
     ·rename_i g; subst g; exact ⟨c,.inl rfl⟩
     ·unfold retH at c;split at c
      ·exact ⟨c,.inr ‹_›⟩
      ·rw [D a (by omega)] at c; cases c
    refine ⟨G,y.trans (Stp.sub (q5 _) fun a d c=>(o a d c).1),p.sub (q5 _) (fun a d c=>(o a d c).1) ?_,H⟩;intro i j K x al am aa Z N ab ag z U W a4 a ap a1 ar ax d M;show upd (retH b.c b.h s.h) e (s.h e) a=some d;unfold upd;split
    ·rename_i g; subst g; exact M
    ·unfold retH;rw [if_pos]
     ·exact M
     ·rcases (o j x N).2 with g | a0
      ·subst g;obtain ⟨_,_,_,_,_,_,_,_,_,_,q,f,_⟩:=p.ov i j K x al am aa (o i K Z).1 (o j x N).1 ab ag z U W;rw [C] at f; injection f with f; injection f with _ _ _ f; cases f
      ·omega
   ·cases h
  ·cases h
def jp (args:List AV):Slots:=fun a=>(args[a]?).getD .undef
def oO (c:RM) (d:List RX) (s:St) (R:AV->St->Prop):Ex->Slots->St->Prop:=fun b f a=>match b with
 | .exit _=>False
 | _=>match fH d f a with
  | some r=>match eb c s r a with
   | some (av,e)=>R av e
   | none=>False
  | none=>False
theorem af {P:Program} {f:FuncId} {fn:Func} {c:Code} {ac:AC} {m:List RX} {md:Tmp->Md} (v:RM) (H:∀ (vs:Array Value) (w:World),(callFunc f vs).run P w=.ok (.enter f vs) w) (J:P.funcs[f]?=some fn) (D:fn.body=some c)
  {pl:Nat->PL} (G:eB P fn.ntmps md pl c=some ac) (N:yH P fn.results=some m) {args:List AV} {s:St} {R:AV->St->Prop}
  (h:acW P ac (oO v m s R) (jp args) s):ACalls P f args s R:=by
 intro o w vs q Q;unfold CallOk;rw [H];refine calls_of_wp J D ?_;refine AI c ac G h q ?_ (by simp; omega) ?_
 ·intro e;show Rep o ((args[e]?).getD .undef) _;cases C:args[e]? with
  | none=>exact .undef _
  | some av=>
   obtain ⟨b,t,S⟩:=Q.get C;have M:e<vs.length:=(q4.1 t).1;have:(vs.toArray++Array.replicate (fn.ntmps-vs.toArray.size) undef).getD e undef=b:=by
    rw [r5,xq (by simpa using M)]
    simp [t]
   simp only [ym];rw [this]; exact S
 ·intro z ai x al p g l T u U am W;have fin:(match fH m ai x with
    | some r=>match eb v s r x with
     | some (av,a)=>R av a
     | none=>False
    | none=>False)->p.defers=[]/\∃ b,(results fn p.tmps).run P g=.ok b g/\∃ av k a,Stp o s w k a g/\Sim k a g/\Rep k av b/\R av a:=by
   intro d;split at d
   ·rename_i r O;split at d
    ·rename_i av a K;obtain ⟨b,Y,Z⟩:=uO (P:=P) u U N O;obtain ⟨y,aa,ab,ag⟩:=uZ q T u Z K;exact ⟨by rw [W],b,Y,av,y,a,aa,ab,ag,d⟩
    ·exact d.elim
   ·exact d.elim
  cases z with
  | normal=>exact fin l
  | ret=>exact fin l
  | exit id=>exact l.elim
theorem dL {P:Program}:∀ (l:List AO) {K d:Slots->St->Prop} {sl:Slots} {s:St},aQ P l K sl s->(∀ sl s,K sl s->d sl s)->aQ P l d sl s
 | [],_,_,_,_,a,b=>b _ _ a
 | e::r,_,_,_,_,a,b=>by
  simp only [aQ] at a ⊢;split at a
  ·exact dL r a b
  ·refine iU a fun g f c=>?_;split at c
   ·exact ⟨c.1,dL r c.2 b⟩
   ·exact c
  ·exact a
theorem jD {P:Program} {a:AO} {post:List AO}:∀ (r:List (Bool×AO)) {K d:Slots->St->Prop} {sl:Slots} {s:St},cE P a post K r sl s->(∀ sl s,K sl s->d sl s)->cE P a post d r sl s
 | [],_,_,_,_,b,c=>dL _ b c
 | (g,h)::r,_,_,_,_,b,c=>⟨fun f=>dL _ (b.1 f) c,dL _ b.2 fun sl s e=>jD r e c⟩
theorem pV {F:(Ex->Slots->St->Prop)->Slots->St->Prop} (f:∀ (Q a:Ex->Slots->St->Prop) (sl:Slots) (s:St),F Q sl s->(∀ e sl s,Q e sl s->a e sl s)->F a sl s):∀ (n:Nat) {Q a:Ex->Slots->St->Prop} {sl:Slots} {s:St},
  fV F Q n sl s->(∀ e sl s,Q e sl s->a e sl s)->fV F a n sl s
 | 0,_,_,_,_,b,_=>b
 | n+1,_,_,_,_,b,d=>by
  simp only [fV] at b ⊢;refine f _ _ _ _ b fun e sl s c=>?_;cases e with
  | normal=>exact pV f n c d
  | exit id=>exact d _ _ _ c
  | ret=>exact d _ _ _ c
theorem bT {P:Program}:∀ (a:AC) {Q k:Ex->Slots->St->Prop} {sl:Slots} {s:St},acW P a Q sl s->(∀ e sl s,Q e sl s->k e sl s)->acW P a k sl s
 | .skip,_,_,_,_,b,c=>c _ _ _ b
 | .ops o,_,_,_,_,b,c=>dL o b (c .normal)
 | .roam a pre q,_,_,_,_,b,c=>jD pre b (c .normal)
 | .seq a f,_,_,_,_,b,c=>by
  simp only [acW] at b ⊢;refine bT a b fun e sl s d=>?_;cases e with
  | normal=>exact bT f d c
  | exit id=>exact c _ _ _ d
  | ret=>exact c _ _ _ d
 | .cond p a f,_,_,_,_,b,c=>by
  simp only [acW] at b ⊢;split at b
  ·split at b
   ·rename_i h; simp only [h,if_true]; exact bT a b c
   ·rename_i h; simp only [h]; exact bT f b c
  ·exact b
 | .block id a,_,_,_,_,b,c=>by
  simp only [acW] at b ⊢;refine bT a b fun e sl s d=>?_;cases e with
  | normal=>exact c _ _ _ d
  | exit i=>
   simp only at d ⊢;split at d
   ·rename_i g; rw [if_pos g]; exact c _ _ _ d
   ·rename_i g; rw [if_neg g]; exact c _ _ _ d
  | ret=>exact c _ _ _ d
 | .loop a,_,_,_,_,b,c=>by
  simp only [acW] at b ⊢;obtain ⟨n,l⟩:=b;exact ⟨n,pV (F:=acW P a) (fun _ _ _ _ b m=>bT a b m) n l c⟩
 | .exit id,_,_,_,_,b,c=>c _ _ _ b
 | .ret,_,_,_,_,b,c=>c _ _ _ b
theorem lU {P:Program} {a:AC} {Q:Ex->Slots->St->Prop} (c:Nat->Slots->St->Prop) (n:Nat) {sl:Slots} {s:St} (g:c n sl s)
  (p:∀ n sl s,c n sl s->acW P a (fun e d s'=>match e with | .normal=>∃ m,m<n/\c m d s' | e=>Q e d s') sl s):acW P (.loop a) Q sl s:=by
 have o:∀ b n sl s,n<b->c n sl s->fV (acW P a) Q b sl s:=by
  intro b
  induction b with
  | zero=>intro n sl s q; omega
  | succ b l=>
   intro n sl s u h;simp only [fV];refine bT a (p n sl s h) fun e d s' f=>?_;cases e with
   | normal=>obtain ⟨m,t,k⟩:=f; exact l m d s' (by omega) k
   | exit id=>exact f
   | ret=>exact f
 exact ⟨n+1,o (n+1) n sl s (q7 n) g⟩
@[simp] theorem Dv {sl:Slots} {a:Nat} {v:AV} {k:Nat}:put sl (some a) v k=if k=a then v else sl k:=q6 rfl rfl
@[simp] theorem Du {sl:Slots} {v:AV}:put sl none v=sl:=q6 rfl rfl
@[simp] theorem X_ev_t {sl:Slots} {n:Nat}:(X.t n).ev sl=sl n:=q6 rfl rfl
@[simp] theorem X_ev_c {sl:Slots} {v:AV}:(X.c v).ev sl=v:=q6 rfl rfl
@[simp] theorem X_ev_f {sl:Slots} {n:Nat}:(X.f n).ev sl=.fn (.func n) [] []:=q6 rfl rfl
@[simp] theorem Ch {args:List AV} {t:Nat}:jp args t=(args[t]?).getD .undef:=q6 rfl rfl
@[simp] theorem Di {sl:Slots}:gdI none sl=some true:=q6 rfl rfl
@[simp] theorem Dj {sl:Slots} {t:Nat} {b:Bool}:gdI (some (t,b)) sl=(match sl t with
  | .sc (.bool b')=>some (b'==b)
  | .tup []=>some false
  | _=>none):=q6 rfl rfl
theorem aA {c:Nat} {h h':Heap} (a:∀ k,k<c->h' k=h k):retH c h h'=h:=by
 funext k;unfold retH;split
 ·rename_i b; exact a k b
 ·rfl
@[simp] theorem nI {c:Nat} {h:Heap}:retH c h h=h:=aA fun _ _=>rfl
theorem mw {c g:Nat} {h h':Heap} {b:Option Body} (a:c<=g):retH c h (upd h' g b)=retH c h h':=by
 funext d;unfold retH upd;split
 ·rw [if_neg (by omega)]
 ·rfl
@[simp] theorem ae {h:Heap} {g:Nat} {b:Option Body}:upd h g b g=b:=by simp [upd]
theorem ad {h:Heap} {g k:Nat} {b:Option Body} (a:k≠g):upd h g b k=h k:=by simp [upd,a]
theorem qv {h:Heap} {g k:Nat} {b:Option Body} (a:k≠g:=by omega):upd h g b k=h k:=ad a
@[simp] theorem C6 {h:Heap} {g:Nat} {b b':Option Body}:upd (upd h g b) g b'=upd h g b':=by
 funext a; unfold upd; split <;> rfl
end Go.AM
