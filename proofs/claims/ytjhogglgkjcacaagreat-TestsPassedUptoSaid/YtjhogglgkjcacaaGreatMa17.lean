/- Part of the claim: see its last text. -/
import Derived.Test.YtjhogglgkjcacaaGreatMa16
set_option linter.all false
namespace Go.AM
inductive PL where
 | one (l:List PE)
 | roam (pre:List PE) (a:PE) (post:List PE)
def dt (P:Program) (n:Nat) (md:Tmp→Md) (pl:Nat→PL):Code→Option AC
 | .skip=>some .skip
 | .region id ops draw=>match ops.toList.mapM (eV P n md ops) with
  | some cs=>if draw=true then match pl id with
    | .one l=>if P.follows .mixedOrders=true∧qD ops cs l=true then some (.ops (l.map (az cs))) else none
    | .roam pre a post=>if P.follows .mixedOrders=true∧qG ops cs pre a post=true then some (.roam (az cs a) (pre.map fun e=>(!(az cs e).quiet,az cs e)) (post.map (az cs))) else none
   else some (.ops cs)
  | none=>none
 | .seq a b=>match dt P n md pl a,dt P n md pl b with
  | some a,some b=>some (.seq a b)
  | _,_=>none
 | .cond c a b=>match cX c,dt P n md pl a,dt P n md pl b with
  | some c,some a,some b=>some (.cond c a b)
  | _,_,_=>none
 | .block id a=>(dt P n md pl a).map (.block id)
 | .loop a=>(dt P n md pl a).map .loop
 | .exit id=>some (.exit id)
 | .ret=>some .ret
 | _=>none
def Ex.out:Ex→Exit
 | .normal=>.normal
 | .exit id=>.exit id
 | .ret=>.ret
theorem qc {P:Program} {n:Nat} {md:Tmp→Md} {ops:Array Oper} {cs:List AO} (h:ops.toList.mapM (eV P n md ops)=some cs):∀ (j:Nat) o t,ops[j]?=some o→o.dst=some t→t<n:=by
 intro j o t hj ht
 obtain ⟨h1,h2⟩:=eF h
 have hlt:j<cs.length:=by rw [←h1]; simpa using (Array.getElem?_eq_some_iff.1 hj).1
 exact (jM (h2 j o _ (by simpa using hj) (List.getElem?_eq_getElem hlt))).2.2.1 t ht
theorem wF {P:Program} {n:Nat} {md:Tmp→Md} {pl:Nat→PL} (c:Code):∀ (ac:AC),dt P n md pl c=some ac→∀ {Q:Ex→Slots→St→Prop} {sl:Slots} {s:St} {G:Gh} {w:World} {a:Act} {Q':Exit→Act→World→Prop},
  acW P ac Q sl s→Sim G s w→RepSl G sl a→n≤a.tmps.size →
  (∀ e sl' s' G' a' w',Q e sl' s'→Stp G s w G' s' w'→Sim G' s' w'→RepSl G' sl' a'→a'.tmps.size=a.tmps.size→a'.defers=a.defers→Q' e.out a' w')→c.wp P Q' a w:=by
 induction c with
 | skip=>
  intro ac h Q sl s G w a Q' hW hS hsl hn hQ
  simp only [dt] at h; injection h with h; subst h
  exact wp_skip (hQ .normal sl s G a w hW (Stp.refl G s w) hS hsl rfl rfl)
 | region id ops draw=>
  intro ac h Q sl s G w a Q' hW hS hsl hn hQ
  simp only [dt] at h
  split at h
  ·rename_i cs hcs
   split at h
   ·rename_i hd
    subst hd
    split at h
    ·split at h
     ·rename_i hp
      injection h with h; subst h
      exact v8 hp.1 (qc hcs) hcs hp.2 hW hS hsl hn fun sl' s' G' a' w' k1 k2 k3 k4 k5 k6=>hQ .normal sl' s' G' a' w' k1 k2 k3 k4 k5 k6
     ·cases h
    ·split at h
     ·rename_i hp
      injection h with h; subst h
      exact wn hp.1 (qc hcs) hcs hp.2 hW hS hsl hn fun sl' s' G' a' w' k1 k2 k3 k4 k5 k6=>hQ .normal sl' s' G' a' w' k1 k2 k3 k4 k5 k6
     ·cases h
   ·rename_i hd
    injection h with h; subst h
    have:draw=false:=by simpa using hd
    subst this
    exact wp_region_list (oA (qc hcs) ops.toList cs hcs hW hS hsl hn fun sl' s' G' a' w' k1 k2 k3 k4 k5 k6=>hQ .normal sl' s' G' a' w' k1 k2 k3 k4 k5 k6)
  ·cases h
 | seq x y ihx ihy=>
  intro ac h Q sl s G w a Q' hW hS hsl hn hQ
  simp only [dt] at h
  split at h
  ·rename_i x' y' h1 h2
   injection h with h; subst h
   simp only [acW] at hW
   refine wp_seq (ihx x' h1 hW hS hsl hn ?_)
   intro e sl' s' G' a' w' k1 k2 k3 k4 k5 k6
   cases e with
   | normal=>
    exact ihy y' h2 k1 k3 k4 (by rw [k5]; exact hn) fun e sl2 s2 G2 a2 w2 m1 m2 m3 m4 m5 m6=>hQ e sl2 s2 G2 a2 w2 m1 (k2.trans m2) m3 m4 (by rw [m5,k5]) (by rw [m6,k6])
   | exit id=>exact hQ _ sl' s' G' a' w' k1 k2 k3 k4 k5 k6
   | ret=>exact hQ _ sl' s' G' a' w' k1 k2 k3 k4 k5 k6
  ·cases h
 | cond x y z ihy ihz=>
  intro ac h Q sl s G w a Q' hW hS hsl hn hQ
  simp only [dt] at h
  split at h
  ·rename_i x' y' z' h0 h1 h2
   injection h with h; subst h
   simp only [acW] at hW
   split at hW
   ·rename_i t ht
    have hr:=ba hsl h0
    rw [ht] at hr
    obtain ⟨hv,_⟩:=bE hr
    refine wp_cond hv ?_
    cases t
    ·exact ihz z' h2 (by simpa using hW) hS hsl hn hQ
    ·exact ihy y' h1 (by simpa using hW) hS hsl hn hQ
   ·exact hW.elim
  ·cases h
 | block id x ih=>
  intro ac h Q sl s G w a Q' hW hS hsl hn hQ
  simp only [dt] at h
  obtain ⟨x',h1,rfl⟩:=ak h
  simp only [acW] at hW
  refine wp_block (ih x' h1 hW hS hsl hn ?_)
  intro e sl' s' G' a' w' k1 k2 k3 k4 k5 k6
  cases e with
  | normal=>exact hQ _ sl' s' G' a' w' k1 k2 k3 k4 k5 k6
  | exit i=>
   show (if i=id then Q' .normal a' w' else Q' (.exit i) a' w')
   simp only at k1
   split
   ·rename_i he
    rw [if_pos he] at k1
    exact hQ .normal sl' s' G' a' w' k1 k2 k3 k4 k5 k6
   ·rename_i he
    rw [if_neg he] at k1
    exact hQ (.exit i) sl' s' G' a' w' k1 k2 k3 k4 k5 k6
  | ret=>exact hQ _ sl' s' G' a' w' k1 k2 k3 k4 k5 k6
 | loop x ih=>
  intro ac h Q sl s G w a Q' hW hS hsl hn hQ
  simp only [dt] at h
  obtain ⟨x',h1,rfl⟩:=ak h
  simp only [acW] at hW
  obtain ⟨k,hk⟩:=hW
  refine wp_loop_rounds k ?_
  clear h
  induction k generalizing sl s G w a with
  | zero=>exact hk.elim
  | succ k ihk=>
   rw [rounds_succ]
   simp only [eE] at hk
   refine ih x' h1 hk hS hsl hn ?_
   intro e sl' s' G' a' w' k1 k2 k3 k4 k5 k6
   cases e with
   | normal=>
    exact ihk k3 k4 (by rw [k5]; exact hn) (fun e sl2 s2 G2 a2 w2 m1 m2 m3 m4 m5 m6=>hQ e sl2 s2 G2 a2 w2 m1 (k2.trans m2) m3 m4 (by rw [m5,k5]) (by rw [m6,k6])) k1
   | exit id=>exact hQ _ sl' s' G' a' w' k1 k2 k3 k4 k5 k6
   | ret=>exact hQ _ sl' s' G' a' w' k1 k2 k3 k4 k5 k6
 | exit id=>
  intro ac h Q sl s G w a Q' hW hS hsl hn hQ
  simp only [dt] at h; injection h with h; subst h
  exact wp_exit (hQ (.exit id) sl s G a w hW (Stp.refl G s w) hS hsl rfl rfl)
 | ret=>
  intro ac h Q sl s G w a Q' hW hS hsl hn hQ
  simp only [dt] at h; injection h with h; subst h
  exact wp_ret (hQ .ret sl s G a w hW (Stp.refl G s w) hS hsl rfl rfl)
 | _=>intro ac h; simp [dt] at h
inductive RX where
 | t (n:Nat)
 | l (n:Nat) (ag:Option Nat)
def jN (P:Program):ResultVar→Option RX
 | .tmp t=>some (.t t)
 | .cell a t=>(tAg P t).map (.l a)
def cRes (P:Program) (rs:Array ResultVar):Option (List RX):=rs.toList.mapM (jN P)
def bV (sl:Slots) (s:St):RX→Option AV
 | .t n=>some (sl n)
 | .l n ag=>ldI ag (sl n) s
def ee (rs:List RX) (sl:Slots) (s:St):Option AV:=match rs.mapM (bV sl s) with
 | some [v]=>some v
 | some vs=>some (.tup vs)
 | none=>none
inductive RM where
 | frz | keep | fresh
def dm (rm:RM) (s0:St) (r:AV) (s:St):Option (AV×St):=match rm with
 | .frz=>(fzR r s).map fun p=>(p.1,{ h:=retH s0.c s0.h p.2.h,c:=p.2.c })
 | .keep=>some (r,s)
 | .fresh=>match r with
  | .row g sz off len=>match s.h g with
   | some (.row _ _ .live none)=>some (r,{ h:=upd (retH s0.c s0.h s.h) g (s.h g),c:=s.c })
   | _=>none
  | _=>none
def rv1 (tmps:Array Value):ResultVar→Sem Value
 | .tmp t=>pure (tmps.getD t undef)
 | .cell p t=>do loadVar t (←asAddr (tmps.getD p undef))
theorem uX {P:Program} {G:Gh} {s:St} {w:World} {sl:Slots} {a:Act} (hS:Sim G s w) (hsl:RepSl G sl a) {rv:ResultVar} {rx:RX} {av:AV} (hc:jN P rv=some rx) (h:bV sl s rx=some av) :
  ∃ v,(rv1 a.tmps rv).run P w=.ok v w∧Rep G av v:=by
 cases rv with
 | tmp t=>
  simp only [jN] at hc; injection hc with hc; subst hc
  simp only [bV] at h; injection h with h; subst h
  exact ⟨_,rfl,hsl t⟩
 | cell p t=>
  simp only [jN] at hc
  obtain ⟨ag,hag,rfl⟩:=ak hc
  simp only [bV] at h
  obtain ⟨q,v,h1,h2,h3⟩:=tp (P:=P) hag h (hsl p) hS
  refine ⟨v,?_,h3⟩
  simp only [rv1,h1,asAddr,Sem.run_bind,Sem.run_pure,Result.andThen_ok]
  exact h2
theorem rW {P:Program} {G:Gh} {s:St} {w:World} {sl:Slots} {a:Act} (hS:Sim G s w) (hsl:RepSl G sl a):∀ (rvs:List ResultVar) (rxs:List RX) (avs:List AV),rvs.mapM (jN P)=some rxs→rxs.mapM (bV sl s)=some avs →
  ∃ vs,(rvs.mapM (rv1 a.tmps)).run P w=.ok vs w∧RepL G avs vs
 | [],rxs,avs,h1,h2=>by
  simp at h1; subst h1; simp at h2; subst h2
  exact ⟨[],by simp,RepL.nil G⟩
 | rv::rvs,rxs,avs,h1,h2=>by
  rw [List.mapM_cons] at h1
  cases e1:jN P rv with
  | none=>simp [e1] at h1
  | some rx=>
   cases e2:rvs.mapM (jN P) with
   | none=>simp [e1,e2] at h1
   | some rxs'=>
    simp [e1,e2] at h1; subst h1
    rw [List.mapM_cons] at h2
    cases e3:bV sl s rx with
    | none=>simp [e3] at h2
    | some av=>
     cases e4:rxs'.mapM (bV sl s) with
     | none=>simp [e3,e4] at h2
     | some avs'=>
      simp [e3,e4] at h2; subst h2
      obtain ⟨v,q1,q2⟩:=uX (P:=P) hS hsl e1 e3
      obtain ⟨vs,q3,q4⟩:=rW hS hsl rvs rxs' avs' e2 e4
      refine ⟨v::vs,?_,RepL.cons q2 q4⟩
      rw [List.mapM_cons]
      simp [q1,q3]
theorem wm {P:Program} {G:Gh} {s:St} {w:World} {sl:Slots} {a:Act} (hS:Sim G s w) (hsl:RepSl G sl a) {fn:Func} {rxs:List RX} {av:AV} (hc:cRes P fn.results=some rxs) (h:ee rxs sl s=some av) :
  ∃ v,(results fn a.tmps).run P w=.ok v w∧Rep G av v:=by
 unfold ee at h
 cases hm:rxs.mapM (bV sl s) with
 | none=>simp [hm] at h
 | some avs=>
  obtain ⟨vs,h1,h2⟩:=rW (P:=P) hS hsl fn.results.toList rxs avs hc hm
  have hrun:(fn.results.mapM (rv1 a.tmps)).run P w=.ok vs.toArray w:=by
   rw [Array.mapM_eq_mapM_toList]
   simp [h1]
  have hres:results fn a.tmps=(fn.results.mapM (rv1 a.tmps) >>= fun vs=>pure (if h:vs.size=1 then vs[0] else .tuple vs)):=by
   unfold results
   congr 1
  simp only [hm] at h
  rw [hres]
  simp only [Sem.run_bind,hrun,Result.andThen_ok]
  split at h
  ·rename_i v0 he
   injection he with he; subst he
   injection h with h; subst h
   have hl:=h2.1
   match vs,hl,h2 with
   | [v],_,h2=>exact ⟨v,by simp,h2.2 0 _ v rfl rfl⟩
  ·rename_i vs' hne he
   injection he with he; subst he
   injection h with h; subst h
   refine ⟨.tuple vs.toArray,?_,h2.toTup⟩
   rw [dif_neg]
   ·rfl
   ·intro hs
    have hl:=h2.1
    simp at hs
    match avs,hl with
    | [x],_=>exact hne x rfl
    | [],hl=>simp at hl; omega
    | _::_::_,hl=>simp at hl; omega
  ·cases h
theorem se {G G0:Gh} {s s0 s':St} {w w0:World} {rm:RM} {r av:AV} {v:Value} (hS0:Sim G0 s0 w0) (hT:Stp G0 s0 w0 G s w) (hS:Sim G s w) (hr:Rep G r v) (h:dm rm s0 r s=some (av,s')) :
  ∃ G',Stp G0 s0 w0 G' s' w∧Sim G' s' w∧Rep G' av v:=by
 have hn:∀ k,s0.c≤k→s0.h k=none:=by
  intro k hk
  cases hh:s0.h k with
  | none=>rfl
  | some b=>have:=hS0.hLt hh; omega
 cases rm with
 | frz=>
  simp only [dm] at h
  obtain ⟨p,hp,he⟩:=ak h
  injection he with e1 e2; subst e1; subst e2
  obtain ⟨G1,a1,a2,a3⟩:=wL (v':=p.1) (s':=p.2) hp hr hS
  refine ⟨G1,(hT.trans a1).trans (Stp.sub (Nat.le_refl _) ?_),a2.ret hn,a3⟩
  intro g b hg
  have hg':retH s0.c s0.h p.2.h g=some b:=hg
  unfold retH at hg'
  split at hg'
  ·exact hg'
  ·rw [hn g (by omega)] at hg'; cases hg'
 | keep=>
  simp only [dm] at h; injection h with h; injection h with e1 e2; subst e1; subst e2
  exact ⟨G,hT,hS,hr⟩
 | fresh=>
  simp only [dm] at h
  split at h
  ·rename_i g sz off len
   split at h
   ·rename_i sz' es hg
    injection h with h; injection h with e1 e2; subst e1; subst e2
    have hsub:∀ k b,upd (retH s0.c s0.h s.h) g (s.h g) k=some b→s.h k=some b∧(k=g∨k<s0.c):=by
     intro k b hk
     unfold upd at hk
     split at hk
     ·rename_i e; subst e; exact ⟨hk,.inl rfl⟩
     ·unfold retH at hk
      split at hk
      ·exact ⟨hk,.inr ‹_›⟩
      ·rw [hn k (by omega)] at hk; cases hk
    refine ⟨G,hT.trans (Stp.sub (Nat.le_refl _) fun k b hk=>(hsub k b hk).1),hS.sub (Nat.le_refl _) (fun k b hk=>(hsub k b hk).1) ?_,hr⟩
    intro i j bi bj li lj hij hi hj hli hlj he hci hcj sz2 k es2 par h1 h2 b hb
    show upd (retH s0.c s0.h s.h) g (s.h g) k=some b
    unfold upd
    split
    ·rename_i e; subst e; exact hb
    ·unfold retH
     rw [if_pos]
     ·exact hb
     ·rcases (hsub j bj hj).2 with e | hlt
      ·subst e
       obtain ⟨_,_,_,_,_,_,_,_,_,_,p,h6,_⟩:=hS.ov i j bi bj li lj hij (hsub i bi hi).1 (hsub j bj hj).1 hli hlj he hci hcj
       rw [hg] at h6; injection h6 with h6; injection h6 with _ _ _ h6; cases h6
      ·omega
   ·cases h
  ·cases h
def nP (args:List AV):Slots:=fun t=>(args[t]?).getD .undef
def ma (rm:RM) (rxs:List RX) (s:St) (R:AV→St→Prop):Ex→Slots→St→Prop:=fun e sl s'=>match e with
 | .exit _=>False
 | _=>match ee rxs sl s' with
  | some r=>match dm rm s r s' with
   | some (av,s'')=>R av s''
   | none=>False
  | none=>False
theorem ae {P:Program} {f:FuncId} {fn:Func} {c:Code} {ac:AC} {rxs:List RX} {md:Tmp→Md} (rm:RM) (hcall:∀ (vs:Array Value) (w:World),(callFunc f vs).run P w=.ok (.enter f vs) w) (hf:P.funcs[f]?=some fn) (hb:fn.body=some c)
  {pl:Nat→PL} (hc:dt P fn.ntmps md pl c=some ac) (hr:cRes P fn.results=some rxs) {args:List AV} {s:St} {R:AV→St→Prop}
  (h:acW P ac (ma rm rxs s R) (nP args) s):ACalls P f args s R:=by
 intro G w vs hS hv
 unfold CallOk
 rw [hcall]
 refine calls_of_wp hf hb ?_
 refine wF c ac hc h hS ?_ (by simp; omega) ?_
 ·intro t
  show Rep G ((args[t]?).getD .undef) _
  cases ha:args[t]? with
  | none=>exact .undef _
  | some av=>
   obtain ⟨v,hv1,hv2⟩:=hv.get ha
   have hlt:t<vs.length:=(List.getElem?_eq_some_iff.1 hv1).1
   have:(vs.toArray++Array.replicate (fn.ntmps-vs.toArray.size) undef).getD t undef=v:=by
    rw [Array.getD_eq_getD_getElem?,Array.getElem?_append_left (by simpa using hlt)]
    simp [hv1]
   simp only [Option.getD_some]
   rw [this]; exact hv2
 ·intro e sl' s' G' a' w' k1 k2 k3 k4 k5 k6
  have fin:(match ee rxs sl' s' with
    | some r=>match dm rm s r s' with
     | some (av,s'')=>R av s''
     | none=>False
    | none=>False)→a'.defers=[]∧∃ v,(results fn a'.tmps).run P w'=.ok v w'∧∃ av G'' s'',Stp G s w G'' s'' w'∧Sim G'' s'' w'∧Rep G'' av v∧R av s'':=by
   intro hk
   split at hk
   ·rename_i r hr'
    split at hk
    ·rename_i av s'' hfc
     obtain ⟨v,q1,q2⟩:=wm (P:=P) k3 k4 hr hr'
     obtain ⟨G2,q3,q4,q5⟩:=se hS k2 k3 q2 hfc
     exact ⟨by rw [k6],v,q1,av,G2,s'',q3,q4,q5,hk⟩
    ·exact hk.elim
   ·exact hk.elim
  cases e with
  | normal=>exact fin k1
  | ret=>exact fin k1
  | exit id=>exact k1.elim
end Go.AM
namespace Go.AM
theorem cV {P:Program}:∀ (l:List AO) {K K':Slots→St→Prop} {sl:Slots} {s:St},aM P l K sl s→(∀ sl s,K sl s→K' sl s)→aM P l K' sl s
 | [],_,_,_,_,h,hk=>hk _ _ h
 | o::r,_,_,_,_,h,hk=>by
  simp only [aM] at h ⊢
  split at h
  ·exact cV r h hk
  ·refine fX h fun v s' hv=>?_
   split at hv
   ·exact ⟨hv.1,cV r hv.2 hk⟩
   ·exact hv
  ·exact h
theorem hO {P:Program} {a:AO} {post:List AO}:∀ (r:List (Bool×AO)) {K K':Slots→St→Prop} {sl:Slots} {s:St},ce P a post K r sl s→(∀ sl s,K sl s→K' sl s)→ce P a post K' r sl s
 | [],_,_,_,_,h,hk=>cV _ h hk
 | (b,e)::r,_,_,_,_,h,hk=>⟨fun hb=>cV _ (h.1 hb) hk,cV _ h.2 fun sl s h'=>hO r h' hk⟩
theorem nq {F:(Ex→Slots→St→Prop)→Slots→St→Prop} (hF:∀ (Q Q':Ex→Slots→St→Prop) (sl:Slots) (s:St),F Q sl s→(∀ e sl s,Q e sl s→Q' e sl s)→F Q' sl s):∀ (n:Nat) {Q Q':Ex→Slots→St→Prop} {sl:Slots} {s:St},
  eE F Q n sl s→(∀ e sl s,Q e sl s→Q' e sl s)→eE F Q' n sl s
 | 0,_,_,_,_,h,_=>h
 | n+1,_,_,_,_,h,hq=>by
  simp only [eE] at h ⊢
  refine hF _ _ _ _ h fun e sl s he=>?_
  cases e with
  | normal=>exact nq hF n he hq
  | exit id=>exact hq _ _ _ he
  | ret=>exact hq _ _ _ he
theorem bL {P:Program}:∀ (a:AC) {Q Q':Ex→Slots→St→Prop} {sl:Slots} {s:St},acW P a Q sl s→(∀ e sl s,Q e sl s→Q' e sl s)→acW P a Q' sl s
 | .skip,_,_,_,_,h,hq=>hq _ _ _ h
 | .ops l,_,_,_,_,h,hq=>cV l h (hq .normal)
 | .roam a pre post,_,_,_,_,h,hq=>hO pre h (hq .normal)
 | .seq a b,_,_,_,_,h,hq=>by
  simp only [acW] at h ⊢
  refine bL a h fun e sl s he=>?_
  cases e with
  | normal=>exact bL b he hq
  | exit id=>exact hq _ _ _ he
  | ret=>exact hq _ _ _ he
 | .cond c a b,_,_,_,_,h,hq=>by
  simp only [acW] at h ⊢
  split at h
  ·split at h
   ·rename_i ht; simp only [ht,if_true]; exact bL a h hq
   ·rename_i ht; simp only [ht]; exact bL b h hq
  ·exact h
 | .block id a,_,_,_,_,h,hq=>by
  simp only [acW] at h ⊢
  refine bL a h fun e sl s he=>?_
  cases e with
  | normal=>exact hq _ _ _ he
  | exit i=>
   simp only at he ⊢
   split at he
   ·rename_i hi; rw [if_pos hi]; exact hq _ _ _ he
   ·rename_i hi; rw [if_neg hi]; exact hq _ _ _ he
  | ret=>exact hq _ _ _ he
 | .loop a,_,_,_,_,h,hq=>by
  simp only [acW] at h ⊢
  obtain ⟨n,hn⟩:=h
  exact ⟨n,nq (F:=acW P a) (fun _ _ _ _ h k=>bL a h k) n hn hq⟩
 | .exit id,_,_,_,_,h,hq=>hq _ _ _ h
 | .ret,_,_,_,_,h,hq=>hq _ _ _ h
theorem fP {P:Program} {a:AC} {Q:Ex→Slots→St→Prop} (Inv:Nat→Slots→St→Prop) (n:Nat) {sl:Slots} {s:St} (h0:Inv n sl s)
  (step:∀ n sl s,Inv n sl s→acW P a (fun e sl' s'=>match e with | .normal=>∃ m,m<n∧Inv m sl' s' | e=>Q e sl' s') sl s):acW P (.loop a) Q sl s:=by
 have key:∀ k n sl s,n<k→Inv n sl s→eE (acW P a) Q k sl s:=by
  intro k
  induction k with
  | zero=>intro n sl s h; omega
  | succ k ih=>
   intro n sl s hn hi
   simp only [eE]
   refine bL a (step n sl s hi) fun e sl' s' he=>?_
   cases e with
   | normal=>obtain ⟨m,hm,hi'⟩:=he; exact ih m sl' s' (by omega) hi'
   | exit id=>exact he
   | ret=>exact he
 exact ⟨n+1,key (n+1) n sl s (Nat.lt_succ_self n) h0⟩
@[simp] theorem zZ {sl:Slots} {d:Nat} {v:AV} {k:Nat}:put sl (some d) v k=if k=d then v else sl k:=Eq.trans rfl rfl
@[simp] theorem zY {sl:Slots} {v:AV}:put sl none v=sl:=Eq.trans rfl rfl
@[simp] theorem X_ev_t {sl:Slots} {n:Nat}:(X.t n).ev sl=sl n:=Eq.trans rfl rfl
@[simp] theorem X_ev_c {sl:Slots} {v:AV}:(X.c v).ev sl=v:=Eq.trans rfl rfl
@[simp] theorem X_ev_f {sl:Slots} {n:Nat}:(X.f n).ev sl=.fn (.func n) [] []:=Eq.trans rfl rfl
@[simp] theorem yB {args:List AV} {t:Nat}:nP args t=(args[t]?).getD .undef:=Eq.trans rfl rfl
@[simp] theorem zM {sl:Slots}:gdI none sl=some true:=Eq.trans rfl rfl
@[simp] theorem zN {sl:Slots} {t:Nat} {b:Bool}:gdI (some (t,b)) sl=(match sl t with
  | .sc (.bool b')=>some (b'==b)
  | .tup []=>some false
  | _=>none):=Eq.trans rfl rfl
theorem ay {c:Nat} {h h':Heap} (hb:∀ k,k<c→h' k=h k):retH c h h'=h:=by
 funext k
 unfold retH
 split
 ·rename_i hk; exact hb k hk
 ·rfl
@[simp] theorem kS {c:Nat} {h:Heap}:retH c h h=h:=ay fun _ _=>rfl
theorem jW {c g:Nat} {h h':Heap} {b:Option Body} (hg:c≤g):retH c h (upd h' g b)=retH c h h':=by
 funext k
 unfold retH upd
 split
 ·rw [if_neg (by omega)]
 ·rfl
@[simp] theorem af {h:Heap} {g:Nat} {b:Option Body}:upd h g b g=b:=by simp [upd]
theorem ad {h:Heap} {g k:Nat} {b:Option Body} (hk:k≠g):upd h g b k=h k:=by simp [upd,hk]
@[simp] theorem zz {h:Heap} {g:Nat} {b b':Option Body}:upd (upd h g b) g b'=upd h g b':=by
 funext k; unfold upd; split <;> rfl
end Go.AM
