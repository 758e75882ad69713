/- Part of the claim: see its last text. -/
import Derived.Test.YtjhogglgkjcacaaGreatMa13
import Derived.Orders
set_option linter.all false
namespace Go.AM
def I.xs:I→List X
 | .mv x | .bx x _ | .ld _ x | .nc x | .un _ x | .cv _ x | .fa _ x | .fd _ _ x | .ex x _ | .len _ x | .mi _ x | .rg x | .nx x | .nt x | .cl _ _ x | .ta _ x=>[x]
 | .pk a b c | .mu _ a b c=>[a,b,c]
 | .al _ | .mm=>[]
 | .bd _ ps=>ps.map (·.2.2)
 | .bs _ _ _ ps=>ps.map (·.2)
 | .st _ a b | .bin _ _ a b | .ms _ _ _ a b | .ia _ a b | .ix a b | .lk _ _ _ a b | .ap _ _ a b | .cp _ a b | .dl _ a b=>[a,b]
 | .mf _ a b=>a++b
 | .ss x a b=>x::(a.toList++b.toList)
 | .sr _ x a b c=>x::(a.toList++b.toList++c.toList)
 | .mx l | .mn l=>l
 | .call _ l=>l
 | .callv x l=>x::l
 | .inv _ x l=>x::l
theorem iC {l:List X} {sl sl':Slots} (h:∀ x∈l,x.ev sl=x.ev sl'):l.map (·.ev sl)=l.map (·.ev sl'):=List.map_congr_left h
theorem kP {o:Option X} {sl sl':Slots} (h:∀ x∈o.toList,x.ev sl=x.ev sl'):o.map (·.ev sl)=o.map (·.ev sl'):=by
 cases o with
 | none=>rfl
 | some x=>simp [h x (by simp)]
theorem jo {i:I} {md:Md} {sl sl':Slots} {s:St} (h:∀ x∈i.xs,x.ev sl=x.ev sl'):aH i md sl s=aH i md sl' s:=by
 cases i <;> simp only [I.xs,List.mem_cons,List.mem_append,List.not_mem_nil,or_false,forall_eq_or_imp,forall_eq] at h <;> simp only [aH]
 case bd zs ps=>
  have:ps.map (fun (x:Nat×Nat×X)=>(x.1,x.2.1,x.2.2.ev sl))=ps.map (fun (x:Nat×Nat×X)=>(x.1,x.2.1,x.2.2.ev sl')):=List.map_congr_left fun p hp=>by rw [h _ (List.mem_map.2 ⟨p,hp,rfl⟩)]
  simp only [this]
 case bs sz zs n ps=>
  have:ps.map (fun (x:Nat×X)=>(x.1,x.2.ev sl))=ps.map (fun (x:Nat×X)=>(x.1,x.2.ev sl')):=List.map_congr_left fun p hp=>by rw [h _ (List.mem_map.2 ⟨p,hp,rfl⟩)]
  simp only [this]
 case mf f a b=>rw [iC (l:=a) fun x hx=>h x (.inl hx),iC (l:=b) fun x hx=>h x (.inr hx)]
 case ss x a b=>rw [h.1,kP (o:=a) fun x hx=>h.2 x (.inl hx),kP (o:=b) fun x hx=>h.2 x (.inr hx)]
 case sr sz x a b c=>rw [h.1,kP (o:=a) fun x hx=>h.2 x (.inl (.inl hx)),kP (o:=b) fun x hx=>h.2 x (.inl (.inr hx)),kP (o:=c) fun x hx=>h.2 x (.inr hx)]
 case mv x=>
  have:mvI md x sl=mvI md x sl':=by
   unfold mvI
   split
   ·rfl
   ·exact h
  rw [this]
 case mx l=>rw [iC h]
 case mn l=>rw [iC h]
 all_goals first | rfl | (rw [h]; done) | (rw [h.1,h.2]; done) | (rw [h.1,h.2.1,h.2.2]; done) | (simp only [h]; done)
def X.slot:X→Option Nat
 | .t n=>some n
 | _=>none
def AO.looks (o:AO):List Nat:=o.i.xs.filterMap X.slot++(match o.grd with | some (t,_)=>[t] | none=>[])
theorem uH {x:X} {sl sl':Slots} (h:∀ t,x.slot=some t→sl t=sl' t):x.ev sl=x.ev sl':=by
 cases x with
 | t n=>exact h n rfl
 | c v=>rfl
 | f n=>rfl
def Alike (o:AO) (sl sl':Slots):Prop:=∀ t∈o.looks,sl t=sl' t
theorem Alike.xs {o:AO} {sl sl':Slots} (h:Alike o sl sl'):∀ x∈o.i.xs,x.ev sl=x.ev sl':=fun x hx=>uH fun t ht=>h t (by
 simp only [AO.looks,List.mem_append,List.mem_filterMap]
 exact .inl ⟨x,hx,ht⟩)
theorem Alike.grd {o:AO} {sl sl':Slots} (h:Alike o sl sl'):gdI o.grd sl=gdI o.grd sl':=by
 unfold gdI
 split
 ·rfl
 ·rename_i t b hg
  rw [h t (by simp [AO.looks,hg])]
theorem tz {P:Program} {o:AO} {sl sl':Slots} {s:St} {K:AV→St→Prop} (h:Alike o sl sl'):opW P o sl s K=opW P o sl' s K:=by
 have hx:=h.xs
 unfold opW
 split
 ·rename_i f args hi
  rw [hi] at hx
  simp only [I.xs] at hx
  unfold cD
  rw [iC hx]
  have:args.map (fun x=>norm (x.ev sl))=args.map (fun x=>norm (x.ev sl')):=List.map_congr_left fun x hxm=>by rw [hx x hxm]
  rw [this]
 ·rename_i x args hi
  rw [hi] at hx
  simp only [I.xs,List.mem_cons,forall_eq_or_imp] at hx
  unfold cD
  rw [hx.1,iC hx.2]
  have:args.map (fun x=>norm (x.ev sl))=args.map (fun x=>norm (x.ev sl')):=List.map_congr_left fun x hxm=>by rw [hx.2 x hxm]
  rw [this]
 ·rename_i op x y hi
  rw [hi] at hx
  rw [hx x (by simp [I.xs])]
 ·rename_i x hi
  rw [hi] at hx
  rw [hx x (by simp [I.xs])]
 ·rename_i tab x args hi
  rw [hi] at hx
  simp only [I.xs,List.mem_cons,forall_eq_or_imp] at hx
  unfold cD
  rw [hx.1,iC hx.2]
  have:args.map (fun x=>norm (x.ev sl))=args.map (fun x=>norm (x.ev sl')):=List.map_congr_left fun x hxm=>by rw [hx.2 x hxm]
  rw [this]
 ·rw [jo hx]
theorem fX {P:Program} {o:AO} {sl:Slots} {s:St} {K K':AV→St→Prop} (h:opW P o sl s K) (hk:∀ v s',K v s'→K' v s'):opW P o sl s K':=by
 unfold opW at *
 split at h
 ·exact h.mono fun v s' _=>hk v s'
 ·split at h
  ·exact ACalls.mono h fun v s' _=>hk v s'
  ·exact h
 ·unfold jC at *
  refine ⟨h.1,?_⟩
  have h:=h.2
  split at h
  ·exact hk _ _ h
  ·exact hk _ _ h
  ·exact ⟨hk _ _ h.1,hk _ _ h.2⟩
  ·exact ⟨hk _ _ h.1,hk _ _ h.2⟩
  ·exact hk _ _ h
  ·exact h
 ·unfold nxW at *
  split at h
  ·split at h
   ·split at h
    ·exact ⟨h.1,fun hh=>hk _ _ (h.2.1 hh),fun i p h1 h2=>hk _ _ (h.2.2 i p h1 h2)⟩
    ·exact h
   ·exact h
  ·exact h
 ·split at h
  ·split at h
   ·exact ACalls.mono h fun v s' _=>hk v s'
   ·split at h
    ·exact ACalls.mono h fun v s' _=>hk v s'
    ·exact h
   ·exact h
  ·exact h
 ·split at h
  ·exact hk _ _ h
  ·exact h
def cO:I→Bool
 | .bin .slNil _ _ _=>false
 | .mv _ | .pk .. | .bd .. | .bs .. | .nc _ | .bin .. | .un .. | .mf .. | .ss .. | .sr .. | .fa .. | .fd .. | .ia .. | .ix .. | .ex .. | .mx _ | .mn _ | .mi ..=>true
 | .cv .b2s _=>false
 | .cv ..=>true
 | .len 2 _=>false
 | .len ..=>true
 | _=>false
def fG:I→Bool
 | .ld .. | .lk .. | .nt _=>true
 | .cv .b2s _=>true
 | .len 2 _=>true
 | _=>false
theorem iX {i:I} (hi:cO i=true) {sl:Slots} {s s':St} {v:AV} (h:aH i .plain sl s=some (v,s')):s'=s∧∀ s1,aH i .plain sl s1=some (v,s1):=by
 have rd:∀ {x:Option AV},x.map (·,s)=some (v,s')→s'=s∧∀ s1:St,x.map (·,s1)=some (v,s1):=by
  intro x hx
  obtain ⟨b,h1,h2⟩:=ak hx
  injection h2 with h2 h3
  exact ⟨h3.symm,fun s1=>by rw [h1,←h2]; rfl⟩
 cases i <;> (try simp only [cO] at hi) <;> first | (cases hi; done) | skip
 case mv x=>simp only [aH] at h ⊢; injection h with h; injection h with h1 h2; subst h1; subst h2; exact ⟨rfl,fun _=>rfl⟩
 case pk c a b=>
  simp only [aH] at h ⊢
  split at h
  ·injection h with h; injection h with h1 h2; subst h1; subst h2; exact ⟨rfl,fun _=>rfl⟩
  ·cases h
 case bs sz zs n ps=>
  simp only [aH,bsI] at h ⊢
  split at h
  ·rename_i hc
   split at h
   ·rename_i es he
    rw [if_neg (by simp)] at h
    injection h with h; injection h with h1 h2; subst h1; subst h2
    exact ⟨rfl,fun s1=>by rw [if_pos hc]; simp⟩
   ·cases h
  ·cases h
 case nc x=>
  simp only [aH] at h ⊢
  split at h <;> first
   | (injection h with h; injection h with h1 h2; subst h1; subst h2; exact ⟨rfl,fun _=>rfl⟩)
   | cases h
 case mf f a b=>simp only [aH] at h ⊢; injection h with h; injection h with h1 h2; subst h1; subst h2; exact ⟨rfl,fun _=>rfl⟩
 case mi t x=>
  simp only [aH] at h ⊢
  split at h
  ·rename_i hv
   injection h with h; injection h with h1 h2; subst h1; subst h2
   exact ⟨rfl,fun _=>by rw [if_pos hv]⟩
  ·cases h
 case cv k x=>
  cases k <;> simp only [cO] at hi <;> first | (cases hi; done) | skip
  all_goals
   simp only [aH] at h ⊢
   obtain ⟨h1,h2⟩:=rd h
   refine ⟨h1,fun s1=>?_⟩
   have:=h2 s1
   subst h1
   rw [show ∀ kk,kk≠CK.b2s→cvI kk (x.ev sl) s1=cvI kk (x.ev sl) s' from fun kk hk=>by unfold cvI; split <;> first | rfl | (exact absurd rfl hk)]
   ·exact h2 s1
   ·intro hk; cases hk
 case len k x=>
  simp only [aH] at h ⊢
  obtain ⟨h1,h2⟩:=rd h
  refine ⟨h1,fun s1=>?_⟩
  have:=h2 s1
  subst h1
  have hk:k≠2:=by rintro rfl; simp [cO] at hi
  have:dT k (x.ev sl) s1=dT k (x.ev sl) s':=by
   unfold dT
   split <;> first | rfl | (exact absurd rfl hk)
  rw [this]; exact h2 s1
 all_goals (simp only [aH] at h ⊢; exact rd h)
theorem pg {i:I} (hi:fG i=true) {sl:Slots} {s s':St} {v:AV} (h:aH i .plain sl s=some (v,s')):s'=s:=by
 have rd:∀ {x:Option AV},x.map (·,s)=some (v,s')→s'=s:=by
  intro x hx
  obtain ⟨b,h1,h2⟩:=ak hx
  injection h2 with h2 h3
  exact h3.symm
 cases i <;> simp only [fG] at hi <;> first | (cases hi; done) | skip
 all_goals (simp only [aH] at h; exact rd h)
def AO.quiet (o:AO):Bool:=o.md==.plain&&o.re.isEmpty&&(cO o.i||fG o.i)
def gP (q:AO) (sl:Slots) (s:St):Option AV:=match gdI q.grd sl with
 | some false=>some (.tup [])
 | some true=>(aH q.i .plain sl s).map (·.1)
 | none=>none
theorem cR {i:I} (h:(cO i||fG i)=true):(∀ f a,i≠.call f a)∧(∀ x a,i≠.callv x a)∧(∀ op x y,i≠.bin .slNil op x y)∧(∀ x,i≠.nx x)∧∀ tab x a,i≠.inv tab x a:=by
 refine ⟨?_,?_,?_,?_,?_⟩
 ·rintro f a rfl; simp [cO,fG] at h
 ·rintro x a rfl; simp [cO,fG] at h
 ·rintro op x y rfl; simp [cO,fG] at h
 ·rintro x rfl; simp [cO,fG] at h
 ·rintro tab x a rfl; simp [cO,fG] at h
theorem so {P:Program} {q:AO} (hq:q.quiet=true) {r:List AO} {K:Slots→St→Prop} {sl:Slots} {s:St}:aM P (q::r) K sl s↔∃ v,gP q sl s=some v∧aM P r K (put sl q.dst v) s:=by
 simp only [AO.quiet,Bool.and_eq_true,beq_iff_eq,List.isEmpty_iff] at hq
 obtain ⟨⟨h1,h2⟩,h3⟩:=hq
 simp only [aM,gP]
 cases hg:gdI q.grd sl with
 | none=>simp
 | some b=>
  cases b with
  | false=>simp
  | true=>
   simp only
   have hop:∀ K':AV→St→Prop,opW P q sl s K'↔match aH q.i .plain sl s with | some (v,s')=>K' v s' | none=>False:=by
    intro K'
    unfold opW
    split
    ·rename_i f a hi; exact absurd hi ((cR h3).1 f a)
    ·rename_i x a hi; exact absurd hi ((cR h3).2.1 x a)
    ·rename_i op x y hi; exact absurd hi ((cR h3).2.2.1 op x y)
    ·rename_i x hi; exact absurd hi ((cR h3).2.2.2.1 x)
    ·rename_i tab x a hi; exact absurd hi ((cR h3).2.2.2.2 tab x a)
    ·rw [h1]; exact Iff.rfl
   rw [hop]
   cases hs:aH q.i .plain sl s with
   | none=>simp
   | some p=>
    obtain ⟨v,s'⟩:=p
    have:s'=s:=by
     rcases (by simpa using h3:cO q.i=true∨fG q.i=true) with hp | hp
     ·exact (iX hp hs).1
     ·exact pg hp hs
    subst this
    simp [h1,h2,cF]
def gQ:List AO→Slots→St→Option Slots
 | [],sl,s=>some sl
 | q::r,sl,s=>match gP q sl s with
  | some v=>gQ r (put sl q.dst v) s
  | none=>none
theorem gI {P:Program}:∀ (A:List AO) (hA:∀ q∈A,q.quiet=true) {r:List AO} {K:Slots→St→Prop} {sl:Slots} {s:St},aM P (A++r) K sl s↔∃ sl',gQ A sl s=some sl'∧aM P r K sl' s
 | [],_,r,K,sl,s=>by simp [gQ]
 | q::A,hA,r,K,sl,s=>by
  rw [List.cons_append,so (hA q (by simp))]
  simp only [gQ]
  cases hv:gP q sl s with
  | none=>simp
  | some v=>
   simp only [Option.some.injEq,exists_eq_left']
   exact gI A (fun q hq=>hA q (by simp [hq]))
theorem su {q:AO} {sl sl':Slots} {s:St} (h:Alike q sl sl'):gP q sl s=gP q sl' s:=by
 unfold gP
 rw [h.grd,jo h.xs]
def gV (x y:AO):Bool:=
 (match x.dst with | some d=>!y.looks.contains d&&y.dst != some d | none=>true)&&(match y.dst with | some d=>!x.looks.contains d | none=>true)
theorem lI {x y:AO} (h:gV x y=true) {sl:Slots} {v:AV}:Alike y (put sl x.dst v) sl∧Alike x (put sl y.dst v) sl:=by
 simp only [gV,Bool.and_eq_true] at h
 constructor
 ·intro t ht
  cases hd:x.dst with
  | none=>rfl
  | some d=>
   rw [hd] at h
   have:t≠d:=by
    rintro rfl
    have:=h.1
    simp at this
    exact this.1 ht
   simp [put,this]
 ·intro t ht
  cases hd:y.dst with
  | none=>rfl
  | some d=>
   rw [hd] at h
   have:t≠d:=by
    rintro rfl
    have:=h.2
    simp at this
    exact this ht
   simp [put,this]
theorem sI {x y:AO} (h:gV x y=true):∀ d,x.dst=some d→y.dst≠some d:=by
 intro d hd
 simp only [gV,Bool.and_eq_true,hd] at h
 have:=h.1
 simp at this
 exact this.2
theorem uW {sl:Slots} {d e:Option Nat} (h:∀ t,d=some t→e≠some t) (u v:AV):put (put sl d u) e v=put (put sl e v) d u:=by
 cases d with
 | none=>rfl
 | some d=>
  cases e with
  | none=>rfl
  | some e=>
   have hne:d≠e:=by rintro rfl; exact h d rfl rfl
   funext k
   simp only [put]
   by_cases h1:k=e
   ·by_cases h2:k=d
    ·exact absurd (h2.symm.trans h1) hne
    ·simp [h1,Ne.symm hne]
   ·simp [h1]
theorem Alike.trans {o:AO} {a b c:Slots} (h:Alike o a b) (k:Alike o b c):Alike o a c:=fun t ht=>(h t ht).trans (k t ht)
theorem Alike.symm {o:AO} {a b:Slots} (h:Alike o a b):Alike o b a:=fun t ht=>(h t ht).symm
theorem iG {x:AO} {s:St} {v:AV}:∀ (A:List AO) (hA:∀ q∈A,gV q x=true) {sl sl':Slots},gQ A sl s=some sl'→gQ A (put sl x.dst v) s=some (put sl' x.dst v)∧Alike x sl' sl
 | [],_,sl,sl',h=>by simp [gQ] at h; subst h; exact ⟨rfl,fun _ _=>rfl⟩
 | q::A,hA,sl,sl',h=>by
  have hq:=hA q (by simp)
  simp only [gQ] at h ⊢
  have hal:=lI hq (sl:=sl) (v:=v)
  rw [su hal.2]
  split at h
  ·rename_i u hu
   obtain ⟨h1,h2⟩:=iG (x:=x) (v:=v) A (fun p hp=>hA p (by simp [hp])) h
   rw [uW (sI hq)] at h1
   exact ⟨h1,h2.trans (lI hq (sl:=sl) (v:=u)).1⟩
  ·cases h
def dj (x y:AO):Bool:=cO x.i||(match y.dst with | some d=>!x.looks.contains d&&x.dst != some d | none=>true)
def jY (x:AO):Bool:=cO x.i||(match x.dst with | some d=>!x.looks.contains d | none=>false)
theorem pm {s s1:St}:∀ (A:List AO) (hA:∀ q∈A,q.quiet=true∧jY q=true) (hp:A.Pairwise fun x y=>dj x y=true) {sl sl':Slots},gQ A sl s=some sl' →
  (∀ q∈A,cO q.i=true∨∃ d,q.dst=some d∧ed (d,q.grd,q.i) sl' s1) →
  gQ A sl s1=some sl'∧∀ t,(∀ q∈A,q.dst≠some t)→sl' t=sl t
 | [],_,_,sl,sl',h,_=>by simp [gQ] at h; subst h; exact ⟨rfl,fun _ _=>rfl⟩
 | q::A,hA,hp,sl,sl',h,hr=>by
  obtain ⟨hq,hself⟩:=hA q (by simp)
  simp only [AO.quiet,Bool.and_eq_true,beq_iff_eq] at hq
  rw [List.pairwise_cons] at hp
  simp only [gQ] at h ⊢
  split at h
  ·rename_i u hu
   obtain ⟨h1,h2⟩:=pm A (fun p hp'=>hA p (by simp [hp'])) hp.2 h (fun p hp'=>hr p (by simp [hp']))
   have hkeep:∀ t,(∀ p∈q::A,p.dst≠some t)→sl' t=sl t:=by
    intro t ht
    rw [h2 t fun p hp'=>ht p (by simp [hp'])]
    cases hd:q.dst with
    | none=>rfl
    | some d=>
     have:t≠d:=by rintro rfl; exact ht q (by simp) hd
     simp [put,this]
   refine ⟨?_,hkeep⟩
   have hv:gP q sl s1=some u:=by
    rcases hr q (by simp) with hpure | ⟨d,hd,hre⟩
    ·unfold gP at hu ⊢
     split at hu
     ·exact hu
     ·cases hs:aH q.i .plain sl s with
      | none=>simp [hs] at hu
      | some p=>
       obtain ⟨v,s'⟩:=p
       simp [hs] at hu; subst hu
       rw [(iX hpure hs).2 s1]; rfl
     ·cases hu
    ·by_cases hpure:cO q.i=true
     ·unfold gP at hu ⊢
      split at hu
      ·exact hu
      ·cases hs:aH q.i .plain sl s with
       | none=>simp [hs] at hu
       | some p=>
        obtain ⟨v,s'⟩:=p
        simp [hs] at hu; subst hu
        rw [(iX hpure hs).2 s1]; rfl
      ·cases hu
     ·
      have hal:Alike q sl' sl:=by
       intro t ht
       by_cases hex:∃ p∈A,p.dst=some t
       ·obtain ⟨p,hp1,hp2⟩:=hex
        have:=hp.1 p hp1
        simp only [dj,hp2,hpure,Bool.false_or] at this
        simp at this
        exact absurd ht this.1
       ·have hne:t≠d:=by
         rintro rfl
         simp only [jY,hd,hpure,Bool.false_or] at hself
         simp at hself
         exact hself ht
        rw [h2 t fun p hp' e=>hex ⟨p,hp',e⟩]
        simp [put,hd,hne]
      have hdv:sl' d=u:=by
       rw [h2 d fun p hp' e=>?_]
       ·simp [put,hd]
       ·have:=hp.1 p hp'
        simp only [dj,e,hpure,Bool.false_or] at this
        simp [hd] at this
      rcases hre with hg | ⟨hg,hs⟩
      ·simp only at hg
       unfold gP at hu ⊢
       rw [hal.grd] at hg
       rw [hg] at hu ⊢
       exact hu
      ·simp only at hg hs
       rw [hal.grd] at hg
       rw [jo hal.xs,hdv] at hs
       unfold gP
       rw [hg,hs]; rfl
   rw [hv]
   exact h1
  ·cases h
theorem jV {P:Program} {A B:List AO} {x:AO} (hA:∀ q∈A,q.quiet=true∧jY q=true∧gV q x=true) (hp:A.Pairwise fun x y=>dj x y=true)
  (hre:x.quiet=true∨∀ q∈A,cO q.i=true∨∃ d,q.dst=some d∧(d,q.grd,q.i)∈x.re) {K:Slots→St→Prop} {sl:Slots} {s:St} (h:aM P (A++x::B) K sl s) :
  match gdI x.grd sl with
  | some false=>aM P (A++B) K (put sl x.dst (.tup [])) s
  | some true=>opW P x sl s fun v s'=>match cF x.md v s' with
   | some (v',s'')=>aM P (A++B) K (put sl x.dst v') s''
   | none=>False
  | none=>False:=by
 have hAq:∀ q∈A,q.quiet=true:=fun q hq=>(hA q hq).1
 have hAa:∀ q∈A,gV q x=true:=fun q hq=>(hA q hq).2.2
 obtain ⟨slA,hrun,hx⟩:=(gI A hAq).1 h
 have hal:Alike x slA sl:=(iG (v:=.tup []) A hAa hrun).2
 simp only [aM] at hx
 rw [hal.grd] at hx
 cases hg:gdI x.grd sl with
 | none=>rw [hg] at hx; exact hx.elim
 | some gb=>
 rw [hg] at hx
 cases gb
 ·simp only at hx ⊢
  exact (gI A hAq).2 ⟨_,(iG (v:=.tup []) A hAa hrun).1,hx⟩
 ·simp only at hx ⊢
  rw [tz hal] at hx
  rcases hre with hqx | hre
  ·
   have hqx':=hqx
   simp only [AO.quiet,Bool.and_eq_true,beq_iff_eq] at hqx
   unfold opW at hx ⊢
   split
   ·rename_i f a hi; exact absurd hi ((cR hqx.2).1 _ _)
   ·rename_i y a hi; exact absurd hi ((cR hqx.2).2.1 _ _)
   ·rename_i op y a hi; exact absurd hi ((cR hqx.2).2.2.1 _ _ _)
   ·rename_i y hi; exact absurd hi ((cR hqx.2).2.2.2.1 _)
   ·rename_i tab y a hi; exact absurd hi ((cR hqx.2).2.2.2.2 _ _ _)
   ·rename_i i h1 h2 h3 h4
    split at hx
    ·rename_i f a hi; exact absurd hi ((cR hqx.2).1 _ _)
    ·rename_i y a hi; exact absurd hi ((cR hqx.2).2.1 _ _)
    ·rename_i op y a hi; exact absurd hi ((cR hqx.2).2.2.1 _ _ _)
    ·rename_i y hi; exact absurd hi ((cR hqx.2).2.2.2.1 _)
    ·rename_i tab y a hi; exact absurd hi ((cR hqx.2).2.2.2.2 _ _ _)
    ·split at hx
     ·rename_i v s' hs
      have hss:s'=s:=by
       rw [hqx.1.1] at hs
       rcases (by simpa using hqx.2:cO x.i=true∨fG x.i=true) with hp' | hp'
       ·exact (iX hp' hs).1
       ·exact pg hp' hs
      subst hss
      show match cF x.md v s' with | some (v',s'')=>aM P (A++B) K (put sl x.dst v') s'' | none=>False
      simp only [hqx.1.1,cF] at hx ⊢
      exact (gI A hAq).2 ⟨_,(iG A hAa hrun).1,hx.2⟩
     ·exact hx.elim
  ·refine fX hx fun v s' hv=>?_
   split at hv
   ·rename_i v' s'' hf
    obtain ⟨hre',hB⟩:=hv
    obtain ⟨h1,_⟩:=pm (s1:=s'') A (fun q hq=>⟨(hA q hq).1,(hA q hq).2.1⟩) hp hrun fun q hq=>by
     rcases hre q hq with hpq | ⟨d,hd,hm⟩
     ·exact .inl hpq
     ·exact .inr ⟨d,hd,hre' _ hm⟩
    show match cF x.md v s' with | some (v',s'')=>aM P (A++B) K (put sl x.dst v') s'' | none=>False
    simp only [hf]
    exact (gI A hAq).2 ⟨_,(iG A hAa h1).1,hB⟩
   ·exact hv.elim
end Go.AM
