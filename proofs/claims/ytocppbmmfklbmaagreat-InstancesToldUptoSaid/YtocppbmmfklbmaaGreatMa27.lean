/- Part of the claim: see its last text. -/
import Derived.Test.YtocppbmmfklbmaaGreatMa26
set_option linter.all false
namespace Go.AM
theorem dm {P:Program}:∀ (l:List AO) {K K':Slots→St→Prop} {sl:Slots} {s:St},aM P l K sl s→(∀ sl s,K sl s→K' sl s)→aM P l K' sl s
 | [],_,_,_,_,h,hk=>hk _ _ h
 | o::r,_,_,_,_,h,hk=>by
  simp only [aM] at h ⊢
  split at h
  ·exact dm r h hk
  ·refine iv h fun v s' hv=>?_
   split at hv
   ·exact ⟨hv.1,dm r hv.2 hk⟩
   ·exact hv
  ·exact h
theorem hJ {P:Program} {a:AO} {post:List AO}:∀ (r:List (Bool×AO)) {K K':Slots→St→Prop} {sl:Slots} {s:St},ci P a post K r sl s→(∀ sl s,K sl s→K' sl s)→ci P a post K' r sl s
 | [],_,_,_,_,h,hk=>dm _ h hk
 | (b,e)::r,_,_,_,_,h,hk=>⟨fun hb=>dm _ (h.1 hb) hk,dm _ h.2 fun sl s h'=>hJ r h' hk⟩
theorem m8 {F:(Ex→Slots→St→Prop)→Slots→St→Prop} (hF:∀ (Q Q':Ex→Slots→St→Prop) (sl:Slots) (s:St),F Q sl s→(∀ e sl s,Q e sl s→Q' e sl s)→F Q' sl s):∀ (n:Nat) {Q Q':Ex→Slots→St→Prop} {sl:Slots} {s:St},
  fI F Q n sl s→(∀ e sl s,Q e sl s→Q' e sl s)→fI F Q' n sl s
 | 0,_,_,_,_,h,_=>h
 | n+1,_,_,_,_,h,hq=>by
  simp only [fI] at h ⊢
  refine hF _ _ _ _ h fun e sl s he=>?_
  cases e with
  | normal=>exact m8 hF n he hq
  | exit id=>exact hq _ _ _ he
  | ret=>exact hq _ _ _ he
theorem cj {P:Program}:∀ (a:AC) {Q Q':Ex→Slots→St→Prop} {sl:Slots} {s:St},acW P a Q sl s→(∀ e sl s,Q e sl s→Q' e sl s)→acW P a Q' sl s
 | .skip,_,_,_,_,h,hq=>hq _ _ _ h
 | .ops l,_,_,_,_,h,hq=>dm l h (hq .normal)
 | .roam a pre post,_,_,_,_,h,hq=>hJ pre h (hq .normal)
 | .seq a b,_,_,_,_,h,hq=>by
  simp only [acW] at h ⊢
  refine cj a h fun e sl s he=>?_
  cases e with
  | normal=>exact cj b he hq
  | exit id=>exact hq _ _ _ he
  | ret=>exact hq _ _ _ he
 | .cond c a b,_,_,_,_,h,hq=>by
  simp only [acW] at h ⊢
  split at h
  ·split at h
   ·rename_i ht; simp only [ht,if_true]; exact cj a h hq
   ·rename_i ht; simp only [ht]; exact cj b h hq
  ·exact h
 | .block id a,_,_,_,_,h,hq=>by
  simp only [acW] at h ⊢
  refine cj a h fun e sl s he=>?_
  cases e with
  | normal=>exact hq _ _ _ he
  | exit i=>
   simp only at he ⊢
   split at he
   ·rename_i hi; rw [if_pos hi]; exact hq _ _ _ he
   ·rename_i hi; rw [if_neg hi]; exact hq _ _ _ he
  | ret=>exact hq _ _ _ he
 | .loop a,_,_,_,_,h,hq=>by
  simp only [acW] at h ⊢
  obtain ⟨n,hn⟩:=h
  exact ⟨n,m8 (F:=acW P a) (fun _ _ _ _ h k=>cj a h k) n hn hq⟩
 | .exit id,_,_,_,_,h,hq=>hq _ _ _ h
 | .ret,_,_,_,_,h,hq=>hq _ _ _ h
theorem im {P:Program} {a:AC} {Q:Ex→Slots→St→Prop} (Inv:Nat→Slots→St→Prop) (n:Nat) {sl:Slots} {s:St} (h0:Inv n sl s)
  (step:∀ n sl s,Inv n sl s→acW P a (fun e sl' s'=>match e with | .normal=>∃ m,m<n∧Inv m sl' s' | e=>Q e sl' s') sl s):acW P (.loop a) Q sl s:=by
 have key:∀ k n sl s,n<k→Inv n sl s→fI (acW P a) Q k sl s:=by
  intro k
  induction k with
  | zero=>intro n sl s h; omega
  | succ k ih=>
   intro n sl s hn hi
   simp only [fI]
   refine cj a (step n sl s hi) fun e sl' s' he=>?_
   cases e with
   | normal=>obtain ⟨m,hm,hi'⟩:=he; exact ih m sl' s' (by omega) hi'
   | exit id=>exact he
   | ret=>exact he
 exact ⟨n+1,key (n+1) n sl s (Nat.lt_succ_self n) h0⟩
@[simp] theorem zi {sl:Slots} {d:Nat} {v:AV} {k:Nat}:put sl (some d) v k=if k=d then v else sl k:=Eq.trans rfl rfl
@[simp] theorem zh {sl:Slots} {v:AV}:put sl none v=sl:=Eq.trans rfl rfl
@[simp] theorem X_ev_t {sl:Slots} {n:Nat}:(X.t n).ev sl=sl n:=Eq.trans rfl rfl
@[simp] theorem X_ev_c {sl:Slots} {v:AV}:(X.c v).ev sl=v:=Eq.trans rfl rfl
@[simp] theorem X_ev_f {sl:Slots} {n:Nat}:(X.f n).ev sl=.fn (.func n) [] []:=Eq.trans rfl rfl
@[simp] theorem xN {args:List AV} {t:Nat}:qe args t=(args[t]?).getD .undef:=Eq.trans rfl rfl
@[simp] theorem yX {sl:Slots}:gdI none sl=some true:=Eq.trans rfl rfl
@[simp] theorem yY {sl:Slots} {t:Nat} {b:Bool}:gdI (some (t,b)) sl=(match sl t with
  | .sc (.bool b')=>some (b'==b)
  | .tup []=>some false
  | _=>none):=Eq.trans rfl rfl
theorem aE {c:Nat} {h h':Heap} (hb:∀ k,k<c→h' k=h k):retH c h h'=h:=by
 funext k
 unfold retH
 split
 ·rename_i hk; exact hb k hk
 ·rfl
@[simp] theorem kX {c:Nat} {h:Heap}:retH c h h=h:=aE fun _ _=>rfl
theorem jS {c g:Nat} {h h':Heap} {b:Option Body} (hg:c≤g):retH c h (upd h' g b)=retH c h h':=by
 funext k
 unfold retH upd
 split
 ·rw [if_neg (by omega)]
 ·rfl
@[simp] theorem ah {h:Heap} {g:Nat} {b:Option Body}:upd h g b g=b:=by simp [upd]
theorem ad {h:Heap} {g k:Nat} {b:Option Body} (hk:k≠g):upd h g b k=h k:=by simp [upd,hk]
@[simp] theorem yK {h:Heap} {g:Nat} {b b':Option Body}:upd (upd h g b) g b'=upd h g b':=by
 funext k; unfold upd; split <;> rfl
end Go.AM
