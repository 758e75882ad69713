/- Part of the claim: see its last text. -/
import Derived.Test.YtjhogglgkjcacaaGreatMa26
set_option linter.all false
namespace Go.AM
theorem df {P:Program}:∀ (l:List AO) {K K':Slots→St→Prop} {sl:Slots} {s:St},aN P l K sl s→(∀ sl s,K sl s→K' sl s)→aN P l K' sl s
 | [],_,_,_,_,h,hk=>hk _ _ h
 | o::r,_,_,_,_,h,hk=>by
  simp only [aN] at h ⊢
  split at h
  ·exact df r h hk
  ·refine gu h fun v s' hv=>?_
   split at hv
   ·exact ⟨hv.1,df r hv.2 hk⟩
   ·exact hv
  ·exact h
theorem ij {P:Program} {a:AO} {post:List AO}:∀ (r:List (Bool×AO)) {K K':Slots→St→Prop} {sl:Slots} {s:St},cg P a post K r sl s→(∀ sl s,K sl s→K' sl s)→cg P a post K' r sl s
 | [],_,_,_,_,h,hk=>df _ h hk
 | (b,e)::r,_,_,_,_,h,hk=>⟨fun hb=>df _ (h.1 hb) hk,df _ h.2 fun sl s h'=>ij r h' hk⟩
theorem ng {F:(Ex→Slots→St→Prop)→Slots→St→Prop} (hF:∀ (Q Q':Ex→Slots→St→Prop) (sl:Slots) (s:St),F Q sl s→(∀ e sl s,Q e sl s→Q' e sl s)→F Q' sl s):∀ (n:Nat) {Q Q':Ex→Slots→St→Prop} {sl:Slots} {s:St},
  eN F Q n sl s→(∀ e sl s,Q e sl s→Q' e sl s)→eN F Q' n sl s
 | 0,_,_,_,_,h,_=>h
 | n+1,_,_,_,_,h,hq=>by
  simp only [eN] at h ⊢
  refine hF _ _ _ _ h fun e sl s he=>?_
  cases e with
  | normal=>exact ng hF n he hq
  | exit id=>exact hq _ _ _ he
  | ret=>exact hq _ _ _ he
theorem bL {P:Program}:∀ (a:AC) {Q Q':Ex→Slots→St→Prop} {sl:Slots} {s:St},acW P a Q sl s→(∀ e sl s,Q e sl s→Q' e sl s)→acW P a Q' sl s
 | .skip,_,_,_,_,h,hq=>hq _ _ _ h
 | .ops l,_,_,_,_,h,hq=>df l h (hq .normal)
 | .roam a pre post,_,_,_,_,h,hq=>ij pre h (hq .normal)
 | .seq a b,_,_,_,_,h,hq=>by
  simp only [acW] at h ⊢
  refine bL a h fun e sl s he=>?_
  cases e with
  | normal=>exact bL b he hq
  | exit id=>exact hq _ _ _ he
  | ret=>exact hq _ _ _ he
 | .cond c a b,_,_,_,_,h,hq=>by
  simp only [acW] at h ⊢
  split at h
  ·split at h
   ·rename_i ht; simp only [ht,if_true]; exact bL a h hq
   ·rename_i ht; simp only [ht]; exact bL b h hq
  ·exact h
 | .block id a,_,_,_,_,h,hq=>by
  simp only [acW] at h ⊢
  refine bL a h fun e sl s he=>?_
  cases e with
  | normal=>exact hq _ _ _ he
  | exit i=>
   simp only at he ⊢
   split at he
   ·rename_i hi; rw [if_pos hi]; exact hq _ _ _ he
   ·rename_i hi; rw [if_neg hi]; exact hq _ _ _ he
  | ret=>exact hq _ _ _ he
 | .loop a,_,_,_,_,h,hq=>by
  simp only [acW] at h ⊢
  obtain ⟨n,hn⟩:=h
  exact ⟨n,ng (F:=acW P a) (fun _ _ _ _ h k=>bL a h k) n hn hq⟩
 | .exit id,_,_,_,_,h,hq=>hq _ _ _ h
 | .ret,_,_,_,_,h,hq=>hq _ _ _ h
theorem iB {P:Program} {a:AC} {Q:Ex→Slots→St→Prop} (Inv:Nat→Slots→St→Prop) (n:Nat) {sl:Slots} {s:St} (h0:Inv n sl s)
  (step:∀ n sl s,Inv n sl s→acW P a (fun e sl' s'=>match e with | .normal=>∃ m,m<n∧Inv m sl' s' | e=>Q e sl' s') sl s):acW P (.loop a) Q sl s:=by
 have key:∀ k n sl s,n<k→Inv n sl s→eN (acW P a) Q k sl s:=by
  intro k
  induction k with
  | zero=>intro n sl s h; omega
  | succ k ih=>
   intro n sl s hn hi
   simp only [eN]
   refine bL a (step n sl s hi) fun e sl' s' he=>?_
   cases e with
   | normal=>obtain ⟨m,hm,hi'⟩:=he; exact ih m sl' s' (by omega) hi'
   | exit id=>exact he
   | ret=>exact he
 exact ⟨n+1,key (n+1) n sl s (Nat.lt_succ_self n) h0⟩
@[simp] theorem zN {sl:Slots} {d:Nat} {v:AV} {k:Nat}:put sl (some d) v k=if k=d then v else sl k:=Eq.trans rfl rfl
@[simp] theorem zM {sl:Slots} {v:AV}:put sl none v=sl:=Eq.trans rfl rfl
@[simp] theorem X_ev_t {sl:Slots} {n:Nat}:(X.t n).ev sl=sl n:=Eq.trans rfl rfl
@[simp] theorem X_ev_c {sl:Slots} {v:AV}:(X.c v).ev sl=v:=Eq.trans rfl rfl
@[simp] theorem X_ev_f {sl:Slots} {n:Nat}:(X.f n).ev sl=.fn (.func n) [] []:=Eq.trans rfl rfl
@[simp] theorem yq {args:List AV} {t:Nat}:nB args t=(args[t]?).getD .undef:=Eq.trans rfl rfl
@[simp] theorem zA {sl:Slots}:gdI none sl=some true:=Eq.trans rfl rfl
@[simp] theorem zB {sl:Slots} {t:Nat} {b:Bool}:gdI (some (t,b)) sl=(match sl t with
  | .sc (.bool b')=>some (b'==b)
  | .tup []=>some false
  | _=>none):=Eq.trans rfl rfl
theorem aC {c:Nat} {h h':Heap} (hb:∀ k,k<c→h' k=h k):retH c h h'=h:=by
 funext k
 unfold retH
 split
 ·rename_i hk; exact hb k hk
 ·rfl
@[simp] theorem kZ {c:Nat} {h:Heap}:retH c h h=h:=aC fun _ _=>rfl
theorem ka {c g:Nat} {h h':Heap} {b:Option Body} (hg:c≤g):retH c h (upd h' g b)=retH c h h':=by
 funext k
 unfold retH upd
 split
 ·rw [if_neg (by omega)]
 ·rfl
@[simp] theorem ah {h:Heap} {g:Nat} {b:Option Body}:upd h g b g=b:=by simp [upd]
theorem ad {h:Heap} {g k:Nat} {b:Option Body} (hk:k≠g):upd h g b k=h k:=by simp [upd,hk]
@[simp] theorem zl {h:Heap} {g:Nat} {b b':Option Body}:upd (upd h g b) g b'=upd h g b':=by
 funext k; unfold upd; split <;> rfl
end Go.AM
