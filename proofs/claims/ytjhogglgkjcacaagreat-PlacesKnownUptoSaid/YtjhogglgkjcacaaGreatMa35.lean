/- Part of the claim: see its last text. -/
import Derived.Test.YtjhogglgkjcacaaGreatMa33
import Derived.Test.YtjhogglgkjcacaaGreatMa34
set_option linter.all false
namespace Go.AM
def dropF (c0:Nat) (h:Heap):Heap:=fun k=>match h k with
 | some (.row sz es st (some p))=>if c0≤k then none else some (.row sz es st (some p))
 | b=>b
theorem eb {c0 k:Nat} {h:Heap} {b:Body} (hb:dropF c0 h k=some b):h k=some b∧(k<c0∨∀ sz es st p,b≠.row sz es st (some p)):=by
 unfold dropF at hb
 split at hb
 ·rename_i sz es st p hk
  split at hb
  ·cases hb
  ·injection hb with hb; subst hb
   exact ⟨hk,.inl (by omega)⟩
 ·rename_i b' hb'
  refine ⟨hb,.inr fun sz es st p e=>?_⟩
  subst e
  exact hb' _ _ _ _ hb
theorem fD {c0 k:Nat} {h:Heap} (hk:k<c0):dropF c0 h k=h k:=by
 unfold dropF
 split
 ·rename_i sz es st p hh
  rw [if_neg (by omega),hh]
 ·rfl
theorem jR {c0 k:Nat} {h:Heap} (hk:∀ sz es st p,h k≠some (.row sz es st (some p))):dropF c0 h k=h k:=by
 unfold dropF
 split
 ·rename_i sz es st p hh; exact absurd hh (hk _ _ _ _)
 ·rfl
theorem rH {c0 k:Nat} {h:Heap} (hc:c0≤k) {sz:Nat} {es:List (List AV)} {st:RSt} {p:Nat} (hk:h k=some (.row sz es st (some p))):dropF c0 h k=none:=by
 unfold dropF; rw [hk]; simp [hc]
theorem Sim.dropF {G:Gh} {s:St} {w:World} (hS:Sim G s w) (c0:Nat):Sim G ⟨dropF c0 s.h,s.c⟩ w:=by
 refine ⟨hS.mem,hS.dom,fun g b hg=>?_,fun i j bi bj li lj hij hi hj hli hlj hb h1 h2=>?_⟩
 ·obtain ⟨h1,_⟩:=eb hg
  obtain ⟨l,h2,h3⟩:=hS.blk g b h1
  refine ⟨l,h2,?_⟩
  cases b with
  | row sz es st par=>exact h3
  | map kv ver=>exact h3
  | iter m ver done=>
   obtain ⟨q1,q2,lm,since,last,seen,q3,q4,q5⟩:=h3
   exact ⟨q1,q2,lm,since,last,seen,q3,q4,fun kv hkv=>q5 kv (eb hkv).1⟩
 ·obtain ⟨hi',_⟩:=eb hi
  obtain ⟨hj',hjc⟩:=eb hj
  obtain ⟨sz,k,es,par,q1,q2,⟨sz',es',st',par',lk,q3,q4⟩,sz2,es2,st2,p,q5,q6⟩:=hS.ov i j bi bj li lj hij hi' hj' hli hlj hb h1 h2
  have hjc':j<c0:=by
   rcases hjc with h | h
   ·exact h
   ·rw [q5] at hj'; injection hj' with hj'; exact absurd hj'.symm (h _ _ _ _)
  exact ⟨sz,k,es,par,(fD (by omega)).trans q1,q2,⟨sz',es',st',par',lk,(fD (by omega)).trans q3,q4⟩,sz2,es2,st2,p,(fD hjc').trans q5,q6⟩
theorem Stp.dropF {G:Gh} {s:St} {w:World} (c0:Nat):Stp G s w G ⟨AM.dropF c0 s.h,s.c⟩ w:=
 ⟨.refl G,Nat.le_refl _,rfl,rfl,rfl,Nat.le_refl _,fun _ _ _=>rfl,fun b _ ⟨g,body,l,h1,h2⟩=>⟨g,body,l,(eb h1).1,h2⟩⟩
theorem ACalls.dropF {P:Program} {f:FuncId} {args:List AV} {s:St} {R R':AV→St→Prop} (c0:Nat) (hp:ACalls P f args s R) (hr:∀ av s',s.c≤s'.c→R av s'→R' av ⟨AM.dropF c0 s'.h,s'.c⟩):ACalls P f args s R':=by
 intro G w vs hS hv
 refine (hp G w vs hS hv).mono fun v w' ⟨av,G',s',h1,h2,h3,h4⟩=>?_
 exact ⟨av,G',_,h1.trans (Stp.dropF c0),h2.dropF c0,h3,hr av s' h1.c h4⟩
theorem ACalls.clean {P:Program} {f:FuncId} {args:List AV} {s:St} {R:AV→St→Prop} (h:(∀ k,s.c≤k→s.h k=none)→ACalls P f args s R):ACalls P f args s R:=by
 intro G w vs hS hv
 refine h (fun k hk=>?_) G w vs hS hv
 cases hh:s.h k with
 | none=>rfl
 | some b=>have:=hS.hLt hh; omega
end Go.AM
