/- Part of the claim: see its last text. -/
import Derived.Test.YtocppbmmfklbmaaGreatMa4
set_option linter.all false
namespace Go.AM
theorem bC {G:Gh} {a v:Value} (h:Rep G (.sc a) v):v=a∧iz a=true:=by
 cases h with
 | sc _ h=>exact ⟨rfl,h⟩
theorem eJ {P:Program} {w:World} {op:BinOp} {t:TypeId} {x y:Operand} {a b:Value} (h:¬(a=.nilIface∧b=.nilIface)) (h':∀ xs ys,¬(a=.agg xs∧b=.agg ys)) :
  (eqGuard op t x y a b).run P w=.ok () w:=by
 unfold eqGuard
 split
 ·cases a <;> cases b <;> first | rfl | (exact absurd ⟨rfl,rfl⟩ h) | (exact absurd ⟨rfl,rfl⟩ (h' _ _))
 ·cases a <;> cases b <;> first | rfl | (exact absurd ⟨rfl,rfl⟩ h) | (exact absurd ⟨rfl,rfl⟩ (h' _ _))
 ·rfl
theorem ub {P:Program} {w:World} {op:BinOp} {t:TypeId} {k:IntKind} {a b:Int} {r:Value} (h:d9 op k a b=some r):(binOp op t (.int k a) (.int k b)).run P w=.ok r w∧iz r=true:=by
 cases op <;> simp only [d9] at h
 case quo=>
  split at h
  ·cases h
  ·rename_i hb; injection h with h; subst h; exact ⟨by simp [binOp,Op.intDiv,hb],rfl⟩
 case rem=>
  split at h
  ·cases h
  ·rename_i hb; injection h with h; subst h; exact ⟨by simp [binOp,Op.intDiv,hb],rfl⟩
 case shl=>cases h
 case shr=>cases h
 all_goals (injection h with h; subst h; exact ⟨by simp [binOp,Op.intArith,Op.intCmp,Op.intBits],rfl⟩)
theorem vG {P:Program} {w:World} {op:BinOp} (ho:op=.shl∨op=.shr) {t:TypeId} {k k':IntKind} {a b:Int} {r:Value} (h:up op k a b=some r):(binOp op t (.int k a) (.int k' b)).run P w=.ok r w∧iz r=true:=by
 unfold up at h
 split at h
 ·cases h
 ·rename_i hb
  rcases ho with rfl | rfl
  all_goals (injection h with h; subst h; exact ⟨by simp [binOp,Op.shift,hb],rfl⟩)
theorem uw {P:Program} {w:World} {op:BinOp} {t:TypeId} {a b:ByteArray} {r:Value} (h:eO op a b=some r):(binOp op t (.string a) (.string b)).run P w=.ok r w∧iz r=true:=by
 cases op <;> simp only [eO] at h
 case add=>
  split at h
  ·cases h
  ·rename_i hb
   injection h with h; subst h
   refine ⟨?_,rfl⟩
   show (Op.stringOp .add a b).run P w=_
   unfold Op.stringOp
   simp only [if_neg hb]
   rfl
 all_goals first
  | cases h; done
  | (injection h with h; subst h; exact ⟨by simp [binOp,Op.stringOp],rfl⟩)
theorem rS {P:Program} {w:World} {op:BinOp} {t:TypeId} {k k':IntKind} {a b:Int} {r:Value} (h:eI op (.int k a) (.int k' b)=some r):(binOp op t (.int k a) (.int k' b)).run P w=.ok r w∧iz r=true:=by
 by_cases ho:op=.shl∨op=.shr
 ·exact vG ho (by rcases ho with rfl | rfl <;> exact h)
 ·have hk:k=k':=by
   apply Classical.byContradiction; intro hk
   cases op <;> first | (exact ho (.inl rfl)) | (exact ho (.inr rfl)) | simp [eI,hk] at h
  subst hk
  exact ub (by cases op <;> first | (exact absurd (.inl rfl) ho) | (exact absurd (.inr rfl) ho) | (simpa [eI] using h))
theorem py {P:Program} {w:World} {op:BinOp} {t:TypeId} {a b r:Value} (h:eI op a b=some r):(binOp op t a b).run P w=.ok r w∧iz r=true:=by
 cases a <;> cases b <;> first
  | exact uw h
  | exact rS h
  | cases h
theorem kF (t:TypeId) (x y:Value):Op.equal t x y=Op.equalIn (9999+1) t x y:=rfl
theorem jq {P:Program} {w:World} {t:TypeId} (hu:P.underlying t=some .bool) (a b:Bool):(Op.equal t (.bool a) (.bool b)).run P w=.ok (a==b) w:=by
 rw [kF,Op.equalIn,Sem.run_bind,run_underlying hu]; rfl
theorem n6 {P:Program} {w:World} {t e:TypeId} (hu:P.underlying t=some (.pointer e)) (q:Option Addr):(Op.equal t (.pointer none) (.pointer q)).run P w=.ok q.isNone w:=by
 rw [kF,Op.equalIn,Sem.run_bind,run_underlying hu]; rfl
theorem n7 {P:Program} {w:World} {t e:TypeId} (hu:P.underlying t=some (.pointer e)) (p:Addr):(Op.equal t (.pointer (some p)) (.pointer none)).run P w=.ok false w:=by
 rw [kF,Op.equalIn,Sem.run_bind,run_underlying hu]; rfl
theorem tQ {P:Program} {w:World} {op:BinOp} {t:TypeId} (hu:P.underlying t=some .bool) {a b r:Value} (h:iC op a b=some r):(binOp op t a b).run P w=.ok r w∧iz r=true:=by
 unfold iC at h
 split at h
 ·rename_i a b
  split at h
  ·injection h with h; subst h
   refine ⟨?_,rfl⟩
   show (do pure (.bool (←Op.equal t (.bool a) (.bool b))):Sem Value).run P w=_
   rw [Sem.run_bind,jq hu]; rfl
  ·injection h with h; subst h
   refine ⟨?_,rfl⟩
   show (do pure (.bool (!(←Op.equal t (.bool a) (.bool b)))):Sem Value).run P w=_
   rw [Sem.run_bind,jq hu]; rfl
  ·cases h
 ·cases h
theorem fq {G:Gh} {a:AV} {x:Value} {b:Bool} (h:mZ a=some b) (hr:Rep G a x):∃ p,x=.pointer p∧p.isNone=b:=by
 unfold mZ at h
 split at h
 ·injection h with h; subst h
  obtain ⟨rfl,_⟩:=bC hr
  exact ⟨none,rfl,rfl⟩
 ·injection h with h; subst h
  cases hr; exact ⟨_,rfl,rfl⟩
 ·injection h with h; subst h
  cases hr; exact ⟨_,rfl,rfl⟩
 ·cases h
theorem qR {P:Program} {G:Gh} {w:World} {op:BinOp} {t:TypeId} {x y:Value} {b:Bool} {av:AV} (h:iu op b=some av)
  (he:(Op.equal t x y).run P w=.ok b w) (h1:binOp .eql t x y=(do pure (.bool (←Op.equal t x y)))) (h2:binOp .neq t x y=(do pure (.bool (!(←Op.equal t x y))))) :
  ∃ r,(binOp op t x y).run P w=.ok r w∧Rep G av r:=by
 unfold iu at h
 split at h
 ·injection h with h; subst h
  refine ⟨.bool b,?_,.sc _ rfl⟩
  rw [h1,Sem.run_bind,he]; rfl
 ·injection h with h; subst h
  refine ⟨.bool !b,?_,.sc _ rfl⟩
  rw [h2,Sem.run_bind,he]; rfl
 ·cases h
theorem tR {P:Program} {G:Gh} {w:World} {op:BinOp} {t e:TypeId} (hu:P.underlying t=some (.pointer e)) {a b av:AV} {x y:Value} (h:eQ .pn op a b=some av)
  (ha:Rep G a x) (hb:Rep G b y):∃ r,(binOp op t x y).run P w=.ok r w∧Rep G av r:=by
 simp only [eQ] at h
 split at h
 ·rename_i b' h1 h2
  obtain ⟨p,rfl,hp⟩:=fq h1 ha
  obtain ⟨q,rfl,hq⟩:=fq h2 hb
  cases p with
  | some _=>simp at hp
  | none=>subst hq; exact qR h (n6 hu q) (by cases q <;> rfl) (by cases q <;> rfl)
 ·rename_i h1 h2
  obtain ⟨p,rfl,hp⟩:=fq h1 ha
  obtain ⟨q,rfl,hq⟩:=fq h2 hb
  cases p with
  | none=>simp at hp
  | some p=>cases q with
   | some _=>simp at hq
   | none=>exact qR h (n7 hu p) rfl rfl
 ·cases h
theorem xU {P:Program} {G:Gh} {w:World} {op:UnOp} {a av:AV} {x:Value} (h:unI op a=some av) (hr:Rep G a x):∃ r,(Op.unary op x).run P w=.ok r w∧Rep G av r:=by
 unfold unI at h
 split at h
 ·obtain ⟨rfl,_⟩:=bC hr
  split at h
  ·injection h with h; subst h; exact ⟨_,rfl,.sc _ rfl⟩
  ·injection h with h; subst h; exact ⟨_,rfl,.sc _ rfl⟩
  ·cases h
 ·obtain ⟨rfl,_⟩:=bC hr
  split at h
  ·injection h with h; subst h; exact ⟨_,rfl,.sc _ rfl⟩
  ·cases h
 ·cases h
end Go.AM
