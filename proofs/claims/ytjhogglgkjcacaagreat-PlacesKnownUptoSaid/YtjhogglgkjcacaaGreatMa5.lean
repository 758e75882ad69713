/- Part of the claim: see its last text. -/
import Derived.Test.YtjhogglgkjcacaaGreatMa4
set_option linter.all false
namespace Go.AM
theorem bC {G:Gh} {a v:Value} (h:Rep G (.sc a) v):v=a∧iM a=true:=by
 cases h with
 | sc _ h=>exact ⟨rfl,h⟩
theorem eM {P:Program} {w:World} {op:BinOp} {t:TypeId} {x y:Operand} {a b:Value} (h:¬(a=.nilIface∧b=.nilIface)) (h':∀ xs ys,¬(a=.agg xs∧b=.agg ys)) :
  (eqGuard op t x y a b).run P w=.ok () w:=by
 unfold eqGuard
 split
 ·cases a <;> cases b <;> first | rfl | (exact absurd ⟨rfl,rfl⟩ h) | (exact absurd ⟨rfl,rfl⟩ (h' _ _))
 ·cases a <;> cases b <;> first | rfl | (exact absurd ⟨rfl,rfl⟩ h) | (exact absurd ⟨rfl,rfl⟩ (h' _ _))
 ·rfl
theorem uI {P:Program} {w:World} {op:BinOp} {t:TypeId} {k:IntKind} {a b:Int} {r:Value} (h:ec op k a b=some r):(binOp op t (.int k a) (.int k b)).run P w=.ok r w∧iM r=true:=by
 cases op <;> simp only [ec] at h
 case quo=>
  split at h
  ·cases h
  ·rename_i hb; injection h with h; subst h; exact ⟨by simp [binOp,Op.intDiv,hb],rfl⟩
 case rem=>
  split at h
  ·cases h
  ·rename_i hb; injection h with h; subst h; exact ⟨by simp [binOp,Op.intDiv,hb],rfl⟩
 case shl=>cases h
 case shr=>cases h
 all_goals (injection h with h; subst h; exact ⟨by simp [binOp,Op.intArith,Op.intCmp,Op.intBits],rfl⟩)
theorem wg {P:Program} {w:World} {op:BinOp} (ho:op=.shl∨op=.shr) {t:TypeId} {k k':IntKind} {a b:Int} {r:Value} (h:uY op k a b=some r):(binOp op t (.int k a) (.int k' b)).run P w=.ok r w∧iM r=true:=by
 unfold uY at h
 split at h
 ·cases h
 ·rename_i hb
  rcases ho with rfl | rfl
  all_goals (injection h with h; subst h; exact ⟨by simp [binOp,Op.shift,hb],rfl⟩)
theorem u7 {P:Program} {w:World} {op:BinOp} {t:TypeId} {a b:ByteArray} {r:Value} (h:eT op a b=some r):(binOp op t (.string a) (.string b)).run P w=.ok r w∧iM r=true:=by
 cases op <;> simp only [eT] at h
 case add=>
  split at h
  ·cases h
  ·rename_i hb
   injection h with h; subst h
   refine ⟨?_,rfl⟩
   show (Op.stringOp .add a b).run P w=_
   unfold Op.stringOp
   simp only [if_neg hb]
   rfl
 all_goals first
  | cases h; done
  | (injection h with h; subst h; exact ⟨by simp [binOp,Op.stringOp],rfl⟩)
theorem sj {P:Program} {w:World} {op:BinOp} {t:TypeId} {k k':IntKind} {a b:Int} {r:Value} (h:eL op (.int k a) (.int k' b)=some r):(binOp op t (.int k a) (.int k' b)).run P w=.ok r w∧iM r=true:=by
 by_cases ho:op=.shl∨op=.shr
 ·exact wg ho (by rcases ho with rfl | rfl <;> exact h)
 ·have hk:k=k':=by
   apply Classical.byContradiction; intro hk
   cases op <;> first | (exact ho (.inl rfl)) | (exact ho (.inr rfl)) | simp [eL,hk] at h
  subst hk
  exact uI (by cases op <;> first | (exact absurd (.inl rfl) ho) | (exact absurd (.inr rfl) ho) | (simpa [eL] using h))
theorem pI {P:Program} {w:World} {op:BinOp} {t:TypeId} {a b r:Value} (h:eL op a b=some r):(binOp op t a b).run P w=.ok r w∧iM r=true:=by
 cases a <;> cases b <;> first
  | exact u7 h
  | exact sj h
  | cases h
theorem kH (t:TypeId) (x y:Value):Op.equal t x y=Op.equalIn (9999+1) t x y:=rfl
theorem jB {P:Program} {w:World} {t:TypeId} (hu:P.underlying t=some .bool) (a b:Bool):(Op.equal t (.bool a) (.bool b)).run P w=.ok (a==b) w:=by
 rw [kH,Op.equalIn,Sem.run_bind,run_underlying hu]; rfl
theorem nY {P:Program} {w:World} {t e:TypeId} (hu:P.underlying t=some (.pointer e)) (q:Option Addr):(Op.equal t (.pointer none) (.pointer q)).run P w=.ok q.isNone w:=by
 rw [kH,Op.equalIn,Sem.run_bind,run_underlying hu]; rfl
theorem nZ {P:Program} {w:World} {t e:TypeId} (hu:P.underlying t=some (.pointer e)) (p:Addr):(Op.equal t (.pointer (some p)) (.pointer none)).run P w=.ok false w:=by
 rw [kH,Op.equalIn,Sem.run_bind,run_underlying hu]; rfl
theorem ux {P:Program} {w:World} {op:BinOp} {t:TypeId} (hu:P.underlying t=some .bool) {a b r:Value} (h:iQ op a b=some r):(binOp op t a b).run P w=.ok r w∧iM r=true:=by
 unfold iQ at h
 split at h
 ·rename_i a b
  split at h
  ·injection h with h; subst h
   refine ⟨?_,rfl⟩
   show (do pure (.bool (←Op.equal t (.bool a) (.bool b))):Sem Value).run P w=_
   rw [Sem.run_bind,jB hu]; rfl
  ·injection h with h; subst h
   refine ⟨?_,rfl⟩
   show (do pure (.bool (!(←Op.equal t (.bool a) (.bool b)))):Sem Value).run P w=_
   rw [Sem.run_bind,jB hu]; rfl
  ·cases h
 ·cases h
theorem fE {G:Gh} {a:AV} {x:Value} {b:Bool} (h:na a=some b) (hr:Rep G a x):∃ p,x=.pointer p∧p.isNone=b:=by
 unfold na at h
 split at h
 ·injection h with h; subst h
  obtain ⟨rfl,_⟩:=bC hr
  exact ⟨none,rfl,rfl⟩
 ·injection h with h; subst h
  cases hr; exact ⟨_,rfl,rfl⟩
 ·injection h with h; subst h
  cases hr; exact ⟨_,rfl,rfl⟩
 ·cases h
theorem ri {P:Program} {G:Gh} {w:World} {op:BinOp} {t:TypeId} {x y:Value} {b:Bool} {av:AV} (h:iH op b=some av)
  (he:(Op.equal t x y).run P w=.ok b w) (h1:binOp .eql t x y=(do pure (.bool (←Op.equal t x y)))) (h2:binOp .neq t x y=(do pure (.bool (!(←Op.equal t x y))))) :
  ∃ r,(binOp op t x y).run P w=.ok r w∧Rep G av r:=by
 unfold iH at h
 split at h
 ·injection h with h; subst h
  refine ⟨.bool b,?_,.sc _ rfl⟩
  rw [h1,Sem.run_bind,he]; rfl
 ·injection h with h; subst h
  refine ⟨.bool !b,?_,.sc _ rfl⟩
  rw [h2,Sem.run_bind,he]; rfl
 ·cases h
theorem uy {P:Program} {G:Gh} {w:World} {op:BinOp} {t e:TypeId} (hu:P.underlying t=some (.pointer e)) {a b av:AV} {x y:Value} (h:eX .pn op a b=some av)
  (ha:Rep G a x) (hb:Rep G b y):∃ r,(binOp op t x y).run P w=.ok r w∧Rep G av r:=by
 simp only [eX] at h
 split at h
 ·rename_i b' h1 h2
  obtain ⟨p,rfl,hp⟩:=fE h1 ha
  obtain ⟨q,rfl,hq⟩:=fE h2 hb
  cases p with
  | some _=>simp at hp
  | none=>subst hq; exact ri h (nY hu q) (by cases q <;> rfl) (by cases q <;> rfl)
 ·rename_i h1 h2
  obtain ⟨p,rfl,hp⟩:=fE h1 ha
  obtain ⟨q,rfl,hq⟩:=fE h2 hb
  cases p with
  | none=>simp at hp
  | some p=>cases q with
   | some _=>simp at hq
   | none=>exact ri h (nZ hu p) rfl rfl
 ·cases h
theorem yz {P:Program} {G:Gh} {w:World} {op:UnOp} {a av:AV} {x:Value} (h:unI op a=some av) (hr:Rep G a x):∃ r,(Op.unary op x).run P w=.ok r w∧Rep G av r:=by
 unfold unI at h
 split at h
 ·obtain ⟨rfl,_⟩:=bC hr
  split at h
  ·injection h with h; subst h; exact ⟨_,rfl,.sc _ rfl⟩
  ·injection h with h; subst h; exact ⟨_,rfl,.sc _ rfl⟩
  ·cases h
 ·obtain ⟨rfl,_⟩:=bC hr
  split at h
  ·injection h with h; subst h; exact ⟨_,rfl,.sc _ rfl⟩
  ·cases h
 ·cases h
end Go.AM
