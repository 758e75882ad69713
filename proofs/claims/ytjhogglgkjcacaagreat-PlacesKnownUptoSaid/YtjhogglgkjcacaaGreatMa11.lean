/- Part of the claim: see its last text. -/
import Derived.Test.YtjhogglgkjcacaaGreatMa10
import Derived.ChangeKeysEq
import Derived.MapKept
import Derived.Laws.StructEq
import Derived.Laws.IdiomRangeMap
set_option linter.all false
namespace Go.AM
def gh (P:Program) (t:TypeId):Option FK:=match P.underlying t with
 | some (.int _)=>some .int
 | some .string=>some .str
 | some .bool=>some .bool
 | _=>none
def iS (P:Program):Nat→List Field→Option (List FK)
 | _,[]=>some []
 | i, f :: fs => if f.offset = i ∧ f.name ≠ "_" then match gh P f.type, iS P (i + 1) fs with
   | some k,some ks=>some (k::ks)
   | _,_=>none
  else none
def jS (P:Program) (t:TypeId):Option (List FK):=match P.underlying t with
 | some (.struct fs)=>if P.stoodInHeld t=false then iS P 0 fs.toList else none
 | _=>none
def eY (P:Program) (t:TypeId):Option KK:=match gh P t with
 | some k=>some (.one k)
 | none=>(jS P t).map .agg
theorem fB (m n:ByteArray):(m==n)=decide (m=n):=by
 rw [beq_toListBytes,ByteArray.toList_eq,ByteArray.toList_eq]
 obtain ⟨a⟩:=m; obtain ⟨b⟩:=n
 show (a.toList==b.toList)=_
 by_cases h:a=b
 ·subst h; simp
 ·have h1:¬a.toList=b.toList:=fun e=>h (Array.toList_inj.1 e)
  have h2:¬(ByteArray.mk a=ByteArray.mk b):=fun e=>h (by injection e)
  rw [decide_eq_false h2]
  simpa using h
inductive Same:FK→Value→Value→Bool→Prop
 | int (q:IntKind) (m n:Int):Same .int (.int q m) (.int q n) (m==n)
 | str (m n:ByteArray):Same .str (.string m) (.string n) (decide (m=n))
 | bool (m n:Bool):Same .bool (.bool m) (.bool n) (m==n)
theorem dX {G:Gh} {k:FK} {a b:AV} {r:Bool} {x y:Value} (h:fN k a b=some r) (ha:Rep G a x) (hb:Rep G b y):Same k x y r:=by
 unfold fN at h
 split at h
 ·obtain ⟨rfl,_⟩:=bC ha
  obtain ⟨rfl,_⟩:=bC hb
  split at h
  ·rename_i e; subst e; injection h with h; subst h; exact .int _ _ _
  ·cases h
 ·obtain ⟨rfl,_⟩:=bC ha
  obtain ⟨rfl,_⟩:=bC hb
  injection h with h; subst h; exact .str _ _
 ·obtain ⟨rfl,_⟩:=bC ha
  obtain ⟨rfl,_⟩:=bC hb
  injection h with h; subst h; exact .bool _ _
 ·cases h
theorem Same.eq {k:FK} {x y:Value} (h:Same k x y true):x=y:=by
 generalize hr:true=r at h
 cases h with
 | int q m n=>
  have:m=n:=by simpa using hr.symm
  rw [this]
 | str m n=>
  have:m=n:=by simpa using hr.symm
  rw [this]
 | bool m n=>
  have:m=n:=by simpa using hr.symm
  rw [this]
theorem Same.run {P:Program} {k:FK} {x y:Value} {r:Bool} (h:Same k x y r) {t:TypeId} (ht:gh P t=some k) (d:Nat) (w:World):(Op.equalIn (d+1) t x y).run P w=.ok r w:=by
 unfold gh at ht
 cases h with
 | int q m n=>
  split at ht <;> first | (cases ht; done) | skip
  rename_i hu
  exact run_equalIn_int w d t q _ m n hu
 | str m n=>
  split at ht <;> first | (cases ht; done) | skip
  rename_i hu
  rw [run_equalIn_string w d t m n hu,←beq_toListBytes,fB]
 | bool m n=>
  split at ht <;> first | (cases ht; done) | skip
  rename_i hu
  exact run_equalIn_bool w d t m n hu
theorem mw {P:Program} {t:TypeId} {k:FK} (h:gh P t=some k):P.plainKey t=true:=by
 unfold gh at h
 unfold Program.plainKey
 split at h <;> simp_all
theorem iW {G:Gh} {a:AV} {as:List AV} {xs:List Value} {i:Nat} (h:RepL G (a::as) (xs.drop i)):∃ x,xs[i]?=some x∧Rep G a x∧RepL G as (xs.drop (i+1)):=by
 obtain ⟨x,hx,hr⟩:=h.get (j:=0) rfl
 refine ⟨x,by simpa using hx,hr,?_⟩
 have:=h.drop 1
 simpa using this
theorem lM {P:Program} {G:Gh} {xs ys:Array Value} (d:Nat) (w:World):∀ (fs:List Field) (i:Nat) (ks:List FK) (as bs:List AV) (r:Bool),iS P i fs=some ks→RepL G as (xs.toList.drop i)→RepL G bs (ys.toList.drop i)→ci ks as bs=some r →
  (Op.eqFields (d+1) xs ys fs).run P w=.ok r w
 | [],i,ks,as,bs,r,h1,h2,h3,h4=>by
  simp [iS] at h1; subst h1
  unfold ci at h4
  split at h4
  ·injection h4 with h4; subst h4; simp [Op.eqFields]
  ·rename_i e; cases e
  ·cases h4
 | f::fs,i,ks,as,bs,r,h1,h2,h3,h4=>by
  simp only [iS] at h1
  split at h1
  ·rename_i hf
   split at h1
   ·rename_i k ks' hk hks
    injection h1 with h1; subst h1
    unfold ci at h4
    split at h4
    ·rename_i e; cases e
    ·rename_i k0 ks0 a as' b bs' e
     injection e with e1 e2; subst e1; subst e2
     split at h4
     ·rename_i r1 r2 q1 q2
      injection h4 with h4; subst h4
      obtain ⟨x,hx,hrx,htx⟩:=iW h2
      obtain ⟨y,hy,hry,hty⟩:=iW h3
      have hs:=dX q1 hrx hry
      have p1:=run_part_plain (P:=P) w (mw hk) (xs:=xs) (off:=f.offset) (v:=x) (by rw [hf.1]; simpa using hx)
      have p2:=run_part_plain (P:=P) w (mw hk) (xs:=ys) (off:=f.offset) (v:=y) (by rw [hf.1]; simpa using hy)
      simp only [Op.eqFields,Sem.run_bind,Sem.run_ite,if_pos hf.2,p1,p2,Result.andThen_ok,hs.run hk d w]
      cases r1
      ·simp
      ·simp only [Bool.not_true,Bool.false_eq_true,if_false,Bool.true_and]
       exact lM d w fs (i+1) _ as' bs' r2 hks htx hty q2
     ·cases h4
    ·cases h4
   ·cases h1
  ·cases h1
theorem my {P:Program} {t:TypeId} {ks:List FK} (h:jS P t=some ks):P.underlying t=some (.struct (P.fieldsOf t))∧P.stoodInHeld t=false∧iS P 0 (P.fieldsOf t).toList=some ks:=by
 unfold jS at h
 split at h
 ·rename_i fs hu
  have hf:P.fieldsOf t=fs:=by simp [Program.fieldsOf,hu]
  split at h
  ·rename_i hs; rw [hf]; exact ⟨hu,hs,h⟩
  ·cases h
 ·cases h
theorem kI {P:Program} {G:Gh} {t:TypeId} {ks:List FK} (ht:jS P t=some ks) {as bs:List AV} {xs ys:Array Value} {r:Bool} (h:ci ks as bs=some r) (ha:RepL G as xs.toList) (hb:RepL G bs ys.toList) (w:World) :
  (Op.equal t (.agg xs) (.agg ys)).run P w=.ok r w:=by
 obtain ⟨h1,h2,h3⟩:=my ht
 unfold Op.equal
 rw [show Op.maxDepth=9999+1 from rfl,run_equalIn_struct w 9999 t xs ys h1 h2]
 exact lM 9998 w _ 0 ks as bs r h3 (by simpa using ha) (by simpa using hb) h
theorem si {P:Program} {G:Gh} {s:St} {w:World} {t:TypeId} {ks:List FK} (ht:jS P t=some ks) (hg:P.eqGuardType P.depth t=false) {op:BinOp} {a b av:AV} (h:eX (.eqAgg ks) op a b=some av) {x y:Value} {ox oy:Operand} (ha:Rep G a x) (hb:Rep G b y) (hS:Sim G s w) :
  Out P (do eqGuard op t ox oy x y; binOp op t x y) G s w av s:=by
 simp only [eX] at h
 split at h
 ·rename_i as bs
  obtain ⟨xs,rfl,hxs⟩:=ha.ofAgg
  obtain ⟨ys,rfl,hys⟩:=hb.ofAgg
  cases hc:ci ks as bs with
  | none=>simp [hc] at h
  | some r=>
   simp [hc] at h
   have he:=kI ht hc hxs hys w
   unfold iH at h
   split at h
   ·injection h with h; subst h
    refine Out.quiet hS (v:=.bool r) ?_ (.sc _ rfl)
    have h0:=run_eqGuard_agg (P:=P) w .eql t ox oy xs ys hg
    have h1:=run_eql_struct (P:=P) w t xs ys
    simp only [Sem.run_bind,h0,Result.andThen_ok,h1]
    have he':(Op.equalIn 10000 t (.agg xs) (.agg ys)).run P w=.ok r w:=he
    rw [he']; rfl
   ·injection h with h; subst h
    refine Out.quiet hS (v:=.bool !r) ?_ (.sc _ rfl)
    have h0:=run_eqGuard_agg (P:=P) w .neq t ox oy xs ys hg
    have h1:=run_neq_struct (P:=P) w t xs ys
    simp only [Sem.run_bind,h0,Result.andThen_ok,h1]
    have he':(Op.equalIn 10000 t (.agg xs) (.agg ys)).run P w=.ok r w:=he
    rw [he']; rfl
   ·cases h
 ·cases h
end Go.AM
