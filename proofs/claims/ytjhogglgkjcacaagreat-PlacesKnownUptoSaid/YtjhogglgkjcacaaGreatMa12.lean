/- Part of the claim: see its last text. -/
import Derived.Test.YtjhogglgkjcacaaGreatMa11
set_option linter.all false
namespace Go.AM
theorem kE {k:FK} {ks:List FK} {as bs:List AV} {r:Bool} (h:ci (k::ks) as bs=some r) :
  ∃ a as' b bs' r1 r2,as=a::as'∧bs=b::bs'∧fN k a b=some r1∧ci ks as' bs'=some r2∧r=(r1&&r2):=by
 unfold ci at h
 split at h
 ·rename_i e; cases e
 ·rename_i k0 ks0 a as' b bs' e
  injection e with e1 e2; subst e1; subst e2
  split at h
  ·rename_i r1 r2 q1 q2
   injection h with h
   exact ⟨a,as',b,bs',r1,r2,rfl,rfl,q1,q2,h.symm⟩
  ·cases h
 ·cases h
theorem qJ {as bs:List AV} {r:Bool} (h:ci [] as bs=some r):as=[]∧bs=[]∧r=true:=by
 unfold ci at h
 split at h
 ·injection h with h; exact ⟨rfl,rfl,h.symm⟩
 ·rename_i e; cases e
 ·cases h
theorem m8 {P:Program} {w:World} {F:Field→PUnit→Sem (ForInStep PUnit)}:∀ (fs:List Field),(∀ f∈fs,∀ u,(F f u).run P w=.ok (.yield PUnit.unit) w)→(forIn fs PUnit.unit F).run P w=.ok PUnit.unit w
 | [],_=>by simp
 | f::fs,h=>by
  simp only [List.forIn_cons,Sem.run_bind,h f (by simp),Result.andThen_ok]
  exact m8 fs fun g hg=>h g (by simp [hg])
theorem oj {P:Program} {G:Gh} {xs ys:Array Value}:∀ (fs:List Field) (i:Nat) (ks:List FK) (as bs:List AV) (r:Bool),iS P i fs=some ks→RepL G as (xs.toList.drop i)→RepL G bs (ys.toList.drop i)→ci ks as bs=some r →
  ∀ f ∈ fs, f.name ≠ "_" ∧ ∃ k x y q, gh P f.type = some k ∧ xs[f.offset]? = some x ∧ ys[f.offset]? = some y ∧ Same k x y q
 | [],_,_,_,_,_,_,_,_,_,f,hf=>by cases hf
 | g::fs,i,ks,as,bs,r,h1,h2,h3,h4,f,hf=>by
  simp only [iS] at h1
  split at h1
  ·rename_i hg
   split at h1
   ·rename_i k ks' hk hks
    injection h1 with h1; subst h1
    obtain ⟨a,as',b,bs',r1,r2,rfl,rfl,q1,q2,_⟩:=kE h4
    obtain ⟨x,hx,hrx,htx⟩:=iW h2
    obtain ⟨y,hy,hry,hty⟩:=iW h3
    rcases List.mem_cons.1 hf with rfl | hf
    ·exact ⟨hg.2,k,x,y,r1,hk,by rw [hg.1]; simpa using hx,by rw [hg.1]; simpa using hy,dX q1 hrx hry⟩
    ·exact oj fs (i+1) ks' as' bs' r2 hks htx hty q2 f hf
   ·cases h1
  ·cases h1
theorem km {P:Program} {t:TypeId} {k:FK} (ht:gh P t=some k) {x y:Value} {r:Bool} (h:Same k x y r) (em:Bool) (n:Nat) (w:World):(Instr.checkKey em (n+1) t x).run P w=.ok () w:=by
 unfold gh at ht
 cases h <;> split at ht <;> first | (cases ht; done) | skip
 all_goals
  rename_i hu
  unfold Instr.checkKey
  simp [run_underlying hu]
theorem fe {α β:Type} {f:α→β} {o:Option α} {b:β} (h:o.map f=some b):∃ a,o=some a∧b=f a:=by
 cases o with
 | none=>cases h
 | some a=>injection h with h; exact ⟨a,rfl,h.symm⟩
theorem lL {P:Program} {G:Gh} {t:TypeId} {kk:KK} (ht:eY P t=some kk) {a b:AV} {x y:Value} {r:Bool} (ha:Rep G a x) (hb:Rep G b y) (h:fQ kk a b=some r) (em:Bool) (w:World):(Instr.checkKey em 10000 t x).run P w=.ok () w:=by
 unfold eY at ht
 split at ht
 ·rename_i k hk
  injection ht with ht; subst ht
  exact km hk (dX h ha hb) em 9999 w
 ·obtain ⟨ks,hks,rfl⟩:=fe ht
  obtain ⟨h1,h2,h3⟩:=my hks
  unfold fQ at h
  split at h
  ·rename_i e; cases e
  ·rename_i ks0 as bs e
   injection e with e; subst e
   obtain ⟨xs,rfl,hxs⟩:=ha.ofAgg
   obtain ⟨ys,rfl,hys⟩:=hb.ofAgg
   show (Instr.checkKey em (9999+1) t (.agg xs)).run P w=_
   unfold Instr.checkKey
   simp only [Sem.run_bind,run_underlying h1,Result.andThen_ok]
   rw [←Array.forIn_toList]
   rw [m8]
   ·rfl
   ·intro f hf u
    obtain ⟨hn,k,x,y,q,hk,hx,hy,hs⟩:=oj (P:=P) (G:=G) (xs:=xs) (ys:=ys) _ 0 ks as bs r h3 (by simpa using hxs) (by simpa using hys) h f hf
    simp only [Sem.run_bind,Sem.run_ite,if_pos hn,run_part_plain (P:=P) w (mw hk) hx,Result.andThen_ok,km hk hs em 9998 w,Sem.run_pure]
  ·cases h
theorem og {P:Program} {G:Gh} {t:TypeId} {kk:KK} (ht:eY P t=some kk) {a b:AV} {x y:Value} {r:Bool} (ha:Rep G a x) (hb:Rep G b y) (h:fQ kk a b=some r) (w:World):(Op.equal t x y).run P w=.ok r w:=by
 unfold eY at ht
 split at ht
 ·rename_i k hk
  injection ht with ht; subst ht
  exact (dX h ha hb).run hk 9999 w
 ·obtain ⟨ks,hks,rfl⟩:=fe ht
  unfold fQ at h
  split at h
  ·rename_i e; cases e
  ·rename_i ks0 as bs e
   injection e with e; subst e
   obtain ⟨xs,rfl,hxs⟩:=ha.ofAgg
   obtain ⟨ys,rfl,hys⟩:=hb.ofAgg
   exact kI hks h hxs hys w
  ·cases h
theorem k8 {P:Program} {t:TypeId} {k:FK} (ht:gh P t=some k) {d:TypeDesc} (hd:P.underlying t=some d) {x y:Value} {r:Bool} (h:Same k x y r):Instr.sameNow d x y=some r:=by
 unfold gh at ht
 rw [hd] at ht
 cases h <;> (cases d <;> simp at ht <;> simp [Instr.sameNow,fB])
theorem kp {P:Program} {G:Gh} {t:TypeId} {kk:KK} (ht:eY P t=some kk) {a:AV} {x:Value} (ha:Rep G a x) (w:World):∀ (es:List MapEntry) (kv:List (AV×AV)) (i:Nat) (r:Option Nat),es.length=kv.length→(∀ (j:Nat) (e:MapEntry) (p:AV×AV),es[j]?=some e→kv[j]?=some p→Rep G p.1 e.key) →
  dR kk a kv i=some r→(Instr.findAsking t x es i).run P w=.ok (r.bind fun j=>(es[j-i]?).map fun e=>(j,e.val)) w∧(∀ j,r=some j→i≤j∧j-i<es.length)
 | [],kv,i,r,hl,hr,h=>by
  have:kv=[]:=List.eq_nil_of_length_eq_zero hl.symm
  subst this
  simp [dR] at h; subst h
  exact ⟨by simp [Instr.findAsking],by simp⟩
 | e::es,[],i,r,hl,hr,h=>by simp at hl
 | e::es,p::kv,i,r,hl,hr,h=>by
  simp only [dR] at h
  have hp:=hr 0 e p rfl rfl
  split at h
  ·rename_i hk
   injection h with h; subst h
   refine ⟨?_,fun j hj=>by injection hj with hj; subst hj; simp⟩
   simp [Instr.findAsking,og ht ha hp hk w]
  ·rename_i hk
   obtain ⟨h1,h2⟩:=kp ht ha w es kv (i+1) r (by simpa using hl) (fun j e' p' he hp'=>hr (j+1) e' p' (by simpa using he) (by simpa using hp')) h
   refine ⟨?_,fun j hj=>?_⟩
   ·simp only [Instr.findAsking,Sem.run_bind,og ht ha hp hk w,Result.andThen_ok,Bool.false_eq_true,if_false,h1]
    cases r with
    | none=>rfl
    | some j=>
     have:=h2 j rfl
     simp only [Option.bind_some]
     rw [show j-i=(j-(i+1))+1 by omega,List.getElem?_cons_succ]
   ·have:=h2 j hj
    simp; omega
  ·cases h
theorem mZ {P:Program} {G:Gh} {t:TypeId} {k:FK} (ht:gh P t=some k) {d:TypeDesc} (hd:P.underlying t=some d) {a:AV} {x:Value} (ha:Rep G a x):∀ (es:List MapEntry) (kv:List (AV×AV)) (i:Nat) (r:Option Nat),es.length=kv.length→(∀ (j:Nat) (e:MapEntry) (p:AV×AV),es[j]?=some e→kv[j]?=some p→Rep G p.1 e.key) →
  dR (.one k) a kv i=some r→Instr.findNow d x es i=some (r.bind fun j=>(es[j-i]?).map fun e=>(j,e.val))∧(∀ j,r=some j→i≤j∧j-i<es.length)
 | [],kv,i,r,hl,hr,h=>by
  have:kv=[]:=List.eq_nil_of_length_eq_zero hl.symm
  subst this
  simp [dR] at h; subst h
  exact ⟨by simp [Instr.findNow],by simp⟩
 | e::es,[],i,r,hl,hr,h=>by simp at hl
 | e::es,p::kv,i,r,hl,hr,h=>by
  simp only [dR] at h
  have hp:=hr 0 e p rfl rfl
  split at h
  ·rename_i hk
   injection h with h; subst h
   refine ⟨?_,fun j hj=>by injection hj with hj; subst hj; simp⟩
   simp [Instr.findNow,k8 ht hd (dX hk ha hp)]
  ·rename_i hk
   obtain ⟨h1,h2⟩:=mZ ht hd ha es kv (i+1) r (by simpa using hl) (fun j e' p' he hp'=>hr (j+1) e' p' (by simpa using he) (by simpa using hp')) h
   refine ⟨?_,fun j hj=>?_⟩
   ·simp only [Instr.findNow,k8 ht hd (dX hk ha hp),h1]
    cases r with
    | none=>rfl
    | some j=>
     have:=h2 j rfl
     simp only [Option.bind_some]
     rw [show j-i=(j-(i+1))+1 by omega,List.getElem?_cons_succ]
   ·have:=h2 j hj
    simp; omega
  ·cases h
theorem uL {P:Program} {t:TypeId} {kk:KK} (ht:eY P t=some kk):∃ d,P.underlying t=some d:=by
 unfold eY at ht
 cases hu:P.underlying t with
 | some d=>exact ⟨d,rfl⟩
 | none=>simp [gh,jS,hu] at ht
theorem mY {P:Program} {G:Gh} {t:TypeId} {kk:KK} (ht:eY P t=some kk) {a:AV} {x:Value} (ha:Rep G a x) (w:World) {es:List MapEntry} {kv:List (AV×AV)} {r:Option Nat} (hl:es.length=kv.length) (hr:∀ (j:Nat) (e:MapEntry) (p:AV×AV),es[j]?=some e→kv[j]?=some p→Rep G p.1 e.key)
  (h:dR kk a kv 0=some r):(Instr.findKey t x es).run P w=.ok (r.bind fun j=>(es[j]?).map fun e=>(j,e.val)) w∧(∀ j,r=some j→j<es.length):=by
 obtain ⟨d,hd⟩:=uL ht
 obtain ⟨h1,h2⟩:=kp ht ha w es kv 0 r hl hr h
 refine ⟨?_,fun j hj=>by simpa using (h2 j hj).2⟩
 simp only [Instr.findKey,Sem.run_bind,run_underlying hd,Result.andThen_ok]
 split
 ·rename_i q hq
  have hq':q=r.bind fun j=>(es[j]?).map fun e=>(j,e.val):=by
   unfold eY at ht
   split at ht
   ·rename_i k hk
    injection ht with ht; subst ht
    obtain ⟨h3,_⟩:=mZ hk hd ha es kv 0 r hl hr h
    rw [h3] at hq
    injection hq with hq
    simpa using hq.symm
   ·obtain ⟨ks,hks,rfl⟩:=fe ht
    obtain ⟨u1,_⟩:=my hks
    rw [hd] at u1; injection u1 with u1; subst u1
    cases es with
    | nil=>
     have:kv=[]:=List.eq_nil_of_length_eq_zero hl.symm
     subst this
     simp [dR] at h; subst h
     simp [Instr.findNow] at hq
     simpa using hq.symm
    | cons e es=>simp [Instr.findNow,Instr.sameNow] at hq
  rw [hq']; rfl
 ·have:=h1
  simpa using this
end Go.AM
