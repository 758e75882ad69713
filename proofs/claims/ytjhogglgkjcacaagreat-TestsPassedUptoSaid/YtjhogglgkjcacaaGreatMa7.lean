/- Part of the claim: see its last text. -/
import Derived.Test.YtjhogglgkjcacaaGreatMa6
import Derived.ChangeKeysEq
import Derived.MapKept
import Derived.Laws.StructEq
import Derived.Laws.IdiomRangeMap
set_option linter.all false
namespace Go.AM
def fS (P:Program) (t:TypeId):Option FK:=match P.underlying t with
 | some (.int _)=>some .int
 | some .string=>some .str
 | some .bool=>some .bool
 | _=>none
def iS (P:Program):Nat→List Field→Option (List FK)
 | _,[]=>some []
 | i, f :: fs => if f.offset = i ∧ f.name ≠ "_" then match fS P f.type, iS P (i + 1) fs with
   | some k,some ks=>some (k::ks)
   | _,_=>none
  else none
def jP (P:Program) (t:TypeId):Option (List FK):=match P.underlying t with
 | some (.struct fs)=>if P.stoodInHeld t=false then iS P 0 fs.toList else none
 | _=>none
def eM (P:Program) (t:TypeId):Option KK:=match fS P t with
 | some k=>some (.one k)
 | none=>(jP P t).map .agg
theorem fj (m n:ByteArray):(m==n)=decide (m=n):=by
 rw [beq_toListBytes,ByteArray.toList_eq,ByteArray.toList_eq]
 obtain ⟨a⟩:=m; obtain ⟨b⟩:=n
 show (a.toList==b.toList)=_
 by_cases h:a=b
 ·subst h; simp
 ·have h1:¬a.toList=b.toList:=fun e=>h (Array.toList_inj.1 e)
  have h2:¬(ByteArray.mk a=ByteArray.mk b):=fun e=>h (by injection e)
  rw [decide_eq_false h2]
  simpa using h
inductive Same:FK→Value→Value→Bool→Prop
 | int (q:IntKind) (m n:Int):Same .int (.int q m) (.int q n) (m==n)
 | str (m n:ByteArray):Same .str (.string m) (.string n) (decide (m=n))
 | bool (m n:Bool):Same .bool (.bool m) (.bool n) (m==n)
theorem dN {G:Gh} {k:FK} {a b:AV} {r:Bool} {x y:Value} (h:gF k a b=some r) (ha:Rep G a x) (hb:Rep G b y):Same k x y r:=by
 unfold gF at h
 split at h
 ·obtain ⟨rfl,_⟩:=bE ha
  obtain ⟨rfl,_⟩:=bE hb
  split at h
  ·rename_i e; subst e; injection h with h; subst h; exact .int _ _ _
  ·cases h
 ·obtain ⟨rfl,_⟩:=bE ha
  obtain ⟨rfl,_⟩:=bE hb
  injection h with h; subst h; exact .str _ _
 ·obtain ⟨rfl,_⟩:=bE ha
  obtain ⟨rfl,_⟩:=bE hb
  injection h with h; subst h; exact .bool _ _
 ·cases h
theorem Same.eq {k:FK} {x y:Value} (h:Same k x y true):x=y:=by
 generalize hr:true=r at h
 cases h with
 | int q m n=>
  have:m=n:=by simpa using hr.symm
  rw [this]
 | str m n=>
  have:m=n:=by simpa using hr.symm
  rw [this]
 | bool m n=>
  have:m=n:=by simpa using hr.symm
  rw [this]
theorem Same.run {P:Program} {k:FK} {x y:Value} {r:Bool} (h:Same k x y r) {t:TypeId} (ht:fS P t=some k) (d:Nat) (w:World):(Op.equalIn (d+1) t x y).run P w=.ok r w:=by
 unfold fS at ht
 cases h with
 | int q m n=>
  split at ht <;> first | (cases ht; done) | skip
  rename_i hu
  exact run_equalIn_int w d t q _ m n hu
 | str m n=>
  split at ht <;> first | (cases ht; done) | skip
  rename_i hu
  rw [run_equalIn_string w d t m n hu,←beq_toListBytes,fj]
 | bool m n=>
  split at ht <;> first | (cases ht; done) | skip
  rename_i hu
  exact run_equalIn_bool w d t m n hu
theorem mw {P:Program} {t:TypeId} {k:FK} (h:fS P t=some k):P.plainKey t=true:=by
 unfold fS at h
 unfold Program.plainKey
 split at h <;> simp_all
theorem iY {G:Gh} {a:AV} {as:List AV} {xs:List Value} {i:Nat} (h:RepL G (a::as) (xs.drop i)):∃ x,xs[i]?=some x∧Rep G a x∧RepL G as (xs.drop (i+1)):=by
 obtain ⟨x,hx,hr⟩:=h.get (j:=0) rfl
 refine ⟨x,by simpa using hx,hr,?_⟩
 have:=h.drop 1
 simpa using this
theorem lM {P:Program} {G:Gh} {xs ys:Array Value} (d:Nat) (w:World):∀ (fs:List Field) (i:Nat) (ks:List FK) (as bs:List AV) (r:Bool),iS P i fs=some ks→RepL G as (xs.toList.drop i)→RepL G bs (ys.toList.drop i)→cq ks as bs=some r →
  (Op.eqFields (d+1) xs ys fs).run P w=.ok r w
 | [],i,ks,as,bs,r,h1,h2,h3,h4=>by
  simp [iS] at h1; subst h1
  unfold cq at h4
  split at h4
  ·injection h4 with h4; subst h4; simp [Op.eqFields]
  ·rename_i e; cases e
  ·cases h4
 | f::fs,i,ks,as,bs,r,h1,h2,h3,h4=>by
  simp only [iS] at h1
  split at h1
  ·rename_i hf
   split at h1
   ·rename_i k ks' hk hks
    injection h1 with h1; subst h1
    unfold cq at h4
    split at h4
    ·rename_i e; cases e
    ·rename_i k0 ks0 a as' b bs' e
     injection e with e1 e2; subst e1; subst e2
     split at h4
     ·rename_i r1 r2 q1 q2
      injection h4 with h4; subst h4
      obtain ⟨x,hx,hrx,htx⟩:=iY h2
      obtain ⟨y,hy,hry,hty⟩:=iY h3
      have hs:=dN q1 hrx hry
      have p1:=run_part_plain (P:=P) w (mw hk) (xs:=xs) (off:=f.offset) (v:=x) (by rw [hf.1]; simpa using hx)
      have p2:=run_part_plain (P:=P) w (mw hk) (xs:=ys) (off:=f.offset) (v:=y) (by rw [hf.1]; simpa using hy)
      simp only [Op.eqFields,Sem.run_bind,Sem.run_ite,if_pos hf.2,p1,p2,Result.andThen_ok,hs.run hk d w]
      cases r1
      ·simp
      ·simp only [Bool.not_true,Bool.false_eq_true,if_false,Bool.true_and]
       exact lM d w fs (i+1) _ as' bs' r2 hks htx hty q2
     ·cases h4
    ·cases h4
   ·cases h1
  ·cases h1
theorem mz {P:Program} {t:TypeId} {ks:List FK} (h:jP P t=some ks):P.underlying t=some (.struct (P.fieldsOf t))∧P.stoodInHeld t=false∧iS P 0 (P.fieldsOf t).toList=some ks:=by
 unfold jP at h
 split at h
 ·rename_i fs hu
  have hf:P.fieldsOf t=fs:=by simp [Program.fieldsOf,hu]
  split at h
  ·rename_i hs; rw [hf]; exact ⟨hu,hs,h⟩
  ·cases h
 ·cases h
theorem kF {P:Program} {G:Gh} {t:TypeId} {ks:List FK} (ht:jP P t=some ks) {as bs:List AV} {xs ys:Array Value} {r:Bool} (h:cq ks as bs=some r) (ha:RepL G as xs.toList) (hb:RepL G bs ys.toList) (w:World) :
  (Op.equal t (.agg xs) (.agg ys)).run P w=.ok r w:=by
 obtain ⟨h1,h2,h3⟩:=mz ht
 unfold Op.equal
 rw [show Op.maxDepth=9999+1 from rfl,run_equalIn_struct w 9999 t xs ys h1 h2]
 exact lM 9998 w _ 0 ks as bs r h3 (by simpa using ha) (by simpa using hb) h
theorem sJ {P:Program} {G:Gh} {s:St} {w:World} {t:TypeId} {ks:List FK} (ht:jP P t=some ks) (hg:P.eqGuardType P.depth t=false) {op:BinOp} {a b av:AV} (h:eL (.eqAgg ks) op a b=some av) {x y:Value} {ox oy:Operand} (ha:Rep G a x) (hb:Rep G b y) (hS:Sim G s w) :
  Out P (do eqGuard op t ox oy x y; binOp op t x y) G s w av s:=by
 simp only [eL] at h
 split at h
 ·rename_i as bs
  obtain ⟨xs,rfl,hxs⟩:=ha.ofAgg
  obtain ⟨ys,rfl,hys⟩:=hb.ofAgg
  cases hc:cq ks as bs with
  | none=>simp [hc] at h
  | some r=>
   simp [hc] at h
   have he:=kF ht hc hxs hys w
   unfold iB at h
   split at h
   ·injection h with h; subst h
    refine Out.quiet hS (v:=.bool r) ?_ (.sc _ rfl)
    have h0:=run_eqGuard_agg (P:=P) w .eql t ox oy xs ys hg
    have h1:=run_eql_struct (P:=P) w t xs ys
    simp only [Sem.run_bind,h0,Result.andThen_ok,h1]
    have he':(Op.equalIn 10000 t (.agg xs) (.agg ys)).run P w=.ok r w:=he
    rw [he']; rfl
   ·injection h with h; subst h
    refine Out.quiet hS (v:=.bool !r) ?_ (.sc _ rfl)
    have h0:=run_eqGuard_agg (P:=P) w .neq t ox oy xs ys hg
    have h1:=run_neq_struct (P:=P) w t xs ys
    simp only [Sem.run_bind,h0,Result.andThen_ok,h1]
    have he':(Op.equalIn 10000 t (.agg xs) (.agg ys)).run P w=.ok r w:=he
    rw [he']; rfl
   ·cases h
 ·cases h
end Go.AM
namespace Go.AM
theorem kB {k:FK} {ks:List FK} {as bs:List AV} {r:Bool} (h:cq (k::ks) as bs=some r) :
  ∃ a as' b bs' r1 r2,as=a::as'∧bs=b::bs'∧gF k a b=some r1∧cq ks as' bs'=some r2∧r=(r1&&r2):=by
 unfold cq at h
 split at h
 ·rename_i e; cases e
 ·rename_i k0 ks0 a as' b bs' e
  injection e with e1 e2; subst e1; subst e2
  split at h
  ·rename_i r1 r2 q1 q2
   injection h with h
   exact ⟨a,as',b,bs',r1,r2,rfl,rfl,q1,q2,h.symm⟩
  ·cases h
 ·cases h
theorem ra {as bs:List AV} {r:Bool} (h:cq [] as bs=some r):as=[]∧bs=[]∧r=true:=by
 unfold cq at h
 split at h
 ·injection h with h; exact ⟨rfl,rfl,h.symm⟩
 ·rename_i e; cases e
 ·cases h
theorem nh {P:Program} {w:World} {F:Field→PUnit→Sem (ForInStep PUnit)}:∀ (fs:List Field),(∀ f∈fs,∀ u,(F f u).run P w=.ok (.yield PUnit.unit) w)→(forIn fs PUnit.unit F).run P w=.ok PUnit.unit w
 | [],_=>by simp
 | f::fs,h=>by
  simp only [List.forIn_cons,Sem.run_bind,h f (by simp),Result.andThen_ok]
  exact nh fs fun g hg=>h g (by simp [hg])
theorem oT {P:Program} {G:Gh} {xs ys:Array Value}:∀ (fs:List Field) (i:Nat) (ks:List FK) (as bs:List AV) (r:Bool),iS P i fs=some ks→RepL G as (xs.toList.drop i)→RepL G bs (ys.toList.drop i)→cq ks as bs=some r →
  ∀ f ∈ fs, f.name ≠ "_" ∧ ∃ k x y q, fS P f.type = some k ∧ xs[f.offset]? = some x ∧ ys[f.offset]? = some y ∧ Same k x y q
 | [],_,_,_,_,_,_,_,_,_,f,hf=>by cases hf
 | g::fs,i,ks,as,bs,r,h1,h2,h3,h4,f,hf=>by
  simp only [iS] at h1
  split at h1
  ·rename_i hg
   split at h1
   ·rename_i k ks' hk hks
    injection h1 with h1; subst h1
    obtain ⟨a,as',b,bs',r1,r2,rfl,rfl,q1,q2,_⟩:=kB h4
    obtain ⟨x,hx,hrx,htx⟩:=iY h2
    obtain ⟨y,hy,hry,hty⟩:=iY h3
    rcases List.mem_cons.1 hf with rfl | hf
    ·exact ⟨hg.2,k,x,y,r1,hk,by rw [hg.1]; simpa using hx,by rw [hg.1]; simpa using hy,dN q1 hrx hry⟩
    ·exact oT fs (i+1) ks' as' bs' r2 hks htx hty q2 f hf
   ·cases h1
  ·cases h1
theorem kf {P:Program} {t:TypeId} {k:FK} (ht:fS P t=some k) {x y:Value} {r:Bool} (h:Same k x y r) (em:Bool) (n:Nat) (w:World):(Instr.checkKey em (n+1) t x).run P w=.ok () w:=by
 unfold fS at ht
 cases h <;> split at ht <;> first | (cases ht; done) | skip
 all_goals
  rename_i hu
  unfold Instr.checkKey
  simp [run_underlying hu]
theorem eR {α β:Type} {f:α→β} {o:Option α} {b:β} (h:o.map f=some b):∃ a,o=some a∧b=f a:=by
 cases o with
 | none=>cases h
 | some a=>injection h with h; exact ⟨a,rfl,h.symm⟩
theorem lL {P:Program} {G:Gh} {t:TypeId} {kk:KK} (ht:eM P t=some kk) {a b:AV} {x y:Value} {r:Bool} (ha:Rep G a x) (hb:Rep G b y) (h:fD kk a b=some r) (em:Bool) (w:World):(Instr.checkKey em 10000 t x).run P w=.ok () w:=by
 unfold eM at ht
 split at ht
 ·rename_i k hk
  injection ht with ht; subst ht
  exact kf hk (dN h ha hb) em 9999 w
 ·obtain ⟨ks,hks,rfl⟩:=eR ht
  obtain ⟨h1,h2,h3⟩:=mz hks
  unfold fD at h
  split at h
  ·rename_i e; cases e
  ·rename_i ks0 as bs e
   injection e with e; subst e
   obtain ⟨xs,rfl,hxs⟩:=ha.ofAgg
   obtain ⟨ys,rfl,hys⟩:=hb.ofAgg
   show (Instr.checkKey em (9999+1) t (.agg xs)).run P w=_
   unfold Instr.checkKey
   simp only [Sem.run_bind,run_underlying h1,Result.andThen_ok]
   rw [←Array.forIn_toList]
   rw [nh]
   ·rfl
   ·intro f hf u
    obtain ⟨hn,k,x,y,q,hk,hx,hy,hs⟩:=oT (P:=P) (G:=G) (xs:=xs) (ys:=ys) _ 0 ks as bs r h3 (by simpa using hxs) (by simpa using hys) h f hf
    simp only [Sem.run_bind,Sem.run_ite,if_pos hn,run_part_plain (P:=P) w (mw hk) hx,Result.andThen_ok,kf hk hs em 9998 w,Sem.run_pure]
  ·cases h
theorem oQ {P:Program} {G:Gh} {t:TypeId} {kk:KK} (ht:eM P t=some kk) {a b:AV} {x y:Value} {r:Bool} (ha:Rep G a x) (hb:Rep G b y) (h:fD kk a b=some r) (w:World):(Op.equal t x y).run P w=.ok r w:=by
 unfold eM at ht
 split at ht
 ·rename_i k hk
  injection ht with ht; subst ht
  exact (dN h ha hb).run hk 9999 w
 ·obtain ⟨ks,hks,rfl⟩:=eR ht
  unfold fD at h
  split at h
  ·rename_i e; cases e
  ·rename_i ks0 as bs e
   injection e with e; subst e
   obtain ⟨xs,rfl,hxs⟩:=ha.ofAgg
   obtain ⟨ys,rfl,hys⟩:=hb.ofAgg
   exact kF hks h hxs hys w
  ·cases h
theorem kT {P:Program} {t:TypeId} {k:FK} (ht:fS P t=some k) {d:TypeDesc} (hd:P.underlying t=some d) {x y:Value} {r:Bool} (h:Same k x y r):Instr.sameNow d x y=some r:=by
 unfold fS at ht
 rw [hd] at ht
 cases h <;> (cases d <;> simp at ht <;> simp [Instr.sameNow,fj])
theorem ki {P:Program} {G:Gh} {t:TypeId} {kk:KK} (ht:eM P t=some kk) {a:AV} {x:Value} (ha:Rep G a x) (w:World):∀ (es:List MapEntry) (kv:List (AV×AV)) (i:Nat) (r:Option Nat),es.length=kv.length→(∀ (j:Nat) (e:MapEntry) (p:AV×AV),es[j]?=some e→kv[j]?=some p→Rep G p.1 e.key) →
  dI kk a kv i=some r→(Instr.findAsking t x es i).run P w=.ok (r.bind fun j=>(es[j-i]?).map fun e=>(j,e.val)) w∧(∀ j,r=some j→i≤j∧j-i<es.length)
 | [],kv,i,r,hl,hr,h=>by
  have:kv=[]:=List.eq_nil_of_length_eq_zero hl.symm
  subst this
  simp [dI] at h; subst h
  exact ⟨by simp [Instr.findAsking],by simp⟩
 | e::es,[],i,r,hl,hr,h=>by simp at hl
 | e::es,p::kv,i,r,hl,hr,h=>by
  simp only [dI] at h
  have hp:=hr 0 e p rfl rfl
  split at h
  ·rename_i hk
   injection h with h; subst h
   refine ⟨?_,fun j hj=>by injection hj with hj; subst hj; simp⟩
   simp [Instr.findAsking,oQ ht ha hp hk w]
  ·rename_i hk
   obtain ⟨h1,h2⟩:=ki ht ha w es kv (i+1) r (by simpa using hl) (fun j e' p' he hp'=>hr (j+1) e' p' (by simpa using he) (by simpa using hp')) h
   refine ⟨?_,fun j hj=>?_⟩
   ·simp only [Instr.findAsking,Sem.run_bind,oQ ht ha hp hk w,Result.andThen_ok,Bool.false_eq_true,if_false,h1]
    cases r with
    | none=>rfl
    | some j=>
     have:=h2 j rfl
     simp only [Option.bind_some]
     rw [show j-i=(j-(i+1))+1 by omega,List.getElem?_cons_succ]
   ·have:=h2 j hj
    simp; omega
  ·cases h
theorem m8 {P:Program} {G:Gh} {t:TypeId} {k:FK} (ht:fS P t=some k) {d:TypeDesc} (hd:P.underlying t=some d) {a:AV} {x:Value} (ha:Rep G a x):∀ (es:List MapEntry) (kv:List (AV×AV)) (i:Nat) (r:Option Nat),es.length=kv.length→(∀ (j:Nat) (e:MapEntry) (p:AV×AV),es[j]?=some e→kv[j]?=some p→Rep G p.1 e.key) →
  dI (.one k) a kv i=some r→Instr.findNow d x es i=some (r.bind fun j=>(es[j-i]?).map fun e=>(j,e.val))∧(∀ j,r=some j→i≤j∧j-i<es.length)
 | [],kv,i,r,hl,hr,h=>by
  have:kv=[]:=List.eq_nil_of_length_eq_zero hl.symm
  subst this
  simp [dI] at h; subst h
  exact ⟨by simp [Instr.findNow],by simp⟩
 | e::es,[],i,r,hl,hr,h=>by simp at hl
 | e::es,p::kv,i,r,hl,hr,h=>by
  simp only [dI] at h
  have hp:=hr 0 e p rfl rfl
  split at h
  ·rename_i hk
   injection h with h; subst h
   refine ⟨?_,fun j hj=>by injection hj with hj; subst hj; simp⟩
   simp [Instr.findNow,kT ht hd (dN hk ha hp)]
  ·rename_i hk
   obtain ⟨h1,h2⟩:=m8 ht hd ha es kv (i+1) r (by simpa using hl) (fun j e' p' he hp'=>hr (j+1) e' p' (by simpa using he) (by simpa using hp')) h
   refine ⟨?_,fun j hj=>?_⟩
   ·simp only [Instr.findNow,kT ht hd (dN hk ha hp),h1]
    cases r with
    | none=>rfl
    | some j=>
     have:=h2 j rfl
     simp only [Option.bind_some]
     rw [show j-i=(j-(i+1))+1 by omega,List.getElem?_cons_succ]
   ·have:=h2 j hj
    simp; omega
  ·cases h
theorem uQ {P:Program} {t:TypeId} {kk:KK} (ht:eM P t=some kk):∃ d,P.underlying t=some d:=by
 unfold eM at ht
 cases hu:P.underlying t with
 | some d=>exact ⟨d,rfl⟩
 | none=>simp [fS,jP,hu] at ht
theorem m7 {P:Program} {G:Gh} {t:TypeId} {kk:KK} (ht:eM P t=some kk) {a:AV} {x:Value} (ha:Rep G a x) (w:World) {es:List MapEntry} {kv:List (AV×AV)} {r:Option Nat} (hl:es.length=kv.length) (hr:∀ (j:Nat) (e:MapEntry) (p:AV×AV),es[j]?=some e→kv[j]?=some p→Rep G p.1 e.key)
  (h:dI kk a kv 0=some r):(Instr.findKey t x es).run P w=.ok (r.bind fun j=>(es[j]?).map fun e=>(j,e.val)) w∧(∀ j,r=some j→j<es.length):=by
 obtain ⟨d,hd⟩:=uQ ht
 obtain ⟨h1,h2⟩:=ki ht ha w es kv 0 r hl hr h
 refine ⟨?_,fun j hj=>by simpa using (h2 j hj).2⟩
 simp only [Instr.findKey,Sem.run_bind,run_underlying hd,Result.andThen_ok]
 split
 ·rename_i q hq
  have hq':q=r.bind fun j=>(es[j]?).map fun e=>(j,e.val):=by
   unfold eM at ht
   split at ht
   ·rename_i k hk
    injection ht with ht; subst ht
    obtain ⟨h3,_⟩:=m8 hk hd ha es kv 0 r hl hr h
    rw [h3] at hq
    injection hq with hq
    simpa using hq.symm
   ·obtain ⟨ks,hks,rfl⟩:=eR ht
    obtain ⟨u1,_⟩:=mz hks
    rw [hd] at u1; injection u1 with u1; subst u1
    cases es with
    | nil=>
     have:kv=[]:=List.eq_nil_of_length_eq_zero hl.symm
     subst this
     simp [dI] at h; subst h
     simp [Instr.findNow] at hq
     simpa using hq.symm
    | cons e es=>simp [Instr.findNow,Instr.sameNow] at hq
  rw [hq']; rfl
 ·have:=h1
  simpa using this
end Go.AM
