/- Part of the claim: see its last text. -/
import Derived.Test.YtjhogglgkjcacaaGreatMa6
import Derived.ChangeKeysEq
import Derived.MapKept
import Derived.Laws.StructEq
import Derived.Laws.IdiomRangeMap
set_option linter.all false
namespace Go.AM
def iP (P:Program) (t:TypeId):Option FK:=match P.underlying t with
 | some (.int _)=>some .int
 | some .string=>some .str
 | some .bool=>some .bool
 | _=>none
def kB (P:Program):Nat->List Field->Option (List FK)
 | _,[]=>some []
 | i, a :: b => if a.offset = i ∧ a.name ≠ "_" then match iP P a.type, kB P (i + 1) b with
   | some c,some d=>some (c::d)
   | _,_=>none
  else none
def iu (P:Program) (t:TypeId):Option (List FK):=match P.underlying t with
 | some (.struct a)=>if P.stoodInHeld t=false then kB P 0 a.toList else none
 | _=>none
def fN (P:Program) (t:TypeId):Option KK:=match iP P t with
 | some a=>some (.one a)
 | none=>(iu P t).map .agg
theorem gV (m n:ByteArray):(m==n)=decide (m=n):=by
 rw [beq_toListBytes,ByteArray.toList_eq,ByteArray.toList_eq];obtain ⟨a⟩:=m; obtain ⟨b⟩:=n;show (a.toList==b.toList)=_;by_cases c:a=b
 ·subst c; simp
 ·have f:¬a.toList=b.toList:=fun d=>c (EF.1 d);have e:¬(ByteArray.mk a=ByteArray.mk b):=fun d=>c (by injection d)
  rw [decide_eq_false e];simpa using c
inductive Same:FK->Value->Value->Bool->Prop
 | int (q:IntKind) (m n:Int):Same .int (.int q m) (.int q n) (m==n)
 | str (m n:ByteArray):Same .str (.string m) (.string n) (decide (m=n))
 | bool (m n:Bool):Same .bool (.bool m) (.bool n) (m==n)
theorem eZ {G:Gh} {k:FK} {a b:AV} {r:Bool} {x y:Value} (h:eU k a b=some r) (c:Rep G a x) (d:Rep G b y):Same k x y r:=by
 unfold eU at h;split at h
 ·obtain ⟨rfl,_⟩:=bH c;obtain ⟨rfl,_⟩:=bH d;split at h
  ·rename_i e; subst e; injection h with h; subst h; exact .int _ _ _
  ·cases h
 ·obtain ⟨rfl,_⟩:=bH c;obtain ⟨rfl,_⟩:=bH d;injection h with h; subst h; exact .str _ _
 ·obtain ⟨rfl,_⟩:=bH c;obtain ⟨rfl,_⟩:=bH d;injection h with h; subst h; exact .bool _ _
 ·cases h
theorem Same.eq {k:FK} {x y:Value} (h:Same k x y true):x=y:=by
 generalize b:true=r at h;cases h with
 | int c a n=>
  have:a=n:=by simpa using b.symm
  rw [this]
 | str a n=>
  have:a=n:=by simpa using b.symm
  rw [this]
 | bool a n=>
  have:a=n:=by simpa using b.symm
  rw [this]
theorem Same.run {P:Program} {k:FK} {x y:Value} {r:Bool} (h:Same k x y r) {t:TypeId} (a:iP P t=some k) (d:Nat) (w:World):(Op.equalIn (d+1) t x y).run P w=.ok r w:=by
 unfold iP at a;cases h with
 | int e c n=>
  split at a <;> first | (cases a; done) | skip
  rename_i b;exact run_equalIn_int w d t e _ c n b
 | str c n=>
  split at a <;> first | (cases a; done) | skip
  rename_i b;rw [run_equalIn_string w d t c n b,<-beq_toListBytes,gV]
 | bool c n=>
  split at a <;> first | (cases a; done) | skip
  rename_i b;exact run_equalIn_bool w d t c n b
theorem pm {P:Program} {t:TypeId} {k:FK} (h:iP P t=some k):P.plainKey t=true:=by
 unfold iP at h;unfold Program.plainKey;split at h <;> simp_all
theorem kJ {G:Gh} {a:AV} {b:List AV} {xs:List Value} {i:Nat} (h:RepL G (a::b) (xs.drop i)):∃ x,xs[i]?=some x/\Rep G a x/\RepL G b (xs.drop (i+1)):=by
 obtain ⟨x,d,c⟩:=h.get (j:=0) rfl;refine ⟨x,by simpa using d,c,?_⟩
 have:=h.drop 1;simpa using this
theorem ot {P:Program} {G:Gh} {xs ys:Array Value} (f:Nat) (w:World):∀ (e:List Field) (i:Nat) (ks:List FK) (d bs:List AV) (r:Bool),kB P i e=some ks->RepL G d (xs.toList.drop i)->RepL G bs (ys.toList.drop i)->cd ks d bs=some r ->
  (Op.eqFields (f+1) xs ys e).run P w=.ok r w
 | [],i,ks,d,bs,r,b,l,m,a=>by
  simp [kB] at b; subst b;unfold cd at a;split at a
  ·injection a with a; subst a; simp [Op.eqFields]
  ·rename_i c; cases c
  ·cases a
 | k::e,i,ks,d,bs,r,b,l,m,a=>by
  simp only [kB] at b;split at b
  ·rename_i g;split at b
   ·rename_i W Z h u;injection b with b; subst b;unfold cd at a;split at a
    ·rename_i c; cases c
    ·rename_i Y aa T o U p c;injection c with q t; subst q; subst t;split at a
     ·rename_i O Q M N;injection a with a; subst a;obtain ⟨R,D,v,z⟩:=kJ l;obtain ⟨S,H,x,C⟩:=kJ m;have y:=eZ M v x;have J:=run_part_plain (P:=P) w (pm h) (xs:=xs) (off:=k.offset) (v:=R) (by rw [g.1]; simpa using D)
      have K:=run_part_plain (P:=P) w (pm h) (xs:=ys) (off:=k.offset) (v:=S) (by rw [g.1]; simpa using H)
      simp only [Op.eqFields,Sem.run_bind,Sem.run_ite,if_pos g.2,J,K,Result.andThen_ok,y.run h f w];cases O
      ·simp
      ·simp only [y8,u1,if_false,yt];exact ot f w e (i+1) _ o p Q u z C N
     ·cases a
    ·cases a
   ·cases b
  ·cases b
theorem po {P:Program} {t:TypeId} {ks:List FK} (h:iu P t=some ks):P.underlying t=some (.struct (P.fieldsOf t))/\P.stoodInHeld t=false/\kB P 0 (P.fieldsOf t).toList=some ks:=by
 unfold iu at h;split at h
 ·rename_i b a;have c:P.fieldsOf t=b:=by simp [Program.fieldsOf,a]
  split at h
  ·rename_i d; rw [c]; exact ⟨a,d,h⟩
  ·cases h
 ·cases h
theorem na {P:Program} {G:Gh} {t:TypeId} {ks:List FK} (g:iu P t=some ks) {a bs:List AV} {xs ys:Array Value} {r:Bool} (h:cd ks a bs=some r) (e:RepL G a xs.toList) (f:RepL G bs ys.toList) (w:World) :
  (Op.equal t (.agg xs) (.agg ys)).run P w=.ok r w:=by
 obtain ⟨b,c,d⟩:=po g;unfold Op.equal;rw [show Op.maxDepth=9999+1 from rfl,run_equalIn_struct w 9999 t xs ys b c]
 exact ot 9998 w _ 0 ks a bs r d (by simpa using e) (by simpa using f) h
theorem vG {P:Program} {G:Gh} {s:St} {w:World} {t:TypeId} {ks:List FK} (q:iu P t=some ks) (l:P.eqGuardType P.depth t=false) {op:BinOp} {a b av:AV} (h:gq (.eqAgg ks) op a b=some av) {x y:Value} {ox oy:Operand} (o:Rep G a x) (p:Rep G b y) (g:Sim G s w) :
  Out P (do eqGuard op t ox oy x y; binOp op t x y) G s w av s:=by
 simp only [gq] at h;split at h
 ·rename_i m bs;obtain ⟨xs,rfl,u⟩:=o.ofAgg;obtain ⟨ys,rfl,v⟩:=p.ofAgg;cases e:cd ks m bs with
  | none=>simp [e] at h
  | some r=>
   simp [e] at h;have k:=na q e u v w;unfold j7 at h;split at h
   ·injection h with h; subst h;refine Out.quiet g (v:=.bool r) ?_ (.sc _ rfl);have c:=run_eqGuard_agg (P:=P) w .eql t ox oy xs ys l;have d:=run_eql_struct (P:=P) w t xs ys;simp only [Sem.run_bind,c,Result.andThen_ok,d];have f:(Op.equalIn 10000 t (.agg xs) (.agg ys)).run P w=.ok r w:=k;rw [f]; rfl
   ·injection h with h; subst h;refine Out.quiet g (v:=.bool !r) ?_ (.sc _ rfl);have c:=run_eqGuard_agg (P:=P) w .neq t ox oy xs ys l;have d:=run_neq_struct (P:=P) w t xs ys;simp only [Sem.run_bind,c,Result.andThen_ok,d];have f:(Op.equalIn 10000 t (.agg xs) (.agg ys)).run P w=.ok r w:=k;rw [f]; rfl
   ·cases h
 ·cases h
theorem mZ {k:FK} {ks:List FK} {l bs:List AV} {r:Bool} (h:cd (k::ks) l bs=some r) :
  ∃ a c b d e f,l=a::c/\bs=b::d/\eU k a b=some e/\cd ks c d=some f/\r=(e&&f):=by
 unfold cd at h;split at h
 ·rename_i g; cases g
 ·rename_i t u a c b d g;injection g with m o; subst m; subst o;split at h
  ·rename_i e f p q;injection h with h;exact ⟨a,c,b,d,e,f,rfl,rfl,p,q,h.symm⟩
  ·cases h
 ·cases h
theorem uf {a bs:List AV} {r:Bool} (h:cd [] a bs=some r):a=[]/\bs=[]/\r=true:=by
 unfold cd at h;split at h
 ·injection h with h; exact ⟨rfl,rfl,h.symm⟩
 ·rename_i b; cases b
 ·cases h
theorem pR {P:Program} {w:World} {F:Field->PUnit->Sem (ForInStep PUnit)}:∀ (a:List Field),(∀ f∈a,∀ e,(F f e).run P w=.ok (.yield PUnit.unit) w)->(forIn a PUnit.unit F).run P w=.ok PUnit.unit w
 | [],_=>by simp
 | f::a,b=>by
  simp only [List.forIn_cons,Sem.run_bind,b f (by simp),Result.andThen_ok]
  exact pR a fun c d=>b c (by simp [d])
theorem qV {P:Program} {G:Gh} {xs ys:Array Value}:∀ (c:List Field) (i:Nat) (ks:List FK) (d bs:List AV) (r:Bool),kB P i c=some ks->RepL G d (xs.toList.drop i)->RepL G bs (ys.toList.drop i)->cd ks d bs=some r ->
  ∀ f ∈ c, f.name ≠ "_" ∧ ∃ k x y H, iP P f.type = some k ∧ xs[f.offset]? = some x ∧ ys[f.offset]? = some y ∧ Same k x y H
 | [],_,_,_,_,_,_,_,_,_,f,b=>by cases b
 | R::c,i,ks,d,bs,r,a,l,m,o,f,b=>by
  simp only [kB] at a;split at a
  ·rename_i e;split at a
   ·rename_i k D p q;injection a with a; subst a;obtain ⟨O,g,Q,h,M,N,rfl,rfl,J,K,_⟩:=mZ o;obtain ⟨x,z,t,v⟩:=kJ l;obtain ⟨y,C,u,w⟩:=kJ m;rcases se.1 b with rfl | b
    ·exact ⟨e.2,k,x,y,M,p,by rw [e.1]; simpa using z,by rw [e.1]; simpa using C,eZ J t u⟩
    ·exact qV c (i+1) D g h N q v w K f b
   ·cases a
  ·cases a
theorem mL {P:Program} {t:TypeId} {k:FK} (a:iP P t=some k) {x y:Value} {r:Bool} (h:Same k x y r) (b:Bool) (n:Nat) (w:World):(Instr.checkKey b (n+1) t x).run P w=.ok () w:=by
 unfold iP at a;cases h <;> split at a <;> first | (cases a; done) | skip
 all_goals
  rename_i c;unfold Instr.checkKey;simp [run_underlying c]
theorem gC {c d:Type} {f:c->d} {o:Option c} {b:d} (h:o.map f=some b):∃ a,o=some a/\b=f a:=by
 cases o with
 | none=>cases h
 | some a=>injection h with h; exact ⟨a,rfl,h.symm⟩
theorem oq {P:Program} {G:Gh} {t:TypeId} {l:KK} (c:fN P t=some l) {a b:AV} {x y:Value} {r:Bool} (g:Rep G a x) (k:Rep G b y) (h:gI l a b=some r) (e:Bool) (w:World):(Instr.checkKey e 10000 t x).run P w=.ok () w:=by
 unfold fN at c;split at c
 ·rename_i K f;injection c with c; subst c;exact mL f (eZ h g k) e 9999 w
 ·obtain ⟨M,v,rfl⟩:=gC c;obtain ⟨p,N,q⟩:=po v;unfold gI at h;split at h
  ·rename_i d; cases d
  ·rename_i Q m bs d;injection d with d; subst d;obtain ⟨xs,rfl,H⟩:=g.ofAgg;obtain ⟨ys,rfl,J⟩:=k.ofAgg;show (Instr.checkKey e (9999+1) t (.agg xs)).run P w=_;unfold Instr.checkKey;simp only [Sem.run_bind,run_underlying p,Result.andThen_ok];rw [<-Array.forIn_toList];rw [pR]
   ·rfl
   ·intro o u S;obtain ⟨z,K,x,y,R,f,D,O,C⟩:=qV (P:=P) (G:=G) (xs:=xs) (ys:=ys) _ 0 M m bs r q (by simpa using H) (by simpa using J) h o u
    simp only [Sem.run_bind,Sem.run_ite,if_pos z,run_part_plain (P:=P) w (pm f) D,Result.andThen_ok,mL f C e 9998 w,Sem.run_pure]
  ·cases h
theorem qS {P:Program} {G:Gh} {t:TypeId} {g:KK} (c:fN P t=some g) {a b:AV} {x y:Value} {r:Bool} (e:Rep G a x) (f:Rep G b y) (h:gI g a b=some r) (w:World):(Op.equal t x y).run P w=.ok r w:=by
 unfold fN at c;split at c
 ·rename_i q k;injection c with c; subst c;exact (eZ h e f).run k 9999 w
 ·obtain ⟨u,l,rfl⟩:=gC c;unfold gI at h;split at h
  ·rename_i d; cases d
  ·rename_i v p bs d;injection d with d; subst d;obtain ⟨xs,rfl,m⟩:=e.ofAgg;obtain ⟨ys,rfl,o⟩:=f.ofAgg;exact na l h m o w
  ·cases h
theorem nJ {P:Program} {t:TypeId} {k:FK} (b:iP P t=some k) {a:TypeDesc} (c:P.underlying t=some a) {x y:Value} {r:Bool} (h:Same k x y r):Instr.sameNow a x y=some r:=by
 unfold iP at b;rw [c] at b;cases h <;> (cases a <;> simp at b <;> simp [Instr.sameNow,gV])
theorem mN {P:Program} {G:Gh} {t:TypeId} {o:KK} (k:fN P t=some o) {a:AV} {x:Value} (g:Rep G a x) (w:World):∀ (es:List MapEntry) (kv:List (AV×AV)) (i:Nat) (r:Option Nat),es.length=kv.length->(∀ (j:Nat) (e:MapEntry) (p:AV×AV),es[j]?=some e->kv[j]?=some p->Rep G p.1 e.key) ->
  bZ o a kv i=some r->(Instr.findAsking t x es i).run P w=.ok (r.bind fun j=>(es[j-i]?).map fun e=>(j,e.val)) w/\(∀ j,r=some j->i<=j/\j-i<es.length)
 | [],kv,i,r,d,f,b=>by
  have:kv=[]:=vF d.symm;subst this;simp [bZ] at b; subst b;exact ⟨by simp [Instr.findAsking],by simp⟩
 | e::es,[],i,r,d,f,b=>by simp at d
 | e::es,p::kv,i,r,d,f,b=>by
  simp only [bZ] at b;have m:=f 0 e p rfl rfl;split at b
  ·rename_i h;injection b with b; subst b;refine ⟨?_,fun j c=>by injection c with c; subst c; simp⟩
   simp [Instr.findAsking,qS k g m h w]
  ·rename_i h;obtain ⟨u,l⟩:=mN k g w es kv (i+1) r (by simpa using d) (fun j q z v y=>f (j+1) q z (by simpa using v) (by simpa using y)) b
   refine ⟨?_,fun j c=>?_⟩
   ·simp only [Instr.findAsking,Sem.run_bind,qS k g m h w,Result.andThen_ok,u1,if_false,u];cases r with
    | none=>rfl
    | some j=>
     have:=l j rfl;simp only [zb];rw [show j-i=(j-(i+1))+1 by omega,y6]
   ·have:=l j c;simp; omega
  ·cases b
theorem pP {P:Program} {G:Gh} {t:TypeId} {k:FK} (m:iP P t=some k) {o:TypeDesc} (h:P.underlying t=some o) {a:AV} {x:Value} (g:Rep G a x):∀ (es:List MapEntry) (kv:List (AV×AV)) (i:Nat) (r:Option Nat),es.length=kv.length->(∀ (j:Nat) (e:MapEntry) (p:AV×AV),es[j]?=some e->kv[j]?=some p->Rep G p.1 e.key) ->
  bZ (.one k) a kv i=some r->Instr.findNow o x es i=some (r.bind fun j=>(es[j-i]?).map fun e=>(j,e.val))/\(∀ j,r=some j->i<=j/\j-i<es.length)
 | [],kv,i,r,d,f,b=>by
  have:kv=[]:=vF d.symm;subst this;simp [bZ] at b; subst b;exact ⟨by simp [Instr.findNow],by simp⟩
 | e::es,[],i,r,d,f,b=>by simp at d
 | e::es,p::kv,i,r,d,f,b=>by
  simp only [bZ] at b;have u:=f 0 e p rfl rfl;split at b
  ·rename_i l;injection b with b; subst b;refine ⟨?_,fun j c=>by injection c with c; subst c; simp⟩
   simp [Instr.findNow,nJ m h (eZ l g u)]
  ·rename_i l;obtain ⟨w,q⟩:=pP m h g es kv (i+1) r (by simpa using d) (fun j v C y z=>f (j+1) v C (by simpa using y) (by simpa using z)) b
   refine ⟨?_,fun j c=>?_⟩
   ·simp only [Instr.findNow,nJ m h (eZ l g u),w];cases r with
    | none=>rfl
    | some j=>
     have:=q j rfl;simp only [zb];rw [show j-i=(j-(i+1))+1 by omega,y6]
   ·have:=q j c;simp; omega
  ·cases b
theorem yT {P:Program} {t:TypeId} {d:KK} (b:fN P t=some d):∃ a,P.underlying t=some a:=by
 unfold fN at b;cases c:P.underlying t with
 | some a=>exact ⟨a,rfl⟩
 | none=>simp [iP,iu,c] at b
theorem pO {P:Program} {G:Gh} {t:TypeId} {m:KK} (b:fN P t=some m) {a:AV} {x:Value} (k:Rep G a x) (w:World) {es:List MapEntry} {kv:List (AV×AV)} {r:Option Nat} (g:es.length=kv.length) (l:∀ (j:Nat) (e:MapEntry) (p:AV×AV),es[j]?=some e->kv[j]?=some p->Rep G p.1 e.key)
  (h:bZ m a kv 0=some r):(Instr.findKey t x es).run P w=.ok (r.bind fun j=>(es[j]?).map fun e=>(j,e.val)) w/\(∀ j,r=some j->j<es.length):=by
 obtain ⟨H,f⟩:=yT b;obtain ⟨o,q⟩:=mN b k w es kv 0 r g l h;refine ⟨?_,fun j v=>by simpa using (q j v).2⟩
 simp only [Instr.findKey,Sem.run_bind,run_underlying f,Result.andThen_ok];split
 ·rename_i D c;have C:D=r.bind fun j=>(es[j]?).map fun e=>(j,e.val):=by
   unfold fN at b;split at b
   ·rename_i J y;injection b with b; subst b;obtain ⟨u,_⟩:=pP y f k es kv 0 r g l h;rw [u] at c;injection c with c;simpa using c.symm
   ·obtain ⟨K,z,rfl⟩:=gC b;obtain ⟨d,_⟩:=po z;rw [f] at d; injection d with d; subst d;cases es with
    | nil=>
     have:kv=[]:=vF g.symm;subst this;simp [bZ] at h; subst h;simp [Instr.findNow] at c;simpa using c.symm
    | cons e es=>simp [Instr.findNow,Instr.sameNow] at c
  rw [C]; rfl
 ·have:=o;simpa using this
end Go.AM
