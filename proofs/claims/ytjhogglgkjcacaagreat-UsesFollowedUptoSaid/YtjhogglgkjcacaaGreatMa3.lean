/- Part of the claim: see its last text. -/
import Derived.Test.YtjhogglgkjcacaaGreatMa2
set_option linter.all false
namespace Go.AM
theorem bH {G:Gh} {a v:Value} (h:Rep G (.sc a) v):v=a/\km a=true:=by
 cases h with
 | sc _ h=>exact ⟨rfl,h⟩
theorem fU {P:Program} {w:World} {op:BinOp} {t:TypeId} {x y:Operand} {a b:Value} (h:¬(a=.nilIface/\b=.nilIface)) (h':∀ xs ys,¬(a=.agg xs/\b=.agg ys)) :
  (eqGuard op t x y a b).run P w=.ok () w:=by
 unfold eqGuard;split
 ·cases a <;> cases b <;> first | rfl | (exact absurd ⟨rfl,rfl⟩ h) | (exact absurd ⟨rfl,rfl⟩ (h' _ _))
 ·cases a <;> cases b <;> first | rfl | (exact absurd ⟨rfl,rfl⟩ h) | (exact absurd ⟨rfl,rfl⟩ (h' _ _))
 ·rfl
theorem yQ {P:Program} {w:World} {op:BinOp} {t:TypeId} {k:IntKind} {a b:Int} {r:Value} (h:fh op k a b=some r):(binOp op t (.int k a) (.int k b)).run P w=.ok r w/\km r=true:=by
 cases op <;> simp only [fh] at h
 case quo=>
  split at h
  ·cases h
  ·rename_i c; injection h with h; subst h; exact ⟨by simp [binOp,Op.intDiv,c],rfl⟩
 case rem=>
  split at h
  ·cases h
  ·rename_i c; injection h with h; subst h; exact ⟨by simp [binOp,Op.intDiv,c],rfl⟩
 case shl=>cases h
 case shr=>cases h
 all_goals (injection h with h; subst h; exact ⟨by simp [binOp,Op.intArith,Op.intCmp,Op.intBits],rfl⟩)
theorem Aw {P:Program} {w:World} {op:BinOp} (d:op=.shl\/op=.shr) {t:TypeId} {k e:IntKind} {a b:Int} {r:Value} (h:zk op k a b=some r):(binOp op t (.int k a) (.int e b)).run P w=.ok r w/\km r=true:=by
 unfold zk at h;split at h
 ·cases h
 ·rename_i c;rcases d with rfl | rfl
  all_goals (injection h with h; subst h; exact ⟨by simp [binOp,Op.shift,c],rfl⟩)
theorem zo {P:Program} {w:World} {op:BinOp} {t:TypeId} {a b:ByteArray} {r:Value} (h:gd op a b=some r):(binOp op t (.string a) (.string b)).run P w=.ok r w/\km r=true:=by
 cases op <;> simp only [gd] at h
 case add=>
  split at h
  ·cases h
  ·rename_i c;injection h with h; subst h;refine ⟨?_,rfl⟩;show (Op.stringOp .add a b).run P w=_;unfold Op.stringOp;simp only [if_neg c];rfl
 all_goals first
  | cases h; done
  | (injection h with h; subst h; exact ⟨by simp [binOp,Op.stringOp],rfl⟩)
theorem vH {P:Program} {w:World} {op:BinOp} {t:TypeId} {k e:IntKind} {a b:Int} {r:Value} (h:fT op (.int k a) (.int e b)=some r):(binOp op t (.int k a) (.int e b)).run P w=.ok r w/\km r=true:=by
 by_cases c:op=.shl\/op=.shr
 ·exact Aw c (by rcases c with rfl | rfl <;> exact h)
 ·have d:k=e:=by
   apply sx; intro d;cases op <;> first | (exact c (.inl rfl)) | (exact c (.inr rfl)) | simp [fT,d] at h
  subst d;exact yQ (by cases op <;> first | (exact absurd (.inl rfl) c) | (exact absurd (.inr rfl) c) | (simpa [fT] using h))
theorem sR {P:Program} {w:World} {op:BinOp} {t:TypeId} {a b r:Value} (h:fT op a b=some r):(binOp op t a b).run P w=.ok r w/\km r=true:=by
 cases a <;> cases b <;> first
  | exact zo h
  | exact vH h
  | cases h
theorem m9 (t:TypeId) (x y:Value):Op.equal t x y=Op.equalIn (9999+1) t x y:=rfl
theorem lJ {P:Program} {w:World} {t:TypeId} (c:P.underlying t=some .bool) (a b:Bool):(Op.equal t (.bool a) (.bool b)).run P w=.ok (a==b) w:=by
 rw [m9,Op.equalIn,Sem.run_bind,run_underlying c]; rfl
theorem qG {P:Program} {w:World} {t e:TypeId} (b:P.underlying t=some (.pointer e)) (a:Option Addr):(Op.equal t (.pointer none) (.pointer a)).run P w=.ok a.isNone w:=by
 rw [m9,Op.equalIn,Sem.run_bind,run_underlying b]; rfl
theorem qH {P:Program} {w:World} {t e:TypeId} (a:P.underlying t=some (.pointer e)) (p:Addr):(Op.equal t (.pointer (some p)) (.pointer none)).run P w=.ok false w:=by
 rw [m9,Op.equalIn,Sem.run_bind,run_underlying a]; rfl
theorem yE {P:Program} {w:World} {op:BinOp} {t:TypeId} (c:P.underlying t=some .bool) {a b r:Value} (h:kz op a b=some r):(binOp op t a b).run P w=.ok r w/\km r=true:=by
 unfold kz at h;split at h
 ·rename_i a b;split at h
  ·injection h with h; subst h;refine ⟨?_,rfl⟩;show (do pure (.bool (←Op.equal t (.bool a) (.bool b))):Sem Value).run P w=_
   rw [Sem.run_bind,lJ c]; rfl
  ·injection h with h; subst h;refine ⟨?_,rfl⟩;show (do pure (.bool (!(←Op.equal t (.bool a) (.bool b)))):Sem Value).run P w=_
   rw [Sem.run_bind,lJ c]; rfl
  ·cases h
 ·cases h
theorem gY {G:Gh} {a:AV} {x:Value} {b:Bool} (h:pU a=some b) (c:Rep G a x):∃ p,x=.pointer p/\p.isNone=b:=by
 unfold pU at h;split at h
 ·injection h with h; subst h;obtain ⟨rfl,_⟩:=bH c;exact ⟨none,rfl,rfl⟩
 ·injection h with h; subst h;cases c; exact ⟨_,rfl,rfl⟩
 ·injection h with h; subst h;cases c; exact ⟨_,rfl,rfl⟩
 ·cases h
theorem uG {P:Program} {G:Gh} {w:World} {op:BinOp} {t:TypeId} {x y:Value} {b:Bool} {av:AV} (h:j7 op b=some av)
  (a:(Op.equal t x y).run P w=.ok b w) (c:binOp .eql t x y=(do pure (.bool (←Op.equal t x y)))) (d:binOp .neq t x y=(do pure (.bool (!(←Op.equal t x y))))) :
  ∃ r,(binOp op t x y).run P w=.ok r w/\Rep G av r:=by
 unfold j7 at h;split at h
 ·injection h with h; subst h;refine ⟨.bool b,?_,.sc _ rfl⟩;rw [c,Sem.run_bind,a]; rfl
 ·injection h with h; subst h;refine ⟨.bool !b,?_,.sc _ rfl⟩;rw [d,Sem.run_bind,a]; rfl
 ·cases h
theorem yF {P:Program} {G:Gh} {w:World} {op:BinOp} {t e:TypeId} (p:P.underlying t=some (.pointer e)) {a b av:AV} {x y:Value} (h:gq .pn op a b=some av)
  (m:Rep G a x) (o:Rep G b y):∃ r,(binOp op t x y).run P w=.ok r w/\Rep G av r:=by
 simp only [gq] at h;split at h
 ·rename_i q f g;obtain ⟨c,rfl,k⟩:=gY f m;obtain ⟨d,rfl,l⟩:=gY g o;cases c with
  | some _=>simp at k
  | none=>subst l; exact uG h (qG p d) (by cases d <;> rfl) (by cases d <;> rfl)
 ·rename_i f g;obtain ⟨c,rfl,k⟩:=gY f m;obtain ⟨d,rfl,l⟩:=gY g o;cases c with
  | none=>simp at k
  | some c=>cases d with
   | some _=>simp at l
   | none=>exact uG h (qH p c) rfl rfl
 ·cases h
theorem Cp {P:Program} {G:Gh} {w:World} {op:UnOp} {a av:AV} {x:Value} (h:unI op a=some av) (b:Rep G a x):∃ r,(Op.unary op x).run P w=.ok r w/\Rep G av r:=by
 unfold unI at h;split at h
 ·obtain ⟨rfl,_⟩:=bH b;split at h
  ·injection h with h; subst h; exact ⟨_,rfl,.sc _ rfl⟩
  ·injection h with h; subst h; exact ⟨_,rfl,.sc _ rfl⟩
  ·cases h
 ·obtain ⟨rfl,_⟩:=bH b;split at h
  ·injection h with h; subst h; exact ⟨_,rfl,.sc _ rfl⟩
  ·cases h
 ·cases h
theorem vJ {P:Program} {G:Gh} {w:World} {x:Option AV} {v:Option Value} {c e m:Nat} {code:BoundsCode} (h:bnd x c e=some m) (f:x.isNone=v.isNone) (k:∀ a b,x=some a->v=some b->Rep G a b) :
  (match v with | some b=>(Instr.sliceBound b e code).run P w | none=>.ok c w)=.ok m w/\(x=none->m=c)/\(x≠none->m<=e):=by
 unfold bnd at h;cases x with
 | none=>
  cases v with
  | none=>simp at h; subst h; exact ⟨rfl,fun _=>rfl,fun h=>absurd rfl h⟩
  | some b=>simp at f
 | some a=>
  cases v with
  | none=>simp at f
  | some b=>
   simp only at h;cases d:asI a with
   | none=>simp [d] at h
   | some n=>
    simp only [d] at h;split at h
    ·rename_i g;injection h with h; subst h;obtain ⟨l,rfl⟩:=jN d (k a b rfl rfl);refine ⟨by simp [Instr.sliceBound,asIntOf,g],fun h=>(by cases h),fun _=>by omega⟩
    ·cases h
def gM (G:Gh) (x:Option AV) (v:Option Value):Prop:=x.isNone=v.isNone/\∀ a b,x=some a->v=some b->Rep G a b
theorem jE {P:Program} {w:World} {f:Bool} {len cap:Nat} {e d mx:Option Value} {l h m:Nat}
  (c:(match mx with | some v=>(Instr.sliceBound v cap (if f then .slice3Acap else .slice3Alen)).run P w | none=>.ok cap w)=.ok m w)
  (a:(match d with | some v=>(Instr.sliceBound v m (match mx with | some _=>.slice3B | none=>if f then .sliceAcap else .sliceAlen)).run P w | none=>.ok len w)=.ok h w)
  (b:(match e with | some v=>(Instr.sliceBound v h (if mx.isSome then .slice3C else .sliceB)).run P w | none=>.ok 0 w)=.ok l w) (k:mx.isSome=true->d.isSome=true) :
  (Instr.sliceBounds f len cap e d mx).run P w=.ok (l,h,m) w:=by
 unfold Instr.sliceBounds;cases mx with
 | none=>
  simp only at c a; injection c with c; subst c;cases d with
  | none=>cases e with
   | none=>simp at a b ⊢; simp [a,b]
   | some g=>simp at a b ⊢; subst a; simp [b]
  | some o=>cases e with
   | none=>simp at a b ⊢; simp [a,b]
   | some g=>simp at a b ⊢; simp [a,b]
 | some mv=>
  cases d with
  | none=>simp at k
  | some o=>
   cases e with
   | none=>simp at c a b ⊢; simp [c,a,b]
   | some g=>simp at c a b ⊢; simp [c,a,b]
theorem Ck {P:Program} {G:Gh} {s:St} {w:World} {t:TypeId} (C:P.underlying t=some .string) {a av:AV} {x:Value} {l f:Option AV} {d c:Option Value} (h:ssI a l f=some av)
  (z:Rep G a x) (g:gM G l d) (e:gM G f c) (q:Sim G s w):Out P (Instr.sliceAt t x d c none) G s w av s:=by
 unfold ssI at h;split at h
 ·rename_i b;obtain ⟨rfl,_⟩:=bH z;split at h
  ·rename_i m y;split at h
   ·rename_i k v;injection h with h; subst h;have o:=(vJ (P:=P) (w:=w) (code:=.sliceAlen) y e.1 e.2).1;have p:=(vJ (P:=P) (w:=w) (code:=.sliceB) v g.1 g.2).1;have u:(Instr.sliceBounds false b.size b.size d c none).run P w=.ok (k,m,b.size) w:=
     jE rfl (by simpa using o) (by simpa using p) (by simp)
    exact .quiet q (v:=.string (b.extract k m)) (by simp [Instr.sliceAt,Instr.slice,run_underlying C,u]) (.sc _ rfl)
   ·cases h
  ·cases h
 ·cases h
theorem gS {b:Type} {es:List b} {h l i:Nat} {e:b} (a:((es.take h).drop l)[i]?=some e):es[l+i]?=some e/\l+i<h:=by
 rw [s8,s0] at a;split at a
 ·exact ⟨a,‹_›⟩
 ·cases a
theorem ff {P:Program} {G:Gh} {w:World} {x:Option AV} {v:Option Value} {f g d m:Nat} {code:BoundsCode} (h:bnd x f g=some m) (c:gM G x v) (p:g<=d) :
  (match v with | some a=>(Instr.sliceBound a d code).run P w | none=>.ok f w)=.ok m w:=by
 unfold bnd at h;cases x with
 | none=>
  cases v with
  | none=>simp at h; subst h; rfl
  | some a=>have:=c.1; simp at this
 | some e=>
  cases v with
  | none=>have:=c.1; simp at this
  | some a=>
   simp only at h;cases b:asI e with
   | none=>simp [b] at h
   | some n=>
    simp only [b] at h;split at h
    ·rename_i o;injection h with h; subst h;obtain ⟨q,rfl⟩:=jN b (c.2 e a rfl rfl);have k:=o.1;have l:n<=(d:Int):=by omega
     simp [Instr.sliceBound,asIntOf,k,l]
    ·cases h
theorem gA {x:Option AV} {b a m:Nat} (h:bnd x b a=some m) (c:b<=a):m<=a:=by
 unfold bnd at h;split at h
 ·injection h with h; omega
 ·split at h
  ·split at h
   ·injection h with h; omega
   ·cases h
  ·cases h
theorem oL {P:Program} {G:Gh} {w:World} {len cap h l:Nat} {c a:Option AV} {d b:Option Value} (f:bnd a len len=some h) (k:bnd c 0 h=some l) (m:gM G c d) (g:gM G a b)
  (e:len<=cap):(Instr.sliceBounds true len cap d b none).run P w=.ok (l,h,cap) w:=
 jE rfl (by simpa using ff (P:=P) (w:=w) (code:=.sliceAcap) f g e) (by simpa using ff (P:=P) (w:=w) (code:=.sliceB) k m (q5 _)) (by simp)
theorem kY {P:Program} {G:Gh} {w:World} {len cap m h l:Nat} {c b mx:Option AV} {d a mv:Option Value} (u:mv.isSome=true) (q:a.isSome=true) (p:bnd mx len len=some m) (f:bnd b len m=some h) (k:bnd c 0 h=some l)
  (o:gM G c d) (g:gM G b a) (t:gM G mx mv) (e:len<=cap):(Instr.sliceBounds true len cap d a mv).run P w=.ok (l,h,m) w:=by
 cases mv with
 | none=>simp at u
 | some mvv=>
  cases a with
  | none=>simp at q
  | some hvv=>
   exact jE (by simpa using ff (P:=P) (w:=w) (code:=.slice3Acap) p t e) (by simpa using ff (P:=P) (w:=w) (code:=.slice3B) f g (q5 _))
    (by simpa using ff (P:=P) (w:=w) (code:=.slice3C) k o (q5 _)) (by simp)
theorem BC {x:Option AV} {b a m:Nat} (h:bnd x b a=some m) (c:x≠none):m<=a:=by
 unfold bnd at h;split at h
 ·exact absurd rfl c
 ·split at h
  ·split at h
   ·injection h with h; omega
   ·cases h
  ·cases h
theorem Cj {P:Program} {G:Gh} {s:St} {w:World} {t e:TypeId} {i:TypeInfo} (b0:eI P t=some (e,i)) {a av:AV} {x:Value} {a6 ag mx:Option AV} {W y mv:Option Value} (h:srI i.size a a6 ag mx=some av)
  (a4:Rep G a x) (T:gM G a6 W) (D:gM G ag y) (v:gM G mx mv) (al:mv.isSome=true->y.isSome=true) (Q:Sim G s w):Out P (Instr.sliceAt t x W y mv) G s w av s:=by
 obtain ⟨b1,bo⟩:=dT b0;have U:∀ (d:Option Addr) (len o b h c:Nat),(Instr.sliceBounds true len o W y mv).run P w=.ok (b,h,c) w ->
   (Instr.sliceAt t (.slice d len o) W y mv).run P w=.ok (.slice (if c=b then d else d.map (·.add (b*i.size))) (h-b) (c-b)) w:=by
  intro d len o b h c f;simp [Instr.sliceAt,Instr.slice,run_underlying b1,f,sizeOf,typeInfo,bo]
 have bm:mv.isSome=true->ag≠none:=by
  intro u e;have:=al u;have l:=D.1;rw [e] at l; cases y <;> simp_all
 unfold srI at h;split at h
 ·rename_i ax b8 off len;split at h
  ·rename_i a5;cases a4 with
   | row _ _ _ m d bl b5 R bi=>
    split at h
    ·have k:mv=none:=by have:=v.1; cases mv <;> simp_all
     subst k;split at h
     ·rename_i c u;split at h
      ·rename_i b g;injection h with h; subst h;have l:=gA u (q5 _);have N:=gA g (v7 _);have f:=U d len (m.cap-off) b c (m.cap-off) (oL (P:=P) (w:=w) u g T D (by omega))
       have bW:Rep G (.row ax m.sz (off+b) (c-b)) (.slice (if m.cap-off=b then d else d.map (·.add (b*i.size))) (c-b) (m.cap-(off+b))):=by
        refine .row ax (off+b) (c-b) m _ bl (by omega) (fun a3=>?_) (by omega)
        rw [if_neg (by omega),R (by omega)]
        simp [fC,tn,a5]
       have a9:m.cap-off-b=m.cap-(off+b):=by omega
       rw [a9] at f;rw [a5];exact .quiet Q f bW
      ·cases h
     ·cases h
    ·split at h
     ·rename_i K p;split at h
      ·rename_i C S;split at h
       ·rename_i b g;split at h
        ·rename_i b7;injection h with h; subst h;have k:mv.isSome=true:=by have:=v.1; cases mv <;> simp_all
         have l:=gA p (q5 _);have N:=BC S (bm k);have O:=gA g (v7 _);have f:=U d len (m.cap-off) b C K (kY (P:=P) (w:=w) k (al k) p S g T D v (by omega))
         have ap:C-b=0:=by omega
         have ar:K-b=0:=by omega
         rw [ap,ar] at f;exact .quiet Q f (.sl [] true _ 0 0 0 0 (fun _ _=>default) (by simp) (by simp) (by simp) (by simp) (by simp) (by simp) (by simp))
        ·cases h
       ·cases h
      ·cases h
     ·cases h
  ·cases h
 ·rename_i q b4;split at h
  ·rename_i bf;have a0:∀ e∈q,e.length=i.size:=by
    intro e bj;have:=rx.1 bf e bj;simpa using this
   cases a4 with
   | sl _ _ d o ao Y b3 a' a1 bk R b2 u bN bi=>
    have part:∀ (c b M:Nat) (ab:Bool),c<=q.length->b<=c->c-b<=M->(ab=true->M=c-b)->∀ Z,(b<c->Z=some ⟨ao,Y+b*i.size,none⟩) ->
      Rep G (.sl ((q.take c).drop b) ab) (.slice Z (c-b) M):=by
     intro c b M ab l N O bb Z bc;have H:((q.take c).drop b).length=c-b:=by simp; omega
     rw [<-H];refine .sl _ _ _ _ ao (Y+b*i.size) i.size (fun z j=>a' (b+z) j) (by rw [H]; exact O) (by rw [H]; exact bb) ?_ ?_ ?_ ?_ (by rw [H]; omega)
     ·intro bt;have bx:0<((q.take c).drop b).length:=r6.2 bt;rw [H] at bx;exact bc (by omega)
     ·intro z x J;exact a0 x (r8 (gS J).1)
     ·intro z x j a7 J ai;have am:=(gS J).1;have:=u _ _ _ _ am ai;have ap:=b2 _ _ am;have ar:=a0 x (r8 am);have a8:b3=i.size:=by omega
      rw [a8,tn] at this;rw [show Y+b*i.size+z*i.size+j=Y+(b*i.size+z*i.size)+j by omega]
      exact this
     ·intro z x j a7 J ai;exact bN _ _ _ _ (gS J).1 ai
    split at h
    ·have k:mv=none:=by have:=v.1; cases mv <;> simp_all
     subst k;split at h
     ·rename_i c p;split at h
      ·rename_i b g;injection h with h; subst h;have l:=gA p (q5 _);have N:=gA g (v7 _);have f:=U d q.length o b c o (oL (P:=P) (w:=w) p g T D a1);refine .quiet Q f (part c b (o-b) _ l N (by omega) ?_ _ ?_)
       ·intro a2;simp at a2;have:=bk a2.1;omega
       ·intro a3;rw [if_neg (by omega),R (by intro aa; subst aa; simp at l; omega)]
        simp [fC]
      ·cases h
     ·cases h
    ·split at h
     ·rename_i K p;split at h
      ·rename_i C S;split at h
       ·rename_i b g;split at h
        ·rename_i b6;injection h with h; subst h;have k:mv.isSome=true:=by have:=v.1; cases mv <;> simp_all
         have l:=gA p (q5 _);have O:=gA g (v7 _);have f:=U d q.length o b C K (kY (P:=P) (w:=w) k (al k) p S g T D v a1);refine .quiet Q f (part C b (K-b) true (by omega) O (by omega) (by intro _; omega) _ ?_)
         intro a3;rw [if_neg (by omega),R (by intro aa; subst aa; simp at l; omega)]
         simp [fC]
        ·cases h
       ·cases h
      ·cases h
     ·cases h
  ·cases h
 ·cases h
theorem A8 {P:Program} {G:Gh} {s:St} {w:World} {t e:TypeId} {i:TypeInfo} (ag:eI P t=some (e,i)) {a av:AV} {x:Value} {S C mx:Option AV} {q l mv:Option Value} (h:srX i.size a S C mx s=some av)
  (ab:Rep G a x) (M:gM G S q) (z:gM G C l) (D:gM G mx mv) (O:mv.isSome=true->l.isSome=true) (y:Sim G s w):Out P (Instr.sliceAt t x q l mv) G s w av s:=by
 obtain ⟨ai,Z⟩:=dT ag;have Q:∀ (g:Option Addr) (len u b h f:Nat),(Instr.sliceBounds true len u q l mv).run P w=.ok (b,h,f) w ->
   (Instr.sliceAt t (.slice g len u) q l mv).run P w=.ok (.slice (if f=b then g else g.map (·.add (b*i.size))) (h-b) (f-b)) w:=by
  intro g len u b h f k;simp [Instr.sliceAt,Instr.slice,run_underlying ai,k,sizeOf,typeInfo,Z]
 have a0:mv.isSome=true->C≠none:=by
  intro c e;have:=O c;have v:=z.1;rw [e] at v; cases l <;> simp_all
 unfold srX at h;split at h
 ·rename_i J a6 off len;split at h
  ·rename_i R;cases ab with
   | row _ _ _ d g K ar W ap=>
    split at h
    ·have p:mv=none:=by have:=D.1; cases mv <;> simp_all
     subst p;split at h
     ·rename_i a7 am a5 a4 H;split at h
      ·rename_i f c;split at h
       ·rename_i b m;split at h
        ·rename_i a2;injection h with h; subst h;obtain ⟨a3,o,aa⟩:=y.blk _ _ H;rw [K] at o; injection o with o; subst o;have ax:=aa.2.2.1.1;have v:f<=d.cap-off:=by
          unfold bnd at c;split at c
          ·injection c with c; omega
          ·split at c
           ·split at c
            ·injection c with c; omega
            ·cases c
           ·cases c
         have ao:=gA m (v7 _);have k:=Q g len (d.cap-off) b f (d.cap-off) (jE rfl (by simpa using ff (P:=P) (w:=w) (code:=.sliceAcap) c z (by omega)) (by simpa using ff (P:=P) (w:=w) (code:=.sliceB) m M (q5 _)) (by simp))
         have H:Rep G (.row J d.sz (off+b) (f-b)) (.slice (if d.cap-off=b then g else g.map (·.add (b*i.size))) (f-b) (d.cap-(off+b))):=by
          refine .row J (off+b) (f-b) d _ K (by omega) (fun a1=>?_) (by omega)
          rw [if_neg (by omega),W (by omega)]
          simp [fC,tn,R]
         have T:d.cap-off-b=d.cap-(off+b):=by omega
         rw [T] at k;rw [R];exact .quiet y k H
        ·cases h
       ·cases h
      ·cases h
     ·cases h
    ·split at h
     ·rename_i al N;split at h
      ·rename_i U Y;split at h
       ·rename_i b m;injection h with h; subst h;have p:mv.isSome=true:=by have:=D.1; cases mv <;> simp_all
        have v:=gA N (q5 _);have k:=Q g len (d.cap-off) b U al (kY (P:=P) (w:=w) p (O p) N Y m M z D (by omega))
        exact .quiet y k (.undef _)
       ·cases h
      ·cases h
     ·cases h
  ·cases h
 ·cases h
end Go.AM
