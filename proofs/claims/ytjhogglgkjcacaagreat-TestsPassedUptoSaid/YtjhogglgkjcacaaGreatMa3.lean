/- Part of the claim: see its last text. -/
import Derived.Test.YtjhogglgkjcacaaGreatMa2
set_option linter.all false
namespace Go.AM
theorem bE {G:Gh} {a v:Value} (h:Rep G (.sc a) v):v=a∧iH a=true:=by
 cases h with
 | sc _ h=>exact ⟨rfl,h⟩
theorem eD {P:Program} {w:World} {op:BinOp} {t:TypeId} {x y:Operand} {a b:Value} (h:¬(a=.nilIface∧b=.nilIface)) (h':∀ xs ys,¬(a=.agg xs∧b=.agg ys)) :
  (eqGuard op t x y a b).run P w=.ok () w:=by
 unfold eqGuard
 split
 ·cases a <;> cases b <;> first | rfl | (exact absurd ⟨rfl,rfl⟩ h) | (exact absurd ⟨rfl,rfl⟩ (h' _ _))
 ·cases a <;> cases b <;> first | rfl | (exact absurd ⟨rfl,rfl⟩ h) | (exact absurd ⟨rfl,rfl⟩ (h' _ _))
 ·rfl
theorem uN {P:Program} {w:World} {op:BinOp} {t:TypeId} {k:IntKind} {a b:Int} {r:Value} (h:dS op k a b=some r):(binOp op t (.int k a) (.int k b)).run P w=.ok r w∧iH r=true:=by
 cases op <;> simp only [dS] at h
 case quo=>
  split at h
  ·cases h
  ·rename_i hb; injection h with h; subst h; exact ⟨by simp [binOp,Op.intDiv,hb],rfl⟩
 case rem=>
  split at h
  ·cases h
  ·rename_i hb; injection h with h; subst h; exact ⟨by simp [binOp,Op.intDiv,hb],rfl⟩
 case shl=>cases h
 case shr=>cases h
 all_goals (injection h with h; subst h; exact ⟨by simp [binOp,Op.intArith,Op.intCmp,Op.intBits],rfl⟩)
theorem wq {P:Program} {w:World} {op:BinOp} (ho:op=.shl∨op=.shr) {t:TypeId} {k k':IntKind} {a b:Int} {r:Value} (h:u5 op k a b=some r):(binOp op t (.int k a) (.int k' b)).run P w=.ok r w∧iH r=true:=by
 unfold u5 at h
 split at h
 ·cases h
 ·rename_i hb
  rcases ho with rfl | rfl
  all_goals (injection h with h; subst h; exact ⟨by simp [binOp,Op.shift,hb],rfl⟩)
theorem ve {P:Program} {w:World} {op:BinOp} {t:TypeId} {a b:ByteArray} {r:Value} (h:dA op a b=some r):(binOp op t (.string a) (.string b)).run P w=.ok r w∧iH r=true:=by
 cases op <;> simp only [dA] at h
 case add=>
  split at h
  ·cases h
  ·rename_i hb
   injection h with h; subst h
   refine ⟨?_,rfl⟩
   show (Op.stringOp .add a b).run P w=_
   unfold Op.stringOp
   simp only [if_neg hb]
   rfl
 all_goals first
  | cases h; done
  | (injection h with h; subst h; exact ⟨by simp [binOp,Op.stringOp],rfl⟩)
theorem sK {P:Program} {w:World} {op:BinOp} {t:TypeId} {k k':IntKind} {a b:Int} {r:Value} (h:eC op (.int k a) (.int k' b)=some r):(binOp op t (.int k a) (.int k' b)).run P w=.ok r w∧iH r=true:=by
 by_cases ho:op=.shl∨op=.shr
 ·exact wq ho (by rcases ho with rfl | rfl <;> exact h)
 ·have hk:k=k':=by
   apply Classical.byContradiction; intro hk
   cases op <;> first | (exact ho (.inl rfl)) | (exact ho (.inr rfl)) | simp [eC,hk] at h
  subst hk
  exact uN (by cases op <;> first | (exact absurd (.inl rfl) ho) | (exact absurd (.inr rfl) ho) | (simpa [eC] using h))
theorem pX {P:Program} {w:World} {op:BinOp} {t:TypeId} {a b r:Value} (h:eC op a b=some r):(binOp op t a b).run P w=.ok r w∧iH r=true:=by
 cases a <;> cases b <;> first
  | exact ve h
  | exact sK h
  | cases h
theorem kE (t:TypeId) (x y:Value):Op.equal t x y=Op.equalIn (9999+1) t x y:=rfl
theorem jA {P:Program} {w:World} {t:TypeId} (hu:P.underlying t=some .bool) (a b:Bool):(Op.equal t (.bool a) (.bool b)).run P w=.ok (a==b) w:=by
 rw [kE,Op.equalIn,Sem.run_bind,run_underlying hu]; rfl
theorem oE {P:Program} {w:World} {t e:TypeId} (hu:P.underlying t=some (.pointer e)) (q:Option Addr):(Op.equal t (.pointer none) (.pointer q)).run P w=.ok q.isNone w:=by
 rw [kE,Op.equalIn,Sem.run_bind,run_underlying hu]; rfl
theorem oF {P:Program} {w:World} {t e:TypeId} (hu:P.underlying t=some (.pointer e)) (p:Addr):(Op.equal t (.pointer (some p)) (.pointer none)).run P w=.ok false w:=by
 rw [kE,Op.equalIn,Sem.run_bind,run_underlying hu]; rfl
theorem uD {P:Program} {w:World} {op:BinOp} {t:TypeId} (hu:P.underlying t=some .bool) {a b r:Value} (h:iO op a b=some r):(binOp op t a b).run P w=.ok r w∧iH r=true:=by
 unfold iO at h
 split at h
 ·rename_i a b
  split at h
  ·injection h with h; subst h
   refine ⟨?_,rfl⟩
   show (do pure (.bool (←Op.equal t (.bool a) (.bool b))):Sem Value).run P w=_
   rw [Sem.run_bind,jA hu]; rfl
  ·injection h with h; subst h
   refine ⟨?_,rfl⟩
   show (do pure (.bool (!(←Op.equal t (.bool a) (.bool b)))):Sem Value).run P w=_
   rw [Sem.run_bind,jA hu]; rfl
  ·cases h
 ·cases h
theorem fo {G:Gh} {a:AV} {x:Value} {b:Bool} (h:np a=some b) (hr:Rep G a x):∃ p,x=.pointer p∧p.isNone=b:=by
 unfold np at h
 split at h
 ·injection h with h; subst h
  obtain ⟨rfl,_⟩:=bE hr
  exact ⟨none,rfl,rfl⟩
 ·injection h with h; subst h
  cases hr; exact ⟨_,rfl,rfl⟩
 ·injection h with h; subst h
  cases hr; exact ⟨_,rfl,rfl⟩
 ·cases h
theorem rM {P:Program} {G:Gh} {w:World} {op:BinOp} {t:TypeId} {x y:Value} {b:Bool} {av:AV} (h:iB op b=some av)
  (he:(Op.equal t x y).run P w=.ok b w) (h1:binOp .eql t x y=(do pure (.bool (←Op.equal t x y)))) (h2:binOp .neq t x y=(do pure (.bool (!(←Op.equal t x y))))) :
  ∃ r,(binOp op t x y).run P w=.ok r w∧Rep G av r:=by
 unfold iB at h
 split at h
 ·injection h with h; subst h
  refine ⟨.bool b,?_,.sc _ rfl⟩
  rw [h1,Sem.run_bind,he]; rfl
 ·injection h with h; subst h
  refine ⟨.bool !b,?_,.sc _ rfl⟩
  rw [h2,Sem.run_bind,he]; rfl
 ·cases h
theorem uE {P:Program} {G:Gh} {w:World} {op:BinOp} {t e:TypeId} (hu:P.underlying t=some (.pointer e)) {a b av:AV} {x y:Value} (h:eL .pn op a b=some av)
  (ha:Rep G a x) (hb:Rep G b y):∃ r,(binOp op t x y).run P w=.ok r w∧Rep G av r:=by
 simp only [eL] at h
 split at h
 ·rename_i b' h1 h2
  obtain ⟨p,rfl,hp⟩:=fo h1 ha
  obtain ⟨q,rfl,hq⟩:=fo h2 hb
  cases p with
  | some _=>simp at hp
  | none=>subst hq; exact rM h (oE hu q) (by cases q <;> rfl) (by cases q <;> rfl)
 ·rename_i h1 h2
  obtain ⟨p,rfl,hp⟩:=fo h1 ha
  obtain ⟨q,rfl,hq⟩:=fo h2 hb
  cases p with
  | none=>simp at hp
  | some p=>cases q with
   | some _=>simp at hq
   | none=>exact rM h (oF hu p) rfl rfl
 ·cases h
theorem yI {P:Program} {G:Gh} {w:World} {op:UnOp} {a av:AV} {x:Value} (h:unI op a=some av) (hr:Rep G a x):∃ r,(Op.unary op x).run P w=.ok r w∧Rep G av r:=by
 unfold unI at h
 split at h
 ·obtain ⟨rfl,_⟩:=bE hr
  split at h
  ·injection h with h; subst h; exact ⟨_,rfl,.sc _ rfl⟩
  ·injection h with h; subst h; exact ⟨_,rfl,.sc _ rfl⟩
  ·cases h
 ·obtain ⟨rfl,_⟩:=bE hr
  split at h
  ·injection h with h; subst h; exact ⟨_,rfl,.sc _ rfl⟩
  ·cases h
 ·cases h
end Go.AM
namespace Go.AM
theorem sO {P:Program} {G:Gh} {w:World} {x:Option AV} {v:Option Value} {d most m:Nat} {code:BoundsCode} (h:bnd x d most=some m) (hx:x.isNone=v.isNone) (hr:∀ a u,x=some a→v=some u→Rep G a u) :
  (match v with | some u=>(Instr.sliceBound u most code).run P w | none=>.ok d w)=.ok m w∧(x=none→m=d)∧(x≠none→m≤most):=by
 unfold bnd at h
 cases x with
 | none=>
  cases v with
  | none=>simp at h; subst h; exact ⟨rfl,fun _=>rfl,fun h=>absurd rfl h⟩
  | some u=>simp at hx
 | some a=>
  cases v with
  | none=>simp at hx
  | some u=>
   simp only at h
   cases hn:asI a with
   | none=>simp [hn] at h
   | some n=>
    simp only [hn] at h
    split at h
    ·rename_i hc
     injection h with h; subst h
     obtain ⟨k,rfl⟩:=im hn (hr a u rfl rfl)
     refine ⟨by simp [Instr.sliceBound,asIntOf,hc],fun h=>(by cases h),fun _=>by omega⟩
    ·cases h
def e9 (G:Gh) (x:Option AV) (v:Option Value):Prop:=x.isNone=v.isNone∧∀ a u,x=some a→v=some u→Rep G a u
theorem hU {P:Program} {w:World} {isSlice:Bool} {len cap:Nat} {lo hi mx:Option Value} {l h m:Nat}
  (hm:(match mx with | some v=>(Instr.sliceBound v cap (if isSlice then .slice3Acap else .slice3Alen)).run P w | none=>.ok cap w)=.ok m w)
  (hh:(match hi with | some v=>(Instr.sliceBound v m (match mx with | some _=>.slice3B | none=>if isSlice then .sliceAcap else .sliceAlen)).run P w | none=>.ok len w)=.ok h w)
  (hl:(match lo with | some v=>(Instr.sliceBound v h (if mx.isSome then .slice3C else .sliceB)).run P w | none=>.ok 0 w)=.ok l w) (hmh:mx.isSome=true→hi.isSome=true) :
  (Instr.sliceBounds isSlice len cap lo hi mx).run P w=.ok (l,h,m) w:=by
 unfold Instr.sliceBounds
 cases mx with
 | none=>
  simp only at hm hh; injection hm with hm; subst hm
  cases hi with
  | none=>cases lo with
   | none=>simp at hh hl ⊢; simp [hh,hl]
   | some lv=>simp at hh hl ⊢; subst hh; simp [hl]
  | some hv=>cases lo with
   | none=>simp at hh hl ⊢; simp [hh,hl]
   | some lv=>simp at hh hl ⊢; simp [hh,hl]
 | some mv=>
  cases hi with
  | none=>simp at hmh
  | some hv=>
   cases lo with
   | none=>simp at hm hh hl ⊢; simp [hm,hh,hl]
   | some lv=>simp at hm hh hl ⊢; simp [hm,hh,hl]
theorem yE {P:Program} {G:Gh} {s:St} {w:World} {t:TypeId} (hu:P.underlying t=some .string) {a av:AV} {x:Value} {lo hi:Option AV} {lv hv:Option Value} (h:ssI a lo hi=some av)
  (hr:Rep G a x) (hlo:e9 G lo lv) (hhi:e9 G hi hv) (hS:Sim G s w):Out P (Instr.sliceAt t x lv hv none) G s w av s:=by
 unfold ssI at h
 split at h
 ·rename_i st
  obtain ⟨rfl,_⟩:=bE hr
  split at h
  ·rename_i m hm
   split at h
   ·rename_i l hl
    injection h with h; subst h
    have h1:=(sO (P:=P) (w:=w) (code:=.sliceAlen) hm hhi.1 hhi.2).1
    have h2:=(sO (P:=P) (w:=w) (code:=.sliceB) hl hlo.1 hlo.2).1
    have hb:(Instr.sliceBounds false st.size st.size lv hv none).run P w=.ok (l,m,st.size) w:=
     hU rfl (by simpa using h1) (by simpa using h2) (by simp)
    exact .quiet hS (v:=.string (st.extract l m)) (by simp [Instr.sliceAt,Instr.slice,run_underlying hu,hb]) (.sc _ rfl)
   ·cases h
  ·cases h
 ·cases h
theorem fh {α:Type} {es:List α} {h l i:Nat} {e:α} (he:((es.take h).drop l)[i]?=some e):es[l+i]?=some e∧l+i<h:=by
 rw [List.getElem?_drop,List.getElem?_take] at he
 split at he
 ·exact ⟨he,‹_›⟩
 ·cases he
theorem dQ {P:Program} {G:Gh} {w:World} {x:Option AV} {v:Option Value} {d most most' m:Nat} {code:BoundsCode} (h:bnd x d most=some m) (hr:e9 G x v) (hle:most≤most') :
  (match v with | some u=>(Instr.sliceBound u most' code).run P w | none=>.ok d w)=.ok m w:=by
 unfold bnd at h
 cases x with
 | none=>
  cases v with
  | none=>simp at h; subst h; rfl
  | some u=>have:=hr.1; simp at this
 | some a=>
  cases v with
  | none=>have:=hr.1; simp at this
  | some u=>
   simp only at h
   cases hn:asI a with
   | none=>simp [hn] at h
   | some n=>
    simp only [hn] at h
    split at h
    ·rename_i hc
     injection h with h; subst h
     obtain ⟨k,rfl⟩:=im hn (hr.2 a u rfl rfl)
     have h1:=hc.1
     have h2:n≤(most':Int):=by omega
     simp [Instr.sliceBound,asIntOf,h1,h2]
    ·cases h
theorem eO {x:Option AV} {d most m:Nat} (h:bnd x d most=some m) (hd:d≤most):m≤most:=by
 unfold bnd at h
 split at h
 ·injection h with h; omega
 ·split at h
  ·split at h
   ·injection h with h; omega
   ·cases h
  ·cases h
theorem lV {P:Program} {G:Gh} {w:World} {len cap h l:Nat} {lo hi:Option AV} {lv hv:Option Value} (hh:bnd hi len len=some h) (hl:bnd lo 0 h=some l) (hlo:e9 G lo lv) (hhi:e9 G hi hv)
  (hcap:len≤cap):(Instr.sliceBounds true len cap lv hv none).run P w=.ok (l,h,cap) w:=
 hU rfl (by simpa using dQ (P:=P) (w:=w) (code:=.sliceAcap) hh hhi hcap) (by simpa using dQ (P:=P) (w:=w) (code:=.sliceB) hl hlo (Nat.le_refl _)) (by simp)
theorem jl {P:Program} {G:Gh} {w:World} {len cap m h l:Nat} {lo hi mx:Option AV} {lv hv mv:Option Value} (hmx:mv.isSome=true) (hmh:hv.isSome=true) (hm:bnd mx len len=some m) (hh:bnd hi len m=some h) (hl:bnd lo 0 h=some l)
  (hlo:e9 G lo lv) (hhi:e9 G hi hv) (hmr:e9 G mx mv) (hcap:len≤cap):(Instr.sliceBounds true len cap lv hv mv).run P w=.ok (l,h,m) w:=by
 cases mv with
 | none=>simp at hmx
 | some mvv=>
  cases hv with
  | none=>simp at hmh
  | some hvv=>
   exact hU (by simpa using dQ (P:=P) (w:=w) (code:=.slice3Acap) hm hmr hcap) (by simpa using dQ (P:=P) (w:=w) (code:=.slice3B) hh hhi (Nat.le_refl _))
    (by simpa using dQ (P:=P) (w:=w) (code:=.slice3C) hl hlo (Nat.le_refl _)) (by simp)
theorem xK {x:Option AV} {d most m:Nat} (h:bnd x d most=some m) (hx:x≠none):m≤most:=by
 unfold bnd at h
 split at h
 ·exact absurd rfl hx
 ·split at h
  ·split at h
   ·injection h with h; omega
   ·cases h
  ·cases h
theorem yD {P:Program} {G:Gh} {s:St} {w:World} {t e:TypeId} {i:TypeInfo} (ht:dB P t=some (e,i)) {a av:AV} {x:Value} {lo hi mx:Option AV} {lv hv mv:Option Value} (h:srI i.size a lo hi mx=some av)
  (hr:Rep G a x) (hlo:e9 G lo lv) (hhi:e9 G hi hv) (hmx:e9 G mx mv) (hmh:mv.isSome=true→hv.isSome=true) (hS:Sim G s w):Out P (Instr.sliceAt t x lv hv mv) G s w av s:=by
 obtain ⟨hu,hi'⟩:=de ht
 have hrun:∀ (ao:Option Addr) (len cap l h m:Nat),(Instr.sliceBounds true len cap lv hv mv).run P w=.ok (l,h,m) w →
   (Instr.sliceAt t (.slice ao len cap) lv hv mv).run P w=.ok (.slice (if m=l then ao else ao.map (·.add (l*i.size))) (h-l) (m-l)) w:=by
  intro ao len cap l h m hb
  simp [Instr.sliceAt,Instr.slice,run_underlying hu,hb,sizeOf,typeInfo,hi']
 have hhne:mv.isSome=true→hi≠none:=by
  intro hm e
  have:=hmh hm
  have h1:=hhi.1
  rw [e] at h1; cases hv <;> simp_all
 unfold srI at h
 split at h
 ·rename_i g sz' off len
  split at h
  ·rename_i hsz
   cases hr with
   | row _ _ _ l0 ao hg hcap ha hbig=>
    split at h
    ·have hmv:mv=none:=by have:=hmx.1; cases mv <;> simp_all
     subst hmv
     split at h
     ·rename_i m hm
      split at h
      ·rename_i l hl
       injection h with h; subst h
       have h1:=eO hm (Nat.le_refl _)
       have h2:=eO hl (Nat.zero_le _)
       have hb:=hrun ao len (l0.cap-off) l m (l0.cap-off) (lV (P:=P) (w:=w) hm hl hlo hhi (by omega))
       have hrow:Rep G (.row g l0.sz (off+l) (m-l)) (.slice (if l0.cap-off=l then ao else ao.map (·.add (l*i.size))) (m-l) (l0.cap-(off+l))):=by
        refine .row g (off+l) (m-l) l0 _ hg (by omega) (fun hlt=>?_) (by omega)
        rw [if_neg (by omega),ha (by omega)]
        simp [d7,Nat.add_mul,hsz]
       have ecap:l0.cap-off-l=l0.cap-(off+l):=by omega
       rw [ecap] at hb
       rw [hsz]
       exact .quiet hS hb hrow
      ·cases h
     ·cases h
    ·split at h
     ·rename_i m0 hm0
      split at h
      ·rename_i h0 hh0
       split at h
       ·rename_i l hl
        split at h
        ·rename_i hlm
         injection h with h; subst h
         have hmv:mv.isSome=true:=by have:=hmx.1; cases mv <;> simp_all
         have h1:=eO hm0 (Nat.le_refl _)
         have h2:=xK hh0 (hhne hmv)
         have h3:=eO hl (Nat.zero_le _)
         have hb:=hrun ao len (l0.cap-off) l h0 m0 (jl (P:=P) (w:=w) hmv (hmh hmv) hm0 hh0 hl hlo hhi hmx (by omega))
         have e1:h0-l=0:=by omega
         have e2:m0-l=0:=by omega
         rw [e1,e2] at hb
         exact .quiet hS hb (.sl [] true _ 0 0 0 0 (fun _ _=>default) (by simp) (by simp) (by simp) (by simp) (by simp) (by simp) (by simp))
        ·cases h
       ·cases h
      ·cases h
     ·cases h
  ·cases h
 ·rename_i es full
  split at h
  ·rename_i hall
   have hall':∀ e∈es,e.length=i.size:=by
    intro e he
    have:=List.all_eq_true.1 hall e he
    simpa using this
   cases hr with
   | sl _ _ ao cap b o sz f hc hf ha hz hm hrep hbig=>
    have part:∀ (m l cap':Nat) (full':Bool),m≤es.length→l≤m→m-l≤cap'→(full'=true→cap'=m-l)→∀ ao',(l<m→ao'=some ⟨b,o+l*i.size,none⟩) →
      Rep G (.sl ((es.take m).drop l) full') (.slice ao' (m-l) cap'):=by
     intro m l cap' full' h1 h2 h3 h4 ao' h5
     have hlen:((es.take m).drop l).length=m-l:=by simp; omega
     rw [←hlen]
     refine .sl _ _ _ _ b (o+l*i.size) i.size (fun k j=>f (l+k) j) (by rw [hlen]; exact h3) (by rw [hlen]; exact h4) ?_ ?_ ?_ ?_ (by rw [hlen]; omega)
     ·intro hne
      have hpos:0<((es.take m).drop l).length:=List.length_pos_iff.2 hne
      rw [hlen] at hpos
      exact h5 (by omega)
     ·intro k x hx
      exact hall' x (List.mem_of_getElem? (fh hx).1)
     ·intro k x j c hx hj
      have hx':=(fh hx).1
      have:=hm _ _ _ _ hx' hj
      have e1:=hz _ _ hx'
      have e2:=hall' x (List.mem_of_getElem? hx')
      have e3:sz=i.size:=by omega
      rw [e3,Nat.add_mul] at this
      rw [show o+l*i.size+k*i.size+j=o+(l*i.size+k*i.size)+j by omega]
      exact this
     ·intro k x j c hx hj
      exact hrep _ _ _ _ (fh hx).1 hj
    split at h
    ·have hmv:mv=none:=by have:=hmx.1; cases mv <;> simp_all
     subst hmv
     split at h
     ·rename_i m hm0
      split at h
      ·rename_i l hl
       injection h with h; subst h
       have h1:=eO hm0 (Nat.le_refl _)
       have h2:=eO hl (Nat.zero_le _)
       have hb:=hrun ao es.length cap l m cap (lV (P:=P) (w:=w) hm0 hl hlo hhi hc)
       refine .quiet hS hb (part m l (cap-l) _ h1 h2 (by omega) ?_ _ ?_)
       ·intro hff
        simp at hff
        have:=hf hff.1
        omega
       ·intro hlt
        rw [if_neg (by omega),ha (by intro e0; subst e0; simp at h1; omega)]
        simp [d7]
      ·cases h
     ·cases h
    ·split at h
     ·rename_i m0 hm0
      split at h
      ·rename_i h0 hh0
       split at h
       ·rename_i l hl
        split at h
        ·rename_i hhm
         injection h with h; subst h
         have hmv:mv.isSome=true:=by have:=hmx.1; cases mv <;> simp_all
         have h1:=eO hm0 (Nat.le_refl _)
         have h3:=eO hl (Nat.zero_le _)
         have hb:=hrun ao es.length cap l h0 m0 (jl (P:=P) (w:=w) hmv (hmh hmv) hm0 hh0 hl hlo hhi hmx hc)
         refine .quiet hS hb (part h0 l (m0-l) true (by omega) h3 (by omega) (by intro _; omega) _ ?_)
         intro hlt
         rw [if_neg (by omega),ha (by intro e0; subst e0; simp at h1; omega)]
         simp [d7]
        ·cases h
       ·cases h
      ·cases h
     ·cases h
  ·cases h
 ·cases h
theorem wW {P:Program} {G:Gh} {s:St} {w:World} {t e:TypeId} {i:TypeInfo} (ht:dB P t=some (e,i)) {a av:AV} {x:Value} {lo hi mx:Option AV} {lv hv mv:Option Value} (h:srX i.size a lo hi mx s=some av)
  (hr:Rep G a x) (hlo:e9 G lo lv) (hhi:e9 G hi hv) (hmx:e9 G mx mv) (hmh:mv.isSome=true→hv.isSome=true) (hS:Sim G s w):Out P (Instr.sliceAt t x lv hv mv) G s w av s:=by
 obtain ⟨hu,hi'⟩:=de ht
 have hrun:∀ (ao:Option Addr) (len cap l h m:Nat),(Instr.sliceBounds true len cap lv hv mv).run P w=.ok (l,h,m) w →
   (Instr.sliceAt t (.slice ao len cap) lv hv mv).run P w=.ok (.slice (if m=l then ao else ao.map (·.add (l*i.size))) (h-l) (m-l)) w:=by
  intro ao len cap l h m hb
  simp [Instr.sliceAt,Instr.slice,run_underlying hu,hb,sizeOf,typeInfo,hi']
 have hhne:mv.isSome=true→hi≠none:=by
  intro hm e
  have:=hmh hm
  have h1:=hhi.1
  rw [e] at h1; cases hv <;> simp_all
 unfold srX at h
 split at h
 ·rename_i g sz' off len
  split at h
  ·rename_i hsz
   cases hr with
   | row _ _ _ l0 ao hg hcap ha hbig=>
    split at h
    ·have hmv:mv=none:=by have:=hmx.1; cases mv <;> simp_all
     subst hmv
     split at h
     ·rename_i sz2 es st par hrow
      split at h
      ·rename_i m hm
       split at h
       ·rename_i l hl
        split at h
        ·rename_i hmb
         injection h with h; subst h
         obtain ⟨l1,hl1,hok⟩:=hS.blk _ _ hrow
         rw [hg] at hl1; injection hl1 with hl1; subst hl1
         have hes:=hok.2.2.1.1
         have h1:m≤l0.cap-off:=by
          unfold bnd at hm
          split at hm
          ·injection hm with hm; omega
          ·split at hm
           ·split at hm
            ·injection hm with hm; omega
            ·cases hm
           ·cases hm
         have h2:=eO hl (Nat.zero_le _)
         have hb:=hrun ao len (l0.cap-off) l m (l0.cap-off) (hU rfl (by simpa using dQ (P:=P) (w:=w) (code:=.sliceAcap) hm hhi (by omega)) (by simpa using dQ (P:=P) (w:=w) (code:=.sliceB) hl hlo (Nat.le_refl _)) (by simp))
         have hrow:Rep G (.row g l0.sz (off+l) (m-l)) (.slice (if l0.cap-off=l then ao else ao.map (·.add (l*i.size))) (m-l) (l0.cap-(off+l))):=by
          refine .row g (off+l) (m-l) l0 _ hg (by omega) (fun hlt=>?_) (by omega)
          rw [if_neg (by omega),ha (by omega)]
          simp [d7,Nat.add_mul,hsz]
         have ecap:l0.cap-off-l=l0.cap-(off+l):=by omega
         rw [ecap] at hb
         rw [hsz]
         exact .quiet hS hb hrow
        ·cases h
       ·cases h
      ·cases h
     ·cases h
    ·split at h
     ·rename_i m0 hm0
      split at h
      ·rename_i h0 hh0
       split at h
       ·rename_i l hl
        injection h with h; subst h
        have hmv:mv.isSome=true:=by have:=hmx.1; cases mv <;> simp_all
        have h1:=eO hm0 (Nat.le_refl _)
        have hb:=hrun ao len (l0.cap-off) l h0 m0 (jl (P:=P) (w:=w) hmv (hmh hmv) hm0 hh0 hl hlo hhi hmx (by omega))
        exact .quiet hS hb (.undef _)
       ·cases h
      ·cases h
     ·cases h
  ·cases h
 ·cases h
end Go.AM
