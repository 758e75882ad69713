/- Part of the claim: see its last text. -/
import Derived.Test.YtjhogglgkjcacaaGreatMa11
set_option linter.all false
namespace Go.AM
def vB:Next→Option Value
 | .value v=>some v
 | .skip=>some Go.undef
 | _=>none
def OpRes (P:Program) (m:Sem Next) (G:Gh) (s:St) (w:World) (av:AV) (s':St):Prop:=
 ∃ n v w' G',m.run P w=.ok n w'∧vB n=some v∧Stp G s w G' s' w'∧Sim G' s' w'∧Rep G' av v
theorem rn {v:Value} (h:ofValue v=.sl [] true):v=.slice none 0 0:=by
 unfold ofValue at h
 split at h
 ·cases h
 ·unfold iE at h
  split at h
  ·rfl
  ·split at h <;> cases h
  ·split at h <;> cases h
theorem tq {G:Gh} {sl:Slots} {a:Act} (h:RepSl G sl a) {x:Operand} {y:X} (hx:cX x=some y) (md:Md):Rep G (mvI md y sl) (a.eval x):=by
 unfold mvI
 split
 ·cases x with
  | const v=>
   simp only [cX] at hx
   injection hx with hx
   injection hx with hx
   have:=rn hx
   subst this
   exact .sc _ rfl
  | tmp t=>simp only [cX] at hx; injection hx with hx; cases hx
  | global g=>simp [cX] at hx
  | func f=>simp only [cX] at hx; injection hx with hx; cases hx
 ·exact ba h hx
theorem OpRes.ofOut {P:Program} {x:Sem Value} {G:Gh} {s s':St} {w:World} {av:AV} (h:Out P x G s w av s'):OpRes P (do pure (.value (←x))) G s w av s':=by
 obtain ⟨v,w',G',h1,h2,h3,h4⟩:=h
 exact ⟨.value v,v,w',G',by simp [h1],rfl,h2,h3,h4⟩
theorem OpRes.ofEx {P:Program} {x:Sem Value} {G:Gh} {s:St} {w:World} {av:AV} (hS:Sim G s w) (h:∃ r,x.run P w=.ok r w∧Rep G av r):OpRes P (do pure (.value (←x))) G s w av s:=by
 obtain ⟨r,h1,h2⟩:=h
 exact .ofOut (.quiet hS h1 h2)
theorem OpRes.ofPure {P:Program} {v:Value} {G:Gh} {s:St} {w:World} {av:AV} (hS:Sim G s w) (h:Rep G av v):OpRes P (pure (.value v)) G s w av s:=
 ⟨.value v,v,w,G,rfl,rfl,Stp.refl G s w,hS,h⟩
theorem ak {α β:Type} {f:α→β} {x:Option α} {y:β} (h:x.map f=some y):∃ a,x=some a∧f a=y:=by
 cases x with
 | none=>simp at h
 | some a=>exact ⟨a,rfl,by simpa using h⟩
theorem rL {xs:Array Operand} {x:X} (h:cXs xs=some [x]):∃ o,xs=#[o]∧cX o=some x:=by
 obtain ⟨h1,h2⟩:=eF h
 match xs,h1,h2 with
 | ⟨[o]⟩,_,h2=>exact ⟨o,rfl,h2 0 o x rfl rfl⟩
 | ⟨[]⟩,h1,_=>simp at h1
 | ⟨_::_::_⟩,h1,_=>simp at h1
theorem oi {xs:Array Operand} {x y:X} (h:cXs xs=some [x,y]):∃ o p,xs=#[o,p]∧cX o=some x∧cX p=some y:=by
 obtain ⟨h1,h2⟩:=eF h
 match xs,h1,h2 with
 | ⟨[o,p]⟩,_,h2=>exact ⟨o,p,rfl,h2 0 o x rfl rfl,h2 1 p y rfl rfl⟩
 | ⟨[]⟩,h1,_=>simp at h1
 | ⟨[_]⟩,h1,_=>simp at h1
 | ⟨_::_::_::_⟩,h1,_=>simp at h1
set_option maxHeartbeats 1000000 in
theorem yw {P:Program} {o:Oper} {i:I} (hc:aS P o=some i) {sl:Slots} {s s':St} {md:Md} {av:AV} (h:aH i md sl s=some (av,s'))
  {G:Gh} {w:World} {a:Act} (hS:Sim G s w) (hsl:RepSl G sl a):OpRes P (execOp a.eval o) G s w av s':=by
 have rd:∀ {x:Option AV} {s1:St},x.map (·,s)=some (av,s1)→x=some av∧s1=s:=by
  intro x s1 hx
  obtain ⟨b,h1,h2⟩:=ak hx
  injection h2 with h2 h3
  exact ⟨by rw [h1,h2],h3.symm⟩
 unfold execOp
 cases hop:o.op with
 | move x=>
  simp only [aS,hop] at hc
  obtain ⟨y,hy,rfl⟩:=ak hc
  simp only [aH] at h; injection h with h; injection h with h1 h2; subst h1; subst h2
  exact .ofPure hS (tq hsl hy md)
 | assign x=>
  simp only [aS,hop] at hc
  obtain ⟨y,hy,rfl⟩:=ak hc
  simp only [aH] at h; injection h with h; injection h with h1 h2; subst h1; subst h2
  exact .ofPure hS (tq hsl hy md)
 | pick c x y=>
  simp only [aS,hop] at hc
  split at hc
  ·rename_i c' x' y' h1 h2 h3
   injection hc with hc; subst hc
   simp only [aH] at h
   split at h
   ·rename_i t ht
    injection h with h; injection h with h4 h5; subst h4; subst h5
    have hcr:=ba hsl h1
    rw [ht] at hcr
    obtain ⟨hv,_⟩:=bE hcr
    refine ⟨.value (if t=true then a.eval x else a.eval y),_,w,G,?_,rfl,Stp.refl G s w,hS,?_⟩
    ·simp [hv,asBool]
    ·cases t
     ·exact ba hsl h3
     ·exact ba hsl h2
   ·cases h
  ·cases hc
 | alloc e=>
  simp only [aS,hop] at hc
  obtain ⟨z,hz,rfl⟩:=ak hc
  simp only [aH] at h
  exact .ofOut (uA (i:=z.2) hz h hS)
 | box e x=>
  simp only [aS,hop] at hc
  split at hc
  ·rename_i n x' h1 h2
   injection hc with hc; subst hc
   simp only [aH] at h
   exact .ofOut (wI h (ba hsl h2) hS)
  ·cases hc
 | build t ps=>
  simp only [aS,hop] at hc
  split at hc
  ·rename_i zs ti pl h1 h2
   split at hc
   ·rename_i hall
    obtain ⟨l,hl,rfl⟩:=ak hc
    obtain ⟨hl1,hl2⟩:=eF hl
    simp only [aH] at h
    obtain ⟨hx,rfl⟩:=rd h
    obtain ⟨cs,hcs,rfl⟩:=ak hx
    refine .ofOut (xC h1 hall h2 hcs (by simp [←hl1]) ?_ hS)
    intro k p q hp hq
    rw [List.getElem?_map] at hp
    cases hlk:l[k]? with
    | none=>simp [hlk] at hp
    | some lk=>
     simp [hlk] at hp; subst hp
     have hk:k<ps.toList.length:=by rw [hl1]; exact (List.getElem?_eq_some_iff.1 hlk).1
     have:=hl2 k _ _ (List.getElem?_eq_getElem hk) hlk
     have hk':k<ps.size:=by simpa using hk
     simp [hk'] at hq
     subst hq
     simp only [Array.getElem_toList] at this
     split at this
     ·rename_i o' n' x' h3 h4
      injection this with this; subst this
      exact ⟨h3,ba hsl h4⟩
     ·cases this
   ·cases hc
  ·cases hc
 | buildSlice t n ps=>
  simp only [aS,hop] at hc
  split at hc
  ·rename_i e ti h1
   split at hc
   ·rename_i zs ti' h2
    split at hc
    ·rename_i hn
     obtain ⟨l,hl,rfl⟩:=ak hc
     obtain ⟨hl1,hl2⟩:=eF hl
     have hti:ti'=ti:=by
      have e1:=(de h1).2
      have e2:=(dF h2).1
      rw [e1] at e2; exact (Option.some.inj e2).symm
     subst hti
     simp only [aH] at h
     refine .ofOut (xL h1 h2 hn h (by simp [←hl1]) ?_ hS)
     intro k p q hp hq
     rw [List.getElem?_map] at hp
     cases hlk:l[k]? with
     | none=>simp [hlk] at hp
     | some lk=>
      simp [hlk] at hp; subst hp
      have hk:k<ps.toList.length:=by rw [hl1]; exact (List.getElem?_eq_some_iff.1 hlk).1
      have:=hl2 k _ _ (List.getElem?_eq_getElem hk) hlk
      have hk':k<ps.size:=by simpa using hk
      simp [hk'] at hq
      subst hq
      simp only [Array.getElem_toList] at this
      obtain ⟨x',h3,h4⟩:=ak this
      subst h4
      exact ⟨rfl,ba hsl h3⟩
    ·cases hc
   ·cases hc
  ·cases hc
 | load t x=>
  simp only [aS,hop] at hc
  split at hc
  ·rename_i ag x' h1 h2
   injection hc with hc; subst hc
   simp only [aH] at h
   obtain ⟨hx,rfl⟩:=rd h
   exact .ofOut (x9 h1 hx (ba hsl h2) hS)
  ·cases hc
 | store t x y=>
  simp only [aS,hop] at hc
  split at hc
  ·rename_i n x' y' h1 h2 h3
   injection hc with hc; subst hc
   simp only [aH] at h
   obtain ⟨s1,hs1,hs2⟩:=ak h
   injection hs2 with h4 h5; subst h4; subst h5
   obtain ⟨w',G',h6,h7,h8⟩:=yF h1 hs1 (ba hsl h2) (ba hsl h3) hS
   exact ⟨.skip,Go.undef,w',G',by simp [h6],rfl,h7,h8,.undef _⟩
  ·cases hc
 | nilCheck x=>
  simp only [aS,hop] at hc
  obtain ⟨y,hy,rfl⟩:=ak hc
  have hr:=ba hsl hy
  simp only [aH] at h
  have key:∀ b,y.ev sl=b→((∃ g e o,b=.ptr g e o)∨(∃ cs o,b=.zp cs o)∨(∃ f l m,b=.fn (.func f) l m))→av=b→s'=s→OpRes P (execOp a.eval o) G s w av s':=by
   intro b hb hk h1 h2
   subst h1; subst h2
   rw [hb] at hr
   exact ⟨.value (a.eval x),_,w,G,yh hr hk hop rfl,rfl,Stp.refl G _ w,hS,hr⟩
  have key':OpRes P (execOp a.eval o) G s w av s':=by
   split at h
   ·rename_i g e oo hb
    injection h with h; injection h with h1 h2
    exact key _ hb (.inl ⟨_,_,_,rfl⟩) h1.symm h2.symm
   ·rename_i cs oo hb
    injection h with h; injection h with h1 h2
    exact key _ hb (.inr (.inl ⟨_,_,rfl⟩)) h1.symm h2.symm
   ·rename_i f l m hb
    injection h with h; injection h with h1 h2
    exact key _ hb (.inr (.inr ⟨_,_,_,rfl⟩)) h1.symm h2.symm
   ·cases h
  unfold execOp at key'
  simp only [hop] at key'
  exact key'
 | binOp op t x y yt=>
  simp only [aS,hop] at hc
  split at hc
  ·rename_i k x' y' h1 h2 h3
   injection hc with hc; subst hc
   simp only [aH] at h
   obtain ⟨hx,rfl⟩:=rd h
   have hrx:=ba hsl h2
   have hry:=ba hsl h3
   have fin:∀ r,(eqGuard op t x y (a.eval x) (a.eval y)).run P w=.ok () w→(binOp op t (a.eval x) (a.eval y)).run P w=.ok r w→Rep G av r →
     OpRes P (do pure (.value (←(do eqGuard op t x y (a.eval x) (a.eval y); binOp op t (a.eval x) (a.eval y))))) G s' w av s':=by
    intro r e1 e2 e3
    exact .ofOut (.quiet hS (by simp [e1,e2]) e3)
   unfold cBk at h1
   split at h1
   ·injection h1 with h1; subst h1
    simp only [eL] at hx
    split at hx
    ·rename_i va vb e1 e2
     obtain ⟨r,hr1,hr2⟩:=ak hx
     subst hr2
     rw [e1] at hrx; rw [e2] at hry
     obtain ⟨q1,_⟩:=bE hrx
     obtain ⟨q2,_⟩:=bE hry
     obtain ⟨e3,e4⟩:=pX (P:=P) (w:=w) (t:=t) hr1
     refine fin r (eD ?_ ?_) (by rw [q1,q2]; exact e3) (.sc _ e4)
     ·rw [q1,q2]; rintro ⟨rfl,rfl⟩; simp [eC] at hr1
     ·rw [q1,q2]; rintro xs ys ⟨rfl,rfl⟩; simp [eC] at hr1
    ·cases hx
   ·injection h1 with h1; subst h1
    simp only [eL] at hx
    split at hx
    ·rename_i va vb e1 e2
     obtain ⟨r,hr1,hr2⟩:=ak hx
     subst hr2
     rw [e1] at hrx; rw [e2] at hry
     obtain ⟨q1,_⟩:=bE hrx
     obtain ⟨q2,_⟩:=bE hry
     obtain ⟨e3,e4⟩:=pX (P:=P) (w:=w) (t:=t) hr1
     refine fin r (eD ?_ ?_) (by rw [q1,q2]; exact e3) (.sc _ e4)
     ·rw [q1,q2]; rintro ⟨rfl,rfl⟩; simp [eC] at hr1
     ·rw [q1,q2]; rintro xs ys ⟨rfl,rfl⟩; simp [eC] at hr1
    ·cases hx
   ·rename_i hu
    injection h1 with h1; subst h1
    simp only [eL] at hx
    split at hx
    ·rename_i va vb e1 e2
     obtain ⟨r,hr1,hr2⟩:=ak hx
     subst hr2
     rw [e1] at hrx; rw [e2] at hry
     obtain ⟨q1,_⟩:=bE hrx
     obtain ⟨q2,_⟩:=bE hry
     obtain ⟨e3,e4⟩:=uD (P:=P) (w:=w) hu hr1
     refine fin r (eD ?_ ?_) (by rw [q1,q2]; exact e3) (.sc _ e4)
     ·rw [q1,q2]; rintro ⟨rfl,rfl⟩; simp [iO] at hr1
     ·rw [q1,q2]; rintro xs ys ⟨rfl,rfl⟩; simp [iO] at hr1
    ·cases hx
   ·rename_i e hu
    injection h1 with h1; subst h1
    obtain ⟨r,e1,e2⟩:=uE (P:=P) (w:=w) hu hx hrx hry
    have hpx:∃ p,a.eval x=.pointer p:=by
     simp only [eL] at hx
     split at hx
     ·rename_i g1 g2; obtain ⟨p,hp,_⟩:=fo g1 hrx; exact ⟨p,hp⟩
     ·rename_i g1 g2; obtain ⟨p,hp,_⟩:=fo g1 hrx; exact ⟨p,hp⟩
     ·cases hx
    obtain ⟨p,hp⟩:=hpx
    exact fin r (eD (by rw [hp]; simp) (by rw [hp]; simp)) e1 e2
   ·rename_i fs hu
    split at h1
    ·rename_i ks hks
     split at h1
     ·rename_i hg
      injection h1 with h1; subst h1
      exact .ofOut (sJ hks hg hx hrx hry hS)
     ·cases h1
    ·cases h1
   ·split at h1
    ·injection h1 with h1; subst h1
     simp [eL] at hx
    ·cases h1
   ·rename_i mk me hu
    split at h1
    ·rename_i hn
     injection h1 with h1; subst h1
     have hy:a.eval y=.map none:=by
      unfold vu at hn
      split at hn
      ·rfl
      ·cases hn
     have:=uU (P:=P) (w:=w) (ox:=x) (oy:=y) hu hx hrx hS
     rw [←hy] at this
     exact .ofOut this
    ·cases h1
   ·cases h1
  ·cases hc
 | unOp op t x=>
  simp only [aS,hop] at hc
  obtain ⟨y,hy,rfl⟩:=ak hc
  simp only [aH] at h
  obtain ⟨hx,rfl⟩:=rd h
  exact .ofEx hS (yI hx (ba hsl hy))
 | convert src dst x=>
  simp only [aS,hop] at hc
  split at hc
  ·rename_i k x' h1 h2
   injection hc with hc; subst hc
   simp only [aH] at h
   obtain ⟨hx,rfl⟩:=rd h
   have hr:=ba hsl h2
   unfold cCv at h1
   split at h1
   ·rename_i k1 k2 u1 u2
    injection h1 with h1; subst h1
    simp only [cvI] at hx
    split at hx <;> first | (simp_all; done) | skip
    rename_i k3 k4 n e1 e2
    injection e1 with e1; subst e1
    injection hx with hx; subst hx
    rw [e2] at hr
    obtain ⟨q,_⟩:=bE hr
    exact .ofEx hS ⟨_,by rw [q]; simp [convert,run_underlying u1,run_underlying u2,Conv.intToInt],.sc _ rfl⟩
   ·rename_i k1 u1 u2
    injection h1 with h1; subst h1
    simp only [cvI] at hx
    split at hx <;> first | (simp_all; done) | skip
    rename_i k4 n e1 e2
    injection hx with hx; subst hx
    rw [e2] at hr
    obtain ⟨q,_⟩:=bE hr
    exact .ofEx hS ⟨_,by rw [q]; simp [convert,run_underlying u1,run_underlying u2,Conv.intToString],.sc _ rfl⟩
   ·rename_i u1 u2
    injection h1 with h1; subst h1
    simp only [cvI] at hx
    split at hx <;> first | (simp_all; done) | skip
    rename_i b e1 e2
    injection hx with hx; subst hx
    rw [e2] at hr
    obtain ⟨q,_⟩:=bE hr
    exact .ofEx hS ⟨_,by rw [q]; simp [convert,run_underlying u1,run_underlying u2],.sc _ rfl⟩
   ·rename_i e u1 u2
    split at h1
    ·rename_i u3
     injection h1 with h1; subst h1
     exact .ofOut (wH u1 u3 u2 hx hr hS)
    ·cases h1
   ·cases h1
  ·cases hc
 | makeFunc f xs ys=>
  cases f with
  | func f=>
   simp only [aS,hop] at hc
   split at hc
   ·rename_i xs' ys' h1 h2
    injection hc with hc; subst hc
    simp only [aH] at h
    injection h with h; injection h with e1 e2; subst e1; subst e2
    have r1:=ky hsl h1
    have r2:=ky hsl h2
    refine .ofOut (.quiet hS (v:=.func (.func f) (xs.map a.eval) (ys.map a.eval)) (by simp [Instr.makeFunc]) (.fn _ _ _ _ _ ?_ ?_ ?_ ?_))
    ·have:=r1.1; simpa using this
    ·have:=r2.1; simpa using this
    ·exact fun j c v hc hv=>r1.2 j c v hc (by simpa using hv)
    ·exact fun j c v hc hv=>r2.2 j c v hc (by simpa using hv)
   ·cases hc
  | _=>simp [aS,hop] at hc
 | makeSlice t l c=>
  simp only [aS,hop] at hc
  split at hc
  ·rename_i e ti h1
   split at hc
   ·rename_i zs ti' l' c' h2 h3 h4
    injection hc with hc; subst hc
    have hti:ti'=ti:=by
     have e1:=(de h1).2
     have e2:=(dF h2).1
     rw [e1] at e2; exact (Option.some.inj e2).symm
    subst hti
    simp only [aH] at h
    exact .ofOut (ye h1 h2 h (ba hsl h3) (ba hsl h4) hS)
   ·cases hc
  ·cases hc
 | slice t x lo hi mx=>
  simp only [aS,hop] at hc
  split at hc
  ·rename_i x' lo' hi' mx' h1 h2 h3 h4
   split at hc
   ·rename_i hu
    split at hc
    ·rename_i hm
     injection hc with hc; subst hc
     simp only [aH] at h
     obtain ⟨hx,rfl⟩:=rd h
     have hmx:=iz hsl h4
     have:mx=none:=by
      cases mx with
      | none=>rfl
      | some _=>cases mx' with
       | none=>have:=hmx.1; simp at this
       | some _=>simp at hm
     subst this
     exact .ofOut (yE hu hx (ba hsl h1) (iz hsl h2) (iz hsl h3) hS)
    ·cases hc
   ·rename_i e hu
    split at hc
    ·rename_i ti hti
     split at hc
     ·rename_i hmh
      injection hc with hc; subst hc
      have hmx:=iz hsl h4
      have hhi:=iz hsl h3
      have hmm:(mx.map a.eval).isSome=true→(hi.map a.eval).isSome=true:=by
       intro hm
       have e1:=hmx.1
       have e2:=hhi.1
       have hm':mx'.isSome=true:=by
        cases mx <;> cases mx' <;> simp_all
       have:=hmh hm'
       cases hi <;> cases hi' <;> simp_all
      simp only [aH] at h
      split at h
      ·obtain ⟨hx,rfl⟩:=rd h
       exact .ofOut (wW (e:=e) (i:=ti) (by simp [dB,hu,hti]) hx (ba hsl h1) (iz hsl h2) hhi hmx hmm hS)
      ·obtain ⟨hx,rfl⟩:=rd h
       exact .ofOut (yD (e:=e) (i:=ti) (by simp [dB,hu,hti]) hx (ba hsl h1) (iz hsl h2) hhi hmx hmm hS)
     ·cases hc
    ·cases hc
   ·cases hc
  ·cases hc
 | fieldAddr t x f=>
  simp only [aS,hop] at hc
  split at hc
  ·rename_i off x' h1 h2
   injection hc with hc; subst hc
   simp only [aH] at h
   obtain ⟨hx,rfl⟩:=rd h
   exact .ofOut (xT h1 hx (ba hsl h2) hS)
  ·cases hc
 | field t x f=>
  simp only [aS,hop] at hc
  split at hc
  ·rename_i ag off x' h1 h2
   injection hc with hc; subst hc
   simp only [aH] at h
   obtain ⟨hx,rfl⟩:=rd h
   exact .ofOut (xU h1 hx (ba hsl h2) hS)
  ·cases hc
 | indexAddr t x i=>
  simp only [aS,hop] at hc
  split at hc
  ·rename_i e ti x' i' h1 h2 h3
   injection hc with hc; subst hc
   simp only [aH] at h
   obtain ⟨hx,rfl⟩:=rd h
   exact .ofOut (xY h1 hx (ba hsl h2) (ba hsl h3) hS)
  ·cases hc
 | index t x i=>
  simp only [aS,hop] at hc
  split at hc
  ·rename_i x' i' h1 h2 h3
   injection hc with hc; subst hc
   simp only [aH] at h
   obtain ⟨hx,rfl⟩:=rd h
   exact .ofOut (xZ h1 hx (ba hsl h2) (ba hsl h3) hS)
  ·cases hc
 | extract x i=>
  simp only [aS,hop] at hc
  obtain ⟨y,hy,rfl⟩:=ak hc
  simp only [aH] at h
  obtain ⟨hx,rfl⟩:=rd h
  exact .ofOut (xS hx (ba hsl hy) hS)
 | panic x=>
  simp only [aS,hop] at hc
  injection hc with hc; subst hc
  simp [aH,exI,X.ev] at h
 | makeMap t r=>
  cases r with
  | none=>
   simp only [aS,hop] at hc
   injection hc with hc; subst hc
   simp only [aH] at h
   injection h with h; injection h with e1 e2; subst e1; subst e2
   exact .ofOut (sg t hS)
  | some r=>simp [aS,hop] at hc
 | lookup t x k ok=>
  simp only [aS,hop] at hc
  split at hc
  ·rename_i kt et x' k' h1 h2 h3
   split at hc
   ·rename_i kk z h4 h5
    injection hc with hc; subst hc
    simp only [aH] at h
    obtain ⟨hx,rfl⟩:=rd h
    unfold tZv at h5
    cases hi:P.info? et with
    | none=>simp [hi] at h5
    | some ti=>
     simp [hi] at h5
     exact .ofOut (ya h1 h4 hi h5 hx (ba hsl h2) (ba hsl h3) hS)
   ·cases hc
  ·cases hc
 | mapUpdate t m k v=>
  simp only [aS,hop] at hc
  split at hc
  ·rename_i kt et m' k' v' h1 h2 h3 h4
   obtain ⟨kk,hkk,rfl⟩:=ak hc
   simp only [aH] at h
   obtain ⟨s1,hs1,hs2⟩:=ak h
   injection hs2 with h5 h6; subst h5; subst h6
   obtain ⟨w',h7,h8,h9⟩:=yf h1 hkk hs1 (ba hsl h2) (ba hsl h3) (ba hsl h4) hS
   exact ⟨.skip,Go.undef,w',G,by simp [h7],rfl,h8,h9,.undef _⟩
  ·cases hc
 | range t x=>
  simp only [aS,hop] at hc
  split at hc
  ·rename_i kt et x' h1 h2
   injection hc with hc; subst hc
   simp only [aH] at h
   exact .ofOut (yz h1 h (ba hsl h2) hS)
  ·cases hc
 | next it st=>
  cases st with
  | false=>
   simp only [aS,hop] at hc
   obtain ⟨y,hy,rfl⟩:=ak hc
   simp [aH] at h
  | true=>simp [aS,hop] at hc
 | entry it=>
  simp only [aS,hop] at hc
  obtain ⟨y,hy,rfl⟩:=ak hc
  simp only [aH] at h
  obtain ⟨hx,rfl⟩:=rd h
  exact .ofOut (yu hx (ba hsl hy) hS)
 | makeInterface t x=>
  simp only [aS,hop] at hc
  split at hc
  ·cases hc
  ·rename_i d x' h0 h1 h2
   injection hc with hc; subst hc
   simp only [aH] at h
   split at h
   ·injection h with h; injection h with e1 e2; subst e1; subst e2
    refine .ofOut (.quiet hS (v:=.iface t (a.eval x)) ?_ (.ifc _ _ _ (ba hsl h2)))
    cases d <;> first | (exact absurd rfl (h0 _)) | simp [Instr.makeInterface,run_underlying h1]
   ·cases h
  ·cases hc
 | typeAssert x xt t ok=>
  cases ok with
  | true=>simp [aS,hop] at hc
  | false=>
   simp only [aS,hop] at hc
   split at hc
   ·cases hc
   ·rename_i d x' h0 h1 h2
    injection hc with hc; subst hc
    simp only [aH] at h
    split at h
    ·rename_i t' v hx
     split at h
     ·rename_i he; subst he
      injection h with h; injection h with e1 e2; subst e1; subst e2
      have hr:=ba hsl h2
      rw [hx] at hr
      cases hy:a.eval x with
      | iface t2 u=>
       rw [hy] at hr
       cases hr with
       | ifc _ _ _ hr=>
        refine .ofOut (.quiet hS (v:=u) ?_ hr)
        cases d <;> first | (exact absurd rfl (h0 _)) | simp [Instr.typeAssert,run_underlying h1,hy]
      | _=>rw [hy] at hr; cases hr
     ·cases h
    ·cases h
   ·cases hc
 | call c=>
  simp only [aS,hop] at hc
  split at hc
  ·
   injection hc with hc; subst hc; simp [aH] at h
  ·obtain ⟨y,hy,rfl⟩:=ak hc; simp [aH] at h
  ·obtain ⟨y,hy,rfl⟩:=ak hc; simp [aH] at h
  ·rename_i x h1 h2
   obtain ⟨ox,hox,hxx⟩:=rL h2
   split at hc
   ·rename_i t ht
    obtain ⟨k,hk,rfl⟩:=ak hc
    simp only [aH] at h
    obtain ⟨hx,rfl⟩:=rd h
    have hres:(do let d ←resolve a.eval c o.type; invoke d.target d.args:Sem Next)=(do pure (.value (←Builtin.len_ c.argTypes o.type #[a.eval ox]))):=by
     simp [resolve,h1,invoke,builtin,hox]
    show OpRes P (do let d ←resolve a.eval c o.type; invoke d.target d.args) G s' w av s'
    rw [hres]
    exact .ofOut (wN ht hk hx (ba hsl hxx) hS)
   ·cases hc
  ·rename_i d x h1 h2
   obtain ⟨od,ox,hox,hdd,hxx⟩:=oi h2
   split at hc
   ·rename_i t t' ht
    split at hc
    ·rename_i htt
     subst htt
     obtain ⟨k,hk,rfl⟩:=ak hc
     simp only [aH] at h
     have hat:c.argTypes=#[t,t]:=by rw [←Array.toArray_toList (xs:=c.argTypes),ht]
     have hres:(do let d ←resolve a.eval c o.type; invoke d.target d.args:Sem Next)=(do pure (.value (←Builtin.append_ #[t,t] o.type #[a.eval od,a.eval ox]))):=by
      simp [resolve,h1,invoke,builtin,hox,hat]
     show OpRes P (do let d ←resolve a.eval c o.type; invoke d.target d.args) G s w av s'
     rw [hres]
     by_cases hmd:md=.fork
     ·subst hmd
      exact .ofOut (sH (e:=k.1) (i:=k.2) hk h (ba hsl hdd) (ba hsl hxx) hS o.type)
     ·exact .ofOut (vp (e:=k.1) (i:=k.2) hk hmd h (ba hsl hdd) (ba hsl hxx) hS o.type)
    ·cases hc
   ·cases hc
  ·rename_i d x h1 h2
   obtain ⟨od,ox,hox,hdd,hxx⟩:=oi h2
   split at hc
   ·rename_i t ht
    obtain ⟨k,hk,rfl⟩:=ak hc
    simp only [aH] at h
    have hres:(do let d ←resolve a.eval c o.type; invoke d.target d.args:Sem Next)=(do pure (.value (←Builtin.copy_ c.argTypes o.type #[a.eval od,a.eval ox]))):=by
     simp [resolve,h1,invoke,builtin,hox]
    show OpRes P (do let d ←resolve a.eval c o.type; invoke d.target d.args) G s w av s'
    rw [hres]
    exact .ofOut (xO (e:=k.1) (i:=k.2) ht hk h (ba hsl hdd) (ba hsl hxx) hS)
   ·cases hc
  ·rename_i d x h1 h2
   obtain ⟨od,ox,hox,hdd,hxx⟩:=oi h2
   split at hc
   ·rename_i t ht
    split at hc
    ·rename_i kt et hu
     obtain ⟨kk,hkk,rfl⟩:=ak hc
     simp only [aH] at h
     obtain ⟨s1,hs1,hs2⟩:=ak h
     injection hs2 with e1 e2; subst e1; subst e2
     have hres:(do let d ←resolve a.eval c o.type; invoke d.target d.args:Sem Next)=(do pure (.value (←Builtin.delete_ c.argTypes o.type #[a.eval od,a.eval ox]))):=by
      simp [resolve,h1,invoke,builtin,hox]
     show OpRes P (do let d ←resolve a.eval c o.type; invoke d.target d.args) G s w _ _
     rw [hres]
     exact .ofOut (xP ht hu hkk hs1 (ba hsl hdd) (ba hsl hxx) hS)
    ·cases hc
   ·cases hc
  ·rename_i x h1 h2
   obtain ⟨ox,hox,hxx⟩:=rL h2
   split at hc
   ·rename_i t ht
    split at hc
    ·rename_i e ti hte
     split at hc
     ·rename_i zs ti' hz
      injection hc with hc; subst hc
      have hti:ti'=ti:=by
       have e1:=(de hte).2
       have e2:=(dF hz).1
       rw [e1] at e2; exact (Option.some.inj e2).symm
      subst hti
      simp only [aH] at h
      obtain ⟨s1,hs1,hs2⟩:=ak h
      injection hs2 with e1 e2; subst e1; subst e2
      have hres:(do let d ←resolve a.eval c o.type; invoke d.target d.args:Sem Next)=(do pure (.value (←Builtin.clear_ c.argTypes o.type #[a.eval ox]))):=by
       simp [resolve,h1,invoke,builtin,hox]
      show OpRes P (do let d ←resolve a.eval c o.type; invoke d.target d.args) G s w _ _
      rw [hres]
      exact .ofOut (xM ht hte hz hs1 (ba hsl hxx) hS)
     ·cases hc
    ·cases hc
   ·cases hc
  ·rename_i l h1 h2
   injection hc with hc; subst hc
   simp only [aH] at h
   obtain ⟨hx,rfl⟩:=rd h
   have hres:(do let d ←resolve a.eval c o.type; invoke d.target d.args:Sem Next)=(do pure (.value (←Builtin.max_ c.argTypes o.type (c.args.map a.eval)))):=by
    simp [resolve,h1,invoke,builtin]
   show OpRes P (do let d ←resolve a.eval c o.type; invoke d.target d.args) G s' w av s'
   rw [hres]
   exact .ofEx hS (yg (ky hsl h2) hx)
  ·rename_i l h1 h2
   injection hc with hc; subst hc
   simp only [aH] at h
   obtain ⟨hx,rfl⟩:=rd h
   have hres:(do let d ←resolve a.eval c o.type; invoke d.target d.args:Sem Next)=(do pure (.value (←Builtin.min_ c.argTypes o.type (c.args.map a.eval)))):=by
    simp [resolve,h1,invoke,builtin]
   show OpRes P (do let d ←resolve a.eval c o.type; invoke d.target d.args) G s' w av s'
   rw [hres]
   exact .ofEx hS (yd (ky hsl h2) hx)
  ·cases hc
 | _=>simp [aS,hop] at hc
end Go.AM
