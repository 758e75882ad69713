/- Part of the claim: see its last text. -/
import Derived.Test.YtjhogglgkjcacaaGreatMa12
set_option linter.all false
namespace Go.AM
theorem qn {G:Gh} {s s':St} {w:World} {v v':AV} {x:Value} (h:fz1 v s=some (v',s')) (hr:Rep G v x) (hS:Sim G s w):∃ G',Stp G s w G' s' w∧Sim G' s' w∧Rep G' v' x:=by
 have other:norm v=v'→s'=s→∃ G',Stp G s w G' s' w∧Sim G' s' w∧Rep G' v' x:=by
  rintro rfl rfl
  exact ⟨G,Stp.refl G _ w,hS,iD _ _ hr⟩
 unfold fz1 at h
 split at h
 ·rename_i g sz0 off len
  split at h
  ·rename_i sz es st par hg
   split at h
   ·rename_i hc
    obtain ⟨hle,hpar,hst⟩:=hc
    subst hpar
    injection h with h; injection h with h1 h2; subst h1; subst h2
    cases hr with
    | row _ _ _ l a hl hlc ha hbig=>
     obtain ⟨l',hl',hb1,hb2,hb3,hb4⟩:=hS.blk g _ hg
     rw [hl] at hl'; injection hl' with e1; subst e1
     have hnl:∀ k,st≠.lent k:=by rintro k rfl; rcases hst with h | h <;> cases h
     have hfree:0<l.cap→mp G s g l.b:=fun hc=>hS.freeRow hg hnl hl hc
     have hloc:=f7 hl
     have hS1:Sim G { s with h:=upd s.h g (some (.row sz es .frz none)) } w:=by
      have:=Sim.put (g:=g) (b':=.row sz es .frz none) (l':=l) (c':=s.c) (w':=w) hS (Nat.le_refl _) (hS.hLt hg) (by rw [hloc]; exact .refl G) hfree (fun _ _ _=>rfl)
       (fun o v _ hm=>hS.mem _ _ _ hm) (by simp) ⟨hb1,hb2,by rw [hloc]; exact hb3,fun h=>absurd rfl h⟩
      rwa [hloc] at this
     have hT1:Stp G s w G { s with h:=upd s.h g (some (.row sz es .frz none)) } w:=by
      refine ⟨.refl G,Nat.le_refl _,rfl,rfl,rfl,Nat.le_refl _,fun _ _ _=>rfl,?_⟩
      rintro b hb ⟨k,bk,lk,hk,hlk,he,hck⟩
      have hk':upd s.h g (some (.row sz es .frz none)) k=some bk:=hk
      unfold upd at hk'
      split at hk'
      ·rename_i e2; subst e2; exact ⟨k,_,lk,hg,hlk,he,hck⟩
      ·exact ⟨k,bk,lk,hk',hlk,he,hck⟩
     have hlen:((es.drop off).take len).length=len:=by simp; omega
     by_cases h0:len=0
     ·subst h0
      refine ⟨G,hT1,hS1,?_⟩
      simp only [List.take_zero,aP]
      exact Rep.sl [] false a (l.cap-off) 0 0 0 (fun _ _=>default) (by simp) (by simp) (by simp) (by simp) (by simp) (by simp) (by simp)
     ·have hcap:0<l.cap:=by omega
      obtain ⟨C,ty,hC,hcs,hflat⟩:=hb3.flat hcap
      have hS2:=hS1.addMem hC (fun k sz' es' st' par' lk hk hst' hlk hck=>by
       have hk':upd s.h g (some (.row sz es .frz none)) k=some (.row sz' es' st' par'):=hk
       unfold upd at hk'
       split at hk'
       ·injection hk' with hk'; injection hk' with _ _ e3 _; exact absurd e3.symm hst'
       ·rename_i hne; exact hfree hcap k _ lk hne hk' hlk hck)
      have hle':=hS1.leMem hC
      refine ⟨G.addMem l.b C,hT1.trans (Stp.addMem hle'),hS2,?_⟩
      have hf:=(hflat.drop off).take len
      have key:Rep (G.addMem l.b C) (.sl ((es.drop off).take len) false) (.slice a ((es.drop off).take len).length (l.cap-off)):=by
       refine .sl _ false a _ l.b (off*l.sz) l.sz (fun i j=>C.getD (off*l.sz+i*l.sz+j) default) (by rw [hlen]; omega) (by simp) (fun _=>ha (by omega)) (fun i e he=>(hf.2 i e he).1) ?_ ?_ (by rw [hlen]; exact hbig)
       ·intro i e j c he hj
        show (if l.b=l.b then C[off*l.sz+i*l.sz+j]? else _)=_
        rw [if_pos rfl]
        have he':es[off+i]?=some e:=by
         rw [List.getElem?_take] at he
         split at he
         ·rwa [List.getElem?_drop] at he
         ·cases he
        obtain ⟨_,v,h1,_⟩:=(hflat.2 _ e he').2 j c hj
        have h1':C[(off+i)*l.sz+j]?=some v:=by
         rw [List.getElem?_take] at h1
         split at h1
         ·simpa using h1
         ·cases h1
        rw [Nat.add_mul] at h1'
        simp [Array.getD_eq_getD_getElem?,h1']
       ·intro i e j c he hj
        have he':es[off+i]?=some e:=by
         rw [List.getElem?_take] at he
         split at he
         ·rwa [List.getElem?_drop] at he
         ·cases he
        obtain ⟨_,v,h1,h2⟩:=(hflat.2 _ e he').2 j c hj
        have h1':C[(off+i)*l.sz+j]?=some v:=by
         rw [List.getElem?_take] at h1
         split at h1
         ·simpa using h1
         ·cases h1
        rw [Nat.add_mul] at h1'
        have:C.getD (off*l.sz+i*l.sz+j) default=v:=by simp [Array.getD_eq_getD_getElem?,h1']
        rw [this]
        exact h2.mono hle'
      rw [hlen] at key
      have:=iD _ _ key
      simpa [norm] using this
   ·cases h
  ·cases h
 all_goals (injection h with h; injection h with h1 h2; exact other h1 h2.symm)
theorem sZ {G:Gh} {w:World}:∀ (vs vs':List AV) (s s':St) (xs:List Value) (G:Gh),fzL vs s=some (vs',s')→RepL G vs xs→Sim G s w→∃ G',Stp G s w G' s' w∧Sim G' s' w∧RepL G' vs' xs
 | [],vs',s,s',xs,G,h,hr,hS=>by
  simp only [fzL] at h; injection h with h; injection h with h1 h2; subst h1; subst h2
  exact ⟨G,Stp.refl G _ w,hS,hr⟩
 | v::vs,vs',s,s',xs,G,h,hr,hS=>by
  cases xs with
  | nil=>have:=hr.1; simp at this
  | cons x xs=>
   simp only [fzL] at h
   split at h
   ·rename_i v1 s1 h1
    split at h
    ·rename_i vs1 s2 h2
     injection h with h; injection h with e1 e2; subst e1; subst e2
     obtain ⟨G1,a1,a2,a3⟩:=qn h1 (hr.2 0 v x rfl rfl) hS
     have hr':RepL G1 vs xs:=RepL.mono a1.le ⟨by simpa using hr.1,fun j c u hc hu=>hr.2 (j+1) c u (by simpa using hc) (by simpa using hu)⟩
     obtain ⟨G2,b1,b2,b3⟩:=sZ (G:=G) vs vs1 s1 s2 xs G1 h2 hr' a2
     exact ⟨G2,a1.trans b1,b2,RepL.cons (a3.mono b1.le) b3⟩
    ·cases h
   ·cases h
theorem qo {G:Gh} {s s':St} {w:World} {v v':AV} {x:Value} (h:fzI v s=some (v',s')) (hr:Rep G v x) (hS:Sim G s w):∃ G',Stp G s w G' s' w∧Sim G' s' w∧Rep G' v' x:=by
 unfold fzI at h
 split at h
 ·rename_i cs
  split at h
  ·rename_i cs' s1 h1
   injection h with h; injection h with e1 e2; subst e1; subst e2
   obtain ⟨xs,rfl,hrl⟩:=hr.ofAgg
   obtain ⟨G',a1,a2,a3⟩:=sZ (G:=G) cs cs' s s1 xs.toList G h1 hrl hS
   exact ⟨G',a1,a2,by simpa using a3.toAgg⟩
  ·cases h
 ·exact qn h hr hS
theorem rR {w:World}:∀ (vs vs':List AV) (s s':St) (xs:List Value) (G:Gh),fzR.go vs s=some (vs',s')→RepL G vs xs→Sim G s w→∃ G',Stp G s w G' s' w∧Sim G' s' w∧RepL G' vs' xs
 | [],vs',s,s',xs,G,h,hr,hS=>by
  simp only [fzR.go] at h; injection h with h; injection h with h1 h2; subst h1; subst h2
  exact ⟨G,Stp.refl G _ w,hS,hr⟩
 | v::vs,vs',s,s',xs,G,h,hr,hS=>by
  cases xs with
  | nil=>have:=hr.1; simp at this
  | cons x xs=>
   simp only [fzR.go] at h
   split at h
   ·rename_i v1 s1 h1
    split at h
    ·rename_i vs1 s2 h2
     injection h with h; injection h with e1 e2; subst e1; subst e2
     obtain ⟨G1,a1,a2,a3⟩:=qo h1 (hr.2 0 v x rfl rfl) hS
     have hr':RepL G1 vs xs:=RepL.mono a1.le ⟨by simpa using hr.1,fun j c u hc hu=>hr.2 (j+1) c u (by simpa using hc) (by simpa using hu)⟩
     obtain ⟨G2,b1,b2,b3⟩:=rR vs vs1 s1 s2 xs G1 h2 hr' a2
     exact ⟨G2,a1.trans b1,b2,RepL.cons (a3.mono b1.le) b3⟩
    ·cases h
   ·cases h
theorem wL {G:Gh} {s s':St} {w:World} {v v':AV} {x:Value} (h:fzR v s=some (v',s')) (hr:Rep G v x) (hS:Sim G s w):∃ G',Stp G s w G' s' w∧Sim G' s' w∧Rep G' v' x:=by
 unfold fzR at h
 split at h
 ·rename_i cs
  split at h
  ·rename_i cs' s1 h1
   injection h with h; injection h with e1 e2; subst e1; subst e2
   obtain ⟨xs,rfl,hrl⟩:=hr.ofTup
   obtain ⟨G',a1,a2,a3⟩:=rR cs cs' s s1 xs.toList G h1 hrl hS
   exact ⟨G',a1,a2,by simpa using a3.toTup⟩
  ·cases h
 ·exact qo h hr hS
theorem oj {G:Gh} {s s':St} {w:World} {md:Md} {v v':AV} {x:Value} (h:cF md v s=some (v',s')) (hr:Rep G v x) (hS:Sim G s w):∃ G',Stp G s w G' s' w∧Sim G' s' w∧Rep G' v' x:=by
 unfold cF at h
 split at h
 ·exact qo h hr hS
 ·rename_i sz
  split at h
  ·split at h
   ·rename_i hsz
    injection h with h; injection h with h1 h2; subst h1; subst h2
    obtain ⟨h1,h2⟩:=jS hS hsz
    cases hr with
    | sl _ _ a cap b o sz' f hc hf ha hz hm hrep=>
     have hcap:cap=0:=hf rfl
     subst hcap
     refine ⟨_,h2,h1,?_⟩
     have:=Rep.row (G:=G.addLoc s.c ⟨0,0,sz⟩) s.c 0 0 ⟨0,0,sz⟩ a (ca _ _ _) (Nat.le_refl _) (fun h=>absurd h (Nat.lt_irrefl _)) (Nat.zero_le _)
     simpa using this
   ·cases h
  ·injection h with h; injection h with h1 h2; subst h1; subst h2
   exact ⟨G,Stp.refl G _ w,hS,hr⟩
 ·injection h with h; injection h with h1 h2; subst h1; subst h2
  exact ⟨G,Stp.refl G _ w,hS,hr⟩
theorem uK {tmps:Array Value} {d t:Nat} {v:Value} (hd:d<tmps.size):(tmps.setIfInBounds d v).getD t undef=if t=d then v else tmps.getD t undef:=by
 by_cases h:t=d
 ·subst h
  rw [if_pos rfl]
  simp [Array.getD_eq_getD_getElem?,hd]
 ·rw [if_neg h]
  simp [Array.getD_eq_getD_getElem?,Ne.symm h]
theorem fw {G:Gh} {sl:Slots} {a:Act} {d:Option Tmp} {av:AV} {v:Value} (h:RepSl G sl a) (hd:∀ t,d=some t→t<a.tmps.size) (hr:Rep G av v):RepSl G (put sl d av) (a.put d v):=by
 intro t
 cases d with
 | none=>exact h t
 | some d=>
  show Rep G (if t=d then av else sl t) ((a.tmps.setIfInBounds d v).getD t undef)
  rw [uK (hd d rfl)]
  split
  ·exact hr
  ·exact h t
theorem dE (a:Act) (d:Option Tmp) (v:Value):(a.put d v).tmps.size=a.tmps.size:=by cases d <;> simp [Act.put]
theorem eH (a:Act) (d:Option Tmp) (v:Value):(a.put d v).defers=a.defers:=by cases d <;> rfl
theorem jM {P:Program} {n:Nat} {md:Tmp→Md} {ops:Array Oper} {o:Oper} {c:AO} (h:eV P n md ops o=some c) :
  cOp P o=some c.i∧c.dst=o.dst∧(∀ t,o.dst=some t→t<n)∧c.re=[]∧((o.guard=none∧c.grd=none)∨∃ j b t,o.guard=some (j,b)∧(ops[j]?).bind (·.dst)=some t∧c.grd=some (t,b)) ∧
  (∀ t,o.dst=some t→c.md=md t)∧(o.dst=none→c.md=.plain):=by
 unfold eV at h
 split at h
 ·rename_i i h1 h2
  split at h
  ·rename_i h3
   injection h with h; subst h
   exact ⟨h1,h2.symm,by simp [h2],rfl,.inl ⟨h3,rfl⟩,by simp [h2],fun _=>rfl⟩
  ·cases h
 ·rename_i i d h1 h2
  split at h
  ·rename_i hd
   split at h
   ·rename_i h3
    injection h with h; subst h
    exact ⟨h1,h2.symm,fun t ht=>by rw [h2] at ht; injection ht with ht; subst ht; exact hd,rfl,.inl ⟨h3,rfl⟩,fun t ht=>by rw [h2] at ht; injection ht with ht; subst ht; rfl,by simp [h2]⟩
   ·rename_i j b h3
    split at h
    ·rename_i t h4
     injection h with h; subst h
     exact ⟨h1,h2.symm,fun t ht=>by rw [h2] at ht; injection ht with ht; subst ht; exact hd,rfl,.inr ⟨j,b,t,h3,h4,rfl⟩,fun t ht=>by rw [h2] at ht; injection ht with ht; subst ht; rfl,by simp [h2]⟩
    ·cases h
  ·cases h
 ·cases h
theorem mG (G:Gh):Rep G (.tup []) undef:=.tup [] #[] rfl (fun j c v h=>by simp at h)
theorem pD {G:Gh} {sl:Slots} {a:Act} {ops:Array Oper} {o:Oper} {g:Option (Nat×Bool)} {b:Bool} (hsl:RepSl G sl a) (ht:∀ j u t,o.guard=some (j,u)→(ops[j]?).bind (·.dst)=some t→t<a.tmps.size)
  (hg:(o.guard=none∧g=none)∨∃ j b t,o.guard=some (j,b)∧(ops[j]?).bind (·.dst)=some t∧g=some (t,b)) (h:gdI g sl=some b):Region.wanted o (yielded ops a.tmps)=b:=by
 rcases hg with ⟨h1,rfl⟩ | ⟨j,u,t,h1,h2,rfl⟩
 ·simp [gdI] at h; subst h
  simp [Region.wanted,h1]
 ·simp only [gdI] at h
  split at h
  ·rename_i b' hb
   injection h with h; subst h
   have hr:=hsl t
   rw [hb] at hr
   obtain ⟨hv,_⟩:=bE hr
   have hlt:=ht j u t h1 h2
   have hv':a.tmps[t]?=some (.bool b'):=by
    rw [Array.getD_eq_getD_getElem?,Array.getElem?_eq_getElem hlt] at hv
    rw [Array.getElem?_eq_getElem hlt]
    simpa using hv
   simp only [Region.wanted,h1,yielded,h2,Option.bind_some,hv']
   cases b' <;> cases u <;> rfl
  ·rename_i hb
   injection h with h; subst h
   have hr:=hsl t
   rw [hb] at hr
   obtain ⟨vs,hv,hl⟩:=hr.ofTup
   have hlt:=ht j u t h1 h2
   have hv':a.tmps[t]?=some (.tuple vs):=by
    rw [Array.getD_eq_getD_getElem?,Array.getElem?_eq_getElem hlt] at hv
    rw [Array.getElem?_eq_getElem hlt]
    simpa using hv
   simp only [Region.wanted,h1,yielded,h2,Option.bind_some,hv']
   cases u <;> rfl
  ·cases h
set_option maxHeartbeats 400000 in
theorem uF {P:Program} {o:Oper} {f:Nat} {args:List X} (hc:aS P o=some (.call f args)):∃ c,o.op=.call c∧c.callee=.value (.func f)∧cXs c.args=some args:=by
 cases hop:o.op with
 | call c=>
  simp only [aS,hop] at hc
  split at hc
  ·rename_i h1 h2
   injection hc with hc; injection hc with e1 e2; subst e1; subst e2
   exact ⟨c,rfl,h1,h2⟩
  all_goals (repeat' (split at hc))
  all_goals first | (cases hc; done) | (injection hc with hc; cases hc; done) | (obtain ⟨_,_,hz⟩:=ak hc; cases hz; done)
 | makeFunc f xs ys=>
  cases f <;> simp only [aS,hop] at hc
  all_goals (repeat' (split at hc))
  all_goals first | (cases hc; done) | (injection hc with hc; cases hc; done) | (obtain ⟨_,_,hz⟩:=ak hc; cases hz; done)
 | makeMap t r=>
  cases r <;> simp only [aS,hop] at hc
  all_goals (repeat' (split at hc))
  all_goals first | (cases hc; done) | (injection hc with hc; cases hc; done) | (obtain ⟨_,_,hz⟩:=ak hc; cases hz; done)
 | next it st=>
  cases st <;> simp only [aS,hop] at hc
  all_goals (repeat' (split at hc))
  all_goals first | (cases hc; done) | (injection hc with hc; cases hc; done) | (obtain ⟨_,_,hz⟩:=ak hc; cases hz; done)
 | typeAssert x xt tt ok=>
  cases ok <;> simp only [aS,hop] at hc
  all_goals (repeat' (split at hc))
  all_goals first | (cases hc; done) | (injection hc with hc; cases hc; done) | (obtain ⟨_,_,hz⟩:=ak hc; cases hz; done)
 | _=>
  simp only [aS,hop] at hc
  all_goals (repeat' (split at hc))
  all_goals first | (cases hc; done) | (injection hc with hc; cases hc; done) | (obtain ⟨_,_,hz⟩:=ak hc; cases hz; done)
set_option maxHeartbeats 400000 in
theorem sQ {P:Program} {o:Oper} {x:X} {args:List X} (hc:aS P o=some (.callv x args)):∃ c y,o.op=.call c∧c.callee=.value y∧cX y=some x∧cXs c.args=some args:=by
 cases hop:o.op with
 | call c=>
  simp only [aS,hop] at hc
  split at hc
  ·injection hc with hc; cases hc
  ·rename_i y args' h0 h1 h2
   obtain ⟨z,hz1,hz2⟩:=ak hc
   injection hz2 with e1 e2; subst e1; subst e2
   exact ⟨c,y,rfl,h1,hz1,h2⟩
  all_goals (repeat' (split at hc))
  all_goals first | (cases hc; done) | (injection hc with hc; cases hc; done) | (obtain ⟨_,_,hz⟩:=ak hc; cases hz; done)
 | makeFunc f xs ys=>
  cases f <;> simp only [aS,hop] at hc
  all_goals (repeat' (split at hc))
  all_goals first | (cases hc; done) | (injection hc with hc; cases hc; done) | (obtain ⟨_,_,hz⟩:=ak hc; cases hz; done)
 | makeMap t r=>
  cases r <;> simp only [aS,hop] at hc
  all_goals (repeat' (split at hc))
  all_goals first | (cases hc; done) | (injection hc with hc; cases hc; done) | (obtain ⟨_,_,hz⟩:=ak hc; cases hz; done)
 | next it st=>
  cases st <;> simp only [aS,hop] at hc
  all_goals (repeat' (split at hc))
  all_goals first | (cases hc; done) | (injection hc with hc; cases hc; done) | (obtain ⟨_,_,hz⟩:=ak hc; cases hz; done)
 | typeAssert x xt tt ok=>
  cases ok <;> simp only [aS,hop] at hc
  all_goals (repeat' (split at hc))
  all_goals first | (cases hc; done) | (injection hc with hc; cases hc; done) | (obtain ⟨_,_,hz⟩:=ak hc; cases hz; done)
 | _=>
  simp only [aS,hop] at hc
  all_goals (repeat' (split at hc))
  all_goals first | (cases hc; done) | (injection hc with hc; cases hc; done) | (obtain ⟨_,_,hz⟩:=ak hc; cases hz; done)
theorem jI {G:Gh} {sl:Slots} {a:Act} (h:RepSl G sl a) {xs:Array Operand} {ys:List X} (hx:cXs xs=some ys) (md:Md):RepL G (cD md sl ys) (xs.map a.eval).toList:=by
 have hr:=ky h hx
 unfold cD
 split
 ·exact hr
 ·refine ⟨by have:=hr.1; simpa using this,fun j c v hc hv=>?_⟩
  rw [List.getElem?_map] at hc
  cases hy:ys[j]? with
  | none=>simp [hy] at hc
  | some y=>
   simp [hy] at hc; subst hc
   exact iD _ _ (hr.2 j _ v (by simp [List.getElem?_map,hy]) hv)
set_option maxHeartbeats 400000 in
theorem sR {P:Program} {o:Oper} {op:BinOp} {x y:X} (hc:aS P o=some (.bin .slNil op x y)) :
  ∃ t e ox oy yt,o.op=.binOp op t ox oy yt∧P.underlying t=some (.slice e)∧cX ox=some x∧oy=.const (.slice none 0 0):=by
 cases hop:o.op
 case binOp op' t ox oy yt=>
  simp only [aS,hop] at hc
  split at hc
  ·rename_i k x' y' h1 h2 h3
   injection hc with hc; injection hc with e1 e2 e3 e4; subst e1; subst e2; subst e3; subst e4
   unfold cBk at h1
   split at h1
   all_goals first
    | (cases h1; done)
    | (injection h1 with h1; cases h1; done)
    | (split at h1 <;> first | (cases h1; done) | (split at h1 <;> first | (cases h1; done) | (injection h1 with h1; cases h1; done)) | (injection h1 with h1; cases h1; done) | skip)
   rename_i e hu hn
   refine ⟨t,e,ox,oy,yt,rfl,hu,h2,?_⟩
   unfold vw at hn
   split at hn
   ·rfl
   ·cases hn
  ·cases hc
 case makeFunc f xs ys=>
  cases f <;> simp only [aS,hop] at hc
  all_goals (repeat' (split at hc))
  all_goals first | (cases hc; done) | (injection hc with hc; cases hc; done) | (obtain ⟨_,_,hz⟩:=ak hc; cases hz; done)
 case makeMap t r=>
  cases r <;> simp only [aS,hop] at hc
  all_goals (repeat' (split at hc))
  all_goals first | (cases hc; done) | (injection hc with hc; cases hc; done) | (obtain ⟨_,_,hz⟩:=ak hc; cases hz; done)
 case next it st=>
  cases st <;> simp only [aS,hop] at hc
  all_goals (repeat' (split at hc))
  all_goals first | (cases hc; done) | (injection hc with hc; cases hc; done) | (obtain ⟨_,_,hz⟩:=ak hc; cases hz; done)
 case typeAssert x1 xt tt ok=>
  cases ok <;> simp only [aS,hop] at hc
  all_goals (repeat' (split at hc))
  all_goals first | (cases hc; done) | (injection hc with hc; cases hc; done) | (obtain ⟨_,_,hz⟩:=ak hc; cases hz; done)
 all_goals
  simp only [aS,hop] at hc
  all_goals (repeat' (split at hc))
  all_goals first | (cases hc; done) | (injection hc with hc; cases hc; done) | (obtain ⟨_,_,hz⟩:=ak hc; cases hz; done)
set_option maxHeartbeats 400000 in
theorem wJ {P:Program} {o:Oper} {x:X} (hc:aS P o=some (.nx x)):∃ ox,o.op=.next ox false∧cX ox=some x:=by
 cases hop:o.op
 case next it st=>
  cases st with
  | true=>simp [aS,hop] at hc
  | false=>
   simp only [aS,hop] at hc
   obtain ⟨y,h1,h2⟩:=ak hc
   injection h2 with h2; subst h2
   exact ⟨it,rfl,h1⟩
 case makeFunc f xs ys=>
  cases f <;> simp only [aS,hop] at hc
  all_goals (repeat' (split at hc))
  all_goals first | (cases hc; done) | (injection hc with hc; cases hc; done) | (obtain ⟨_,_,hz⟩:=ak hc; cases hz; done)
 case makeMap t r=>
  cases r <;> simp only [aS,hop] at hc
  all_goals (repeat' (split at hc))
  all_goals first | (cases hc; done) | (injection hc with hc; cases hc; done) | (obtain ⟨_,_,hz⟩:=ak hc; cases hz; done)
 case typeAssert x1 xt tt ok=>
  cases ok <;> simp only [aS,hop] at hc
  all_goals (repeat' (split at hc))
  all_goals first | (cases hc; done) | (injection hc with hc; cases hc; done) | (obtain ⟨_,_,hz⟩:=ak hc; cases hz; done)
 all_goals
  simp only [aS,hop] at hc
  all_goals (repeat' (split at hc))
  all_goals first | (cases hc; done) | (injection hc with hc; cases hc; done) | (obtain ⟨_,_,hz⟩:=ak hc; cases hz; done)
set_option maxHeartbeats 400000 in
theorem vZ {P:Program} {o:Oper} {tab:List (TypeId×FuncId×Option (Option Nat))} {x:X} {args:List X} (hc:aS P o=some (.inv tab x args)):∃ c y name,o.op=.call c∧c.callee=.invoke y name∧tab=nv P name∧cX y=some x∧cXs c.args=some args:=by
 cases hop:o.op
 case call c=>
  simp only [aS,hop] at hc
  split at hc
  ·injection hc with hc; cases hc
  ·obtain ⟨z,hz1,hz2⟩:=ak hc
   cases hz2
  ·rename_i y name args' h1 h2
   obtain ⟨z,hz1,hz2⟩:=ak hc
   injection hz2 with e1 e2 e3; subst e1; subst e2; subst e3
   exact ⟨c,y,name,rfl,h1,rfl,hz1,h2⟩
  all_goals (repeat' (split at hc))
  all_goals first | (cases hc; done) | (injection hc with hc; cases hc; done) | (obtain ⟨_,_,hz⟩:=ak hc; cases hz; done)
 case makeFunc f xs ys=>
  cases f <;> simp only [aS,hop] at hc
  all_goals (repeat' (split at hc))
  all_goals first | (cases hc; done) | (injection hc with hc; cases hc; done) | (obtain ⟨_,_,hz⟩:=ak hc; cases hz; done)
 case makeMap t r=>
  cases r <;> simp only [aS,hop] at hc
  all_goals (repeat' (split at hc))
  all_goals first | (cases hc; done) | (injection hc with hc; cases hc; done) | (obtain ⟨_,_,hz⟩:=ak hc; cases hz; done)
 case next it st=>
  cases st <;> simp only [aS,hop] at hc
  all_goals (repeat' (split at hc))
  all_goals first | (cases hc; done) | (injection hc with hc; cases hc; done) | (obtain ⟨_,_,hz⟩:=ak hc; cases hz; done)
 case typeAssert x1 xt tt ok=>
  cases ok <;> simp only [aS,hop] at hc
  all_goals (repeat' (split at hc))
  all_goals first | (cases hc; done) | (injection hc with hc; cases hc; done) | (obtain ⟨_,_,hz⟩:=ak hc; cases hz; done)
 all_goals
  simp only [aS,hop] at hc
  all_goals (repeat' (split at hc))
  all_goals first | (cases hc; done) | (injection hc with hc; cases hc; done) | (obtain ⟨_,_,hz⟩:=ak hc; cases hz; done)
theorem tp {P:Program} {G:Gh} {s:St} {w:World} {t:TypeId} {ag:Option Nat} (hag:tAg P t=some ag) {a av:AV} {x:Value} (h:ldI ag a s=some av) (hr:Rep G a x) (hS:Sim G s w) :
  ∃ b v,x=.pointer (some b)∧(loadVar t b).run P w=.ok v w∧Rep G av v:=by
 unfold ldI at h
 split at h
 ·rename_i g e o
  cases he:s.elem g e with
  | none=>simp [he] at h
  | some cs=>
   simp [he] at h
   obtain ⟨l,hl,vs,hlies,hrl,_⟩:=hS.elem he
   cases hr with
   | ptr _ _ _ l' hg=>
    rw [hl] at hg; injection hg with hg; subst hg
    obtain ⟨v,hv,hrep⟩:=eY (P:=P) hlies hrl hag h
    exact ⟨_,v,rfl,hv,hrep⟩
 ·rename_i cs o
  obtain ⟨b,a,vs,rfl,hlies,hrl⟩:=hS.zp hr
  obtain ⟨v,hv,hrep⟩:=eY (P:=P) hlies hrl hag h
  exact ⟨_,v,rfl,hv,hrep⟩
 ·cases h
theorem uY {P:Program} {t:TypeId} {name:String} {f:FuncId} (h:lE P t name=some (f,none)) (n:Nat) (v:Value) (w:World):(method (n+1) t v name).run P w=.ok (f,v) w:=by
 unfold lE at h
 split at h
 ·rename_i i hi
  split at h
  ·rename_i m hm
   split at h
   ·rename_i hp
    unfold method
    split at h
    ·rename_i g hf
     split at h
     ·rename_i e hu
      injection h with h; injection h with h1 h2; subst h1
      simp [typeInfo,hi,hm,hp,follow,hf,receiverAt,run_underlying hu,Place.get]
     ·cases h
    ·rename_i g hf
     split at h
     ·obtain ⟨_,_,h2⟩:=ak h
      injection h2 with _ h2; cases h2
     ·rename_i d hne hu
      injection h with h; injection h with h1 h2; subst h1
      cases d <;> first | (exact absurd rfl (hne _)) | simp [typeInfo,hi,hm,hp,follow,hf,receiverAt,run_underlying hu,Place.get]
     ·cases h
    ·cases h
   ·cases h
  ·cases h
 ·cases h
theorem uZ {P:Program} {t:TypeId} {name:String} {f:FuncId} {ag:Option Nat} (h:lE P t name=some (f,some ag)):∃ e,tAg P e=some ag∧∀ (n:Nat) (a:Addr) (u:Value) (w:World),(loadVar e a).run P w=.ok u w→(method (n+1) t (.pointer (some a)) name).run P w=.ok (f,u) w:=by
 unfold lE at h
 split at h
 ·rename_i i hi
  split at h
  ·rename_i m hm
   split at h
   ·rename_i hp
    split at h
    ·split at h
     ·injection h with h; injection h with _ h2; cases h2
     ·cases h
    ·rename_i g hf
     split at h
     ·rename_i e hu
      obtain ⟨ag',h1,h2⟩:=ak h
      injection h2 with h2 h3; subst h2; injection h3 with h3; subst h3
      refine ⟨e,h1,fun n a u w hl=>?_⟩
      have hp':m.path=#[]:=by simpa using hp
      have hwr:∀ ts t' s1 s2,Builtin.ssaWrapNilChk_ ts t' #[.pointer (some a),.string s1,.string s2]=pure (.pointer (some a)):=fun _ _ _ _=>rfl
      unfold method
      simp [typeInfo,hi,hm,hp',follow,hf,receiverAt,run_underlying hu,Place.get,hwr,strVal,asAddr,hl]
     ·injection h with h; injection h with _ h2; cases h2
     ·cases h
    ·cases h
   ·cases h
  ·cases h
 ·cases h
theorem lR {P:Program} {name:String} {t:TypeId} {q:TypeId×FuncId×Option (Option Nat)} (h:(nv P name).find? (fun q=>q.1==t)=some q):q.1=t∧lE P t name=some q.2:=by
 have h1:=List.find?_some h
 have h2:=List.mem_of_find?_eq_some h
 simp at h1
 unfold nv at h2
 obtain ⟨t',_,h3⟩:=List.mem_filterMap.1 h2
 obtain ⟨r,h4,h5⟩:=ak h3
 subst h5
 simp at h1
 subst h1
 exact ⟨rfl,h4⟩
theorem wk {P:Program} {o:Oper} {c:AO} (hc:aS P o=some c.i) {sl:Slots} {s:St} {K:AV→St→Prop} (h:opW P c sl s K) {G:Gh} {w:World} {a:Act} (hS:Sim G s w) (hsl:RepSl G sl a)
  {next:Act→World→Prop} {Q:Exit→Act→World→Prop} (hn:∀ v av G' s' w',Stp G s w G' s' w'→Sim G' s' w'→Rep G' av v→K av s'→next (a.put o.dst v) w'):o.wp P a w next Q:=by
 have call:∀ (f:FuncId) (vs:Array Value) (as:List AV),(execOp a.eval o).run P w=(callFunc f vs).run P w→RepL G as vs.toList→ACalls P f as s K→o.wp P a w next Q:=by
  intro f vs as he hr hA
  have:=hA G w vs.toList hS hr
  simp only [Array.toArray_toList] at this
  unfold Oper.wp
  rw [he]
  unfold CallOk at this
  split at this
  ·rename_i g bs w1 h1
   rw [h1]
   refine this.mono fun e w' hR=>?_
   cases e with
   | returned v=>
    obtain ⟨av,G',s',h2,h3,h4,h5⟩:=hR
    exact hn v av G' s' w' h2 h3 h4 h5
   | panicked ch=>exact hR.elim
   | outgrown=>exact hR.elim
  ·rename_i v w1 h1
   rw [h1]
   obtain ⟨av,G',s',h2,h3,h4,h5⟩:=this
   exact hn v av G' s' _ h2 h3 h4 h5
  ·exact this.elim
 have own:(∀ f args,c.i≠.call f args)→(∀ x args,c.i≠.callv x args)→(∀ op x y,c.i≠.bin .slNil op x y)→(∀ x,c.i≠.nx x)→(∀ tab x args,c.i≠.inv tab x args)→o.wp P a w next Q:=by
  intro h1 h2 h3 h4 h5
  unfold opW at h
  split at h
  ·rename_i f args he; exact absurd he (h1 f args)
  ·rename_i x args he; exact absurd he (h2 x args)
  ·rename_i op x y he; exact absurd he (h3 op x y)
  ·rename_i x he; exact absurd he (h4 x)
  ·rename_i tab x args he; exact absurd he (h5 tab x args)
  ·split at h
   ·rename_i v s' hst
    obtain ⟨n,u,w',G',e1,e2,e3,e4,e5⟩:=yw hc hst hS hsl
    unfold Oper.wp
    rw [e1]
    cases n <;> simp only [vB] at e2 <;> first
     | (injection e2 with e2; subst e2; exact hn _ v G' s' w' e3 e4 e5 h)
     | (cases e2; done)
   ·exact h.elim
 cases hi:c.i with
 | call f args=>
  unfold opW at h
  rw [hi] at h
  simp only at h
  rw [hi] at hc
  obtain ⟨c0,h1,h2,h3⟩:=uF hc
  refine call f (c0.args.map a.eval) _ ?_ (jI hsl h3 c.md) h
  unfold execOp
  simp [h1,resolve,h2,Act.eval,Deferred.ofValue,invoke]
 | callv x args=>
  unfold opW at h
  rw [hi] at h
  simp only at h
  rw [hi] at hc
  obtain ⟨c0,y,h1,h2,h3,h4⟩:=sQ hc
  split at h
  ·rename_i f us vs hx
   have hr:=ba hsl h3
   rw [hx] at hr
   cases hy:a.eval y with
   | func fn first captured=>
    rw [hy] at hr
    cases hr with
    | fn _ _ _ _ _ l1 l2 r1 r2=>
     refine call f (first++c0.args.map a.eval++captured) _ ?_ ?_ h
     ·unfold execOp
      simp [h1,resolve,h2,hy,Deferred.ofValue,invoke]
     ·have q1:RepL G us first.toList:=⟨by simpa using l1,fun j c v hc hv=>r1 j c v hc (by simpa using hv)⟩
      have q2:RepL G vs captured.toList:=⟨by simpa using l2,fun j c v hc hv=>r2 j c v hc (by simpa using hv)⟩
      have:=(q1.append (jI hsl h4 c.md)).append q2
      simpa using this
   | _=>rw [hy] at hr; cases hr
  ·exact h.elim
 | nx x=>
  unfold opW at h
  rw [hi] at h
  simp only at h
  rw [hi] at hc
  obtain ⟨ox,h1,h2⟩:=wJ hc
  obtain ⟨v,w',av,s',e1,e2,e3,e4,e5⟩:=yv (P:=P) o.type h (ba hsl h2) hS
  unfold Oper.wp execOp
  simp only [h1,Sem.run_bind,e1,Result.andThen_ok,Sem.run_pure]
  exact hn v av G s' w' e2 e3 e4 e5
 | bin k op x y=>
  by_cases hk:k=.slNil
  ·subst hk
   unfold opW at h
   rw [hi] at h
   simp only at h
   rw [hi] at hc
   obtain ⟨t,e,ox,oy,yt,h1,h2,h3,h4⟩:=sR hc
   subst h4
   obtain ⟨r,av,e1,e2,e3⟩:=u7 (P:=P) (w:=w) (ox:=ox) (oy:=.const (.slice none 0 0)) h2 h (ba hsl h3)
   unfold Oper.wp execOp
   have e1':(do eqGuard op t ox (.const (.slice none 0 0)) (a.eval ox) (a.eval (.const (.slice none 0 0))); binOp op t (a.eval ox) (a.eval (.const (.slice none 0 0)))).run P w=.ok r w:=e1
   simp only [h1,Sem.run_bind] at e1' ⊢
   rw [e1']
   exact hn r av G s w (Stp.refl G s w) hS e2 e3
  ·exact own (by rw [hi]; simp) (by rw [hi]; simp) (by rw [hi]; intro op' x' y' e; injection e with e; exact hk e) (by rw [hi]; simp) (by rw [hi]; simp)
 | inv tab x args=>
  unfold opW at h
  rw [hi] at h
  simp only at h
  rw [hi] at hc
  obtain ⟨c0,y,name,h1,h2,rfl,h3,h4⟩:=vZ hc
  split at h
  ·rename_i t v hx
   have hr:=ba hsl h3
   rw [hx] at hr
   cases hy:a.eval y with
   | iface t2 u=>
    rw [hy] at hr
    cases hr with
    | ifc _ _ _ hr=>
     have hargs:=jI hsl h4 c.md
     have hst:(execOp a.eval o)=(do callMethod (.iface t u) name (c0.args.map a.eval):Sem Next):=by
      have hix:(#[Value.iface t u]++Array.map a.eval c0.args)[0]?=some (.iface t u):=by rw [Array.getElem?_append_left (by simp)]; rfl
      have hex:(Array.map a.eval c0.args).extract 0 c0.args.size=Array.map a.eval c0.args:=by
       have:=Array.extract_size (xs:=Array.map a.eval c0.args)
       rwa [Array.size_map] at this
      unfold execOp
      simp [h1,resolve,h2,hy,invoke,hix,hex]
     have hfu:∃ n,P.types.size+Made.depth=n+1:=⟨P.types.size+Made.depth-1,by unfold Made.depth; omega⟩
     obtain ⟨n,hn'⟩:=hfu
     split at h
     ·rename_i t' f hfi
      obtain ⟨e1,e2⟩:=lR hfi
      simp only at e1 e2
      subst e1
      refine call f (#[u]++c0.args.map a.eval) _ ?_ ?_ h
      ·rw [hst]
       simp [callMethod,hn',uY e2 n u w]
      ·have:=RepL.cons hr hargs
       simpa using this
     ·rename_i t' f ag hfi
      obtain ⟨e1,e2⟩:=lR hfi
      simp only at e1 e2
      subst e1
      split at h
      ·rename_i u' hu'
       obtain ⟨e,he1,he2⟩:=uZ e2
       obtain ⟨b,r,q1,q2,q3⟩:=tp (P:=P) he1 hu' hr hS
       subst q1
       refine call f (#[r]++c0.args.map a.eval) _ ?_ ?_ h
       ·rw [hst]
        simp [callMethod,hn',he2 n b r w q2]
       ·have:=RepL.cons q3 hargs
        simpa using this
      ·exact h.elim
     ·exact h.elim
   | _=>rw [hy] at hr; cases hr
  ·exact h.elim
 | _=>exact own (by rw [hi]; simp) (by rw [hi]; simp) (by rw [hi]; simp) (by rw [hi]; simp) (by rw [hi]; simp)
theorem qA {P:Program} {o:Oper} {c:AO} (hc:cOp P o=some c.i) {sl:Slots} {s:St} {K:AV→St→Prop} (h:opW P c sl s K) {G:Gh} {w:World} {a:Act} (hS:Sim G s w) (hsl:RepSl G sl a)
  {next:Act→World→Prop} {Q:Exit→Act→World→Prop} (hn:∀ v av G' s' w',Stp G s w G' s' w'→Sim G' s' w'→Rep G' av v→K av s'→next (a.put o.dst v) w'):o.wp P a w next Q:=by
 unfold cOp at hc
 cases h0:aS P o with
 | some i=>exact wk (by rw [h0]; rw [h0] at hc; simpa using hc) h hS hsl hn
 | none=>
  rw [h0] at hc
  simp only [Option.getD_none,Option.some.injEq] at hc
  unfold opW at h
  rw [←hc] at h
  simp [aH,exI,X.ev] at h
theorem oA {P:Program} {n:Nat} {md:Tmp→Md} {ops:Array Oper} {Q:Exit→Act→World→Prop} (hops:∀ (j:Nat) o t,ops[j]?=some o→o.dst=some t→t<n) :
  ∀ (os:List Oper) (cs:List AO),os.mapM (eV P n md ops)=some cs→∀ {K:Slots→St→Prop} {sl:Slots} {s:St} {G:Gh} {w:World} {a:Act},aM P cs K sl s→Sim G s w→RepSl G sl a→n≤a.tmps.size →
   (∀ sl' s' G' a' w',K sl' s'→Stp G s w G' s' w'→Sim G' s' w'→RepSl G' sl' a'→a'.tmps.size=a.tmps.size→a'.defers=a.defers→Q .normal a' w')→wpList P ops Q os a w
 | [],cs,h,K,sl,s,G,w,a,hW,hS,hsl,hn,hQ=>by
  simp at h; subst h
  exact hQ sl s G a w hW (Stp.refl G s w) hS hsl rfl rfl
 | o::os,cs,h,K,sl,s,G,w,a,hW,hS,hsl,hn,hQ=>by
  rw [List.mapM_cons] at h
  cases h1:eV P n md ops o with
  | none=>simp [h1] at h
  | some c=>
   cases h2:os.mapM (eV P n md ops) with
   | none=>simp [h1,h2] at h
   | some cs'=>
    simp [h1,h2] at h
    subst h
    obtain ⟨c1,c2,c3,c4,c5,c6,c7⟩:=jM h1
    simp only [aM] at hW
    unfold wpList
    have hgt:∀ j u t,o.guard=some (j,u)→(ops[j]?).bind (·.dst)=some t→t<a.tmps.size:=by
     intro j u t _ ht
     cases hj:ops[j]? with
     | none=>simp [hj] at ht
     | some o'=>simp [hj] at ht; exact Nat.lt_of_lt_of_le (hops j o' t hj ht) hn
    split at hW
    ·rename_i hg
     rw [pD hsl hgt c5 hg,if_neg (by simp)]
     refine oA hops os cs' h2 hW hS ?_ (by rw [dE]; exact hn) ?_
     ·rw [c2]
      exact fw hsl (fun t ht=>Nat.lt_of_lt_of_le (c3 t ht) hn) (mG _)
     ·intro sl' s' G' a' w' k1 k2 k3 k4 k5 k6
      exact hQ sl' s' G' a' w' k1 k2 k3 k4 (by rw [k5,dE]) (by rw [k6,eH])
    ·rename_i hg
     rw [pD hsl hgt c5 hg,if_pos rfl]
     refine .inl (qA c1 hW hS hsl ?_)
     intro v av G1 s1 w1 t1 t2 t3 t4
     split at t4
     ·rename_i v' s2 hf
      obtain ⟨G2,u1,u2,u3⟩:=oj hf t3 t2
      have hT:=t1.trans u1
      refine oA hops os cs' h2 t4.2 u2 ?_ (by rw [dE]; exact hn) ?_
      ·rw [c2]
       exact fw (hsl.mono hT.le) (fun t ht=>Nat.lt_of_lt_of_le (c3 t ht) hn) u3
      ·intro sl' s' G' a' w' k1 k2 k3 k4 k5 k6
       exact hQ sl' s' G' a' w' k1 (hT.trans k2) k3 k4 (by rw [k5,dE]) (by rw [k6,eH])
     ·exact t4.elim
    ·exact hW.elim
end Go.AM
