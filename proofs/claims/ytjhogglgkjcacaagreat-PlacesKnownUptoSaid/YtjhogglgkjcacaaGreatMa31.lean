/- Part of the claim: see its last text. -/
import Derived.Test.YtjhogglgkjcacaaGreatMa30
set_option linter.all false
namespace Go.AM
variable {κ β:Type} [DecidableEq κ]
structure KeyOk (kk:KK) (enc:κ→AV):Prop where
 wf:∀ a,lC kk (enc a)=true
 eq:∀ a b,fQ kk (enc a) (enc b)=some (decide (a=b))
def kvs (enc:κ→AV) (f:β→AV) (m:List (κ×β)):List (AV×AV):=m.map fun p=>(enc p.1,f p.2)
def bS:List (κ×β)→κ→Option β
 | [],_=>none
 | p::m,k=>if k=p.1 then some p.2 else bS m k
def dC:List (κ×β)→κ→β→List (κ×β)
 | [],k,v=>[(k,v)]
 | p::m,k,v=>if k=p.1 then (k,v)::m else p::dC m k v
def gt:List (κ×β)→κ→Option Nat
 | [],_=>none
 | p::m,k=>if k=p.1 then some 0 else (gt m k).map (·+1)
theorem oA (m:List (κ×β)) (k:κ) (v:β) (k':κ):bS (dC m k v) k'=if k'=k then some v else bS m k':=by
 induction m with
 | nil=>simp [dC,bS]
 | cons p m ih=>
  simp only [dC]
  by_cases h:k=p.1
  ·rw [if_pos h]; simp only [bS]
   by_cases h2:k'=k
   ·simp [h2]
   ·rw [if_neg h2,if_neg h2,if_neg (by rw [←h]; exact h2)]
  ·rw [if_neg h]; simp only [bS,ih]
   by_cases h2:k'=p.1
   ·rw [if_pos h2,if_pos h2,if_neg (by rw [h2]; exact Ne.symm h)]
   ·rw [if_neg h2,if_neg h2]
theorem oB {m:List (κ×β)} {k:κ} (h:gt m k=none):bS m k=none∧∀ v,dC m k v=m++[(k,v)]:=by
 induction m with
 | nil=>exact ⟨rfl,fun v=>rfl⟩
 | cons p m ih=>
  simp only [gt] at h
  split at h
  ·cases h
  ·rename_i hk
   have:=ih (by simpa using h)
   exact ⟨by simp only [bS,if_neg hk]; exact this.1,fun v=>by simp only [dC,if_neg hk,this.2 v,List.cons_append]⟩
theorem oC {m:List (κ×β)} {k:κ} {i:Nat} (h:gt m k=some i):∃ v,m[i]?=some (k,v)∧bS m k=some v∧∀ w,dC m k w=m.set i (k,w):=by
 induction m generalizing i with
 | nil=>cases h
 | cons p m ih=>
  simp only [gt] at h
  split at h
  ·rename_i hk; injection h with h; subst h
   exact ⟨p.2,by rw [hk]; rfl,by simp only [bS,if_pos hk],fun w=>by simp only [dC,if_pos hk,List.set_cons_zero]⟩
  ·rename_i hk
   cases hi:gt m k with
   | none=>simp [hi] at h
   | some j=>
    simp [hi] at h; subst h
    obtain ⟨v,h1,h2,h3⟩:=ih hi
    exact ⟨v,by simpa using h1,by simp only [bS,if_neg hk]; exact h2,fun w=>by simp only [dC,if_neg hk,h3 w,List.set_cons_succ]⟩
theorem ou {kk:KK} {enc:κ→AV} (he:KeyOk kk enc) (f:β→AV) (k:κ):∀ (m:List (κ×β)) (i:Nat),dR kk (enc k) (kvs enc f m) i=some ((gt m k).map (·+i))
 | [],i=>rfl
 | p::m,i=>by
  have ih:=ou he f k m (i+1)
  simp only [kvs,List.map_cons,dR,he.eq,gt] at ih ⊢
  by_cases h:k=p.1
  ·simp [h]
  ·simp only [h,decide_false,if_false]
   rw [ih]
   cases gt m k with
   | none=>rfl
   | some j=>simp; omega
theorem ow {kk:KK} {enc:κ→AV} (he:KeyOk kk enc) (f:β→AV) (m:List (κ×β)) (k:κ):iT kk (enc k) (kvs enc f m)=some (gt m k):=by
 unfold iT
 rw [if_pos (he.wf k),ou he f k m 0]
 cases gt m k <;> simp
theorem jw {kk:KK} {enc:κ→AV} (he:KeyOk kk enc) {f:β→AV} {z:AV} {ok:Bool} {g ver:Nat} {s:St} {m:List (κ×β)} (hg:s.h g=some (.map (kvs enc f m) ver)) (k:κ) :
  lkI kk z ok (.map g) (enc k) s=some (if ok then .tup [((bS m k).map f).getD z,.bool (bS m k).isSome] else ((bS m k).map f).getD z):=by
 unfold lkI
 simp only [hg,ow he f m k]
 cases h:gt m k with
 | none=>simp [(oB h).1]
 | some i=>
  obtain ⟨v,h1,h2,_⟩:=oC h
  simp [kvs,h1,h2]
theorem jx {kk:KK} {enc:κ→AV} (he:KeyOk kk enc) {f:β→AV} {g ver:Nat} {s:St} {m:List (κ×β)} (hg:s.h g=some (.map (kvs enc f m) ver)) (k:κ) (v:β) :
  muI kk (.map g) (enc k) (f v) s=some ⟨upd s.h g (some (.map (kvs enc f (dC m k v)) s.c)),s.c+1⟩:=by
 unfold muI
 simp only [hg,ow he f m k]
 cases h:gt m k with
 | none=>simp [(oB h).2 v,kvs]
 | some i=>
  obtain ⟨_,_,_,h3⟩:=oC h
  simp [kvs,h3 v,List.map_set]
theorem ew:KeyOk (.one .str) AV.str where
 wf a:=rfl
 eq a b:=rfl
end Go.AM
