/- Part of the claim: see its last text. -/
import Derived.Test.YtocppbmmfklbmaaGreatMa30
set_option linter.all false
namespace Go.AM
variable {κ β:Type} [DecidableEq κ]
structure KeyOk (kk:KK) (enc:κ→AV):Prop where
 wf:∀ a,lG kk (enc a)=true
 eq:∀ a b,fH kk (enc a) (enc b)=some (decide (a=b))
def kvs (enc:κ→AV) (f:β→AV) (m:List (κ×β)):List (AV×AV):=m.map fun p=>(enc p.1,f p.2)
def bF:List (κ×β)→κ→Option β
 | [],_=>none
 | p::m,k=>if k=p.1 then some p.2 else bF m k
def cZ:List (κ×β)→κ→β→List (κ×β)
 | [],k,v=>[(k,v)]
 | p::m,k,v=>if k=p.1 then (k,v)::m else p::cZ m k v
def fV:List (κ×β)→κ→Option Nat
 | [],_=>none
 | p::m,k=>if k=p.1 then some 0 else (fV m k).map (·+1)
theorem kO (m:List (κ×β)) (k:κ) (v:β) (k':κ):bF (cZ m k v) k'=if k'=k then some v else bF m k':=by
 induction m with
 | nil=>simp [cZ,bF]
 | cons p m ih=>
  simp only [cZ]
  by_cases h:k=p.1
  ·rw [if_pos h]; simp only [bF]
   by_cases h2:k'=k
   ·simp [h2]
   ·rw [if_neg h2,if_neg h2,if_neg (by rw [←h]; exact h2)]
  ·rw [if_neg h]; simp only [bF,ih]
   by_cases h2:k'=p.1
   ·rw [if_pos h2,if_pos h2,if_neg (by rw [h2]; exact Ne.symm h)]
   ·rw [if_neg h2,if_neg h2]
theorem oz {m:List (κ×β)} {k:κ} (h:fV m k=none):bF m k=none∧∀ v,cZ m k v=m++[(k,v)]:=by
 induction m with
 | nil=>exact ⟨rfl,fun v=>rfl⟩
 | cons p m ih=>
  simp only [fV] at h
  split at h
  ·cases h
  ·rename_i hk
   have:=ih (by simpa using h)
   exact ⟨by simp only [bF,if_neg hk]; exact this.1,fun v=>by simp only [cZ,if_neg hk,this.2 v,List.cons_append]⟩
theorem oA {m:List (κ×β)} {k:κ} {i:Nat} (h:fV m k=some i):∃ v,m[i]?=some (k,v)∧bF m k=some v∧∀ w,cZ m k w=m.set i (k,w):=by
 induction m generalizing i with
 | nil=>cases h
 | cons p m ih=>
  simp only [fV] at h
  split at h
  ·rename_i hk; injection h with h; subst h
   exact ⟨p.2,by rw [hk]; rfl,by simp only [bF,if_pos hk],fun w=>by simp only [cZ,if_pos hk,List.set_cons_zero]⟩
  ·rename_i hk
   cases hi:fV m k with
   | none=>simp [hi] at h
   | some j=>
    simp [hi] at h; subst h
    obtain ⟨v,h1,h2,h3⟩:=ih hi
    exact ⟨v,by simpa using h1,by simp only [bF,if_neg hk]; exact h2,fun w=>by simp only [cZ,if_neg hk,h3 w,List.set_cons_succ]⟩
theorem oq {kk:KK} {enc:κ→AV} (he:KeyOk kk enc) (f:β→AV) (k:κ):∀ (m:List (κ×β)) (i:Nat),dP kk (enc k) (kvs enc f m) i=some ((fV m k).map (·+i))
 | [],i=>rfl
 | p::m,i=>by
  have ih:=oq he f k m (i+1)
  simp only [kvs,List.map_cons,dP,he.eq,fV] at ih ⊢
  by_cases h:k=p.1
  ·simp [h]
  ·simp only [h,decide_false,if_false]
   rw [ih]
   cases fV m k with
   | none=>rfl
   | some j=>simp; omega
theorem ot {kk:KK} {enc:κ→AV} (he:KeyOk kk enc) (f:β→AV) (m:List (κ×β)) (k:κ):iG kk (enc k) (kvs enc f m)=some (fV m k):=by
 unfold iG
 rw [if_pos (he.wf k),oq he f k m 0]
 cases fV m k <;> simp
theorem gB {kk:KK} {enc:κ→AV} (he:KeyOk kk enc) {f:β→AV} {z:AV} {ok:Bool} {g ver:Nat} {s:St} {m:List (κ×β)} (hg:s.h g=some (.map (kvs enc f m) ver)) (k:κ) :
  lkI kk z ok (.map g) (enc k) s=some (if ok then .tup [((bF m k).map f).getD z,.bool (bF m k).isSome] else ((bF m k).map f).getD z):=by
 unfold lkI
 simp only [hg,ot he f m k]
 cases h:fV m k with
 | none=>simp [(oz h).1]
 | some i=>
  obtain ⟨v,h1,h2,_⟩:=oA h
  simp [kvs,h1,h2]
theorem jm {kk:KK} {enc:κ→AV} (he:KeyOk kk enc) {f:β→AV} {g ver:Nat} {s:St} {m:List (κ×β)} (hg:s.h g=some (.map (kvs enc f m) ver)) (k:κ) (v:β) :
  muI kk (.map g) (enc k) (f v) s=some ⟨upd s.h g (some (.map (kvs enc f (cZ m k v)) s.c)),s.c+1⟩:=by
 unfold muI
 simp only [hg,ot he f m k]
 cases h:fV m k with
 | none=>simp [(oz h).2 v,kvs]
 | some i=>
  obtain ⟨_,_,_,h3⟩:=oA h
  simp [kvs,h3 v,List.map_set]
theorem ep:KeyOk (.one .str) AV.str where
 wf a:=rfl
 eq a b:=rfl
end Go.AM
