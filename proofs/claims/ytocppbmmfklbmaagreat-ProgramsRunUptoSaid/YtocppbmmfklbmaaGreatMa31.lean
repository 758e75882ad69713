/- Part of the claim: see its last text. -/
import Derived.Test.YtocppbmmfklbmaaGreatMa30
set_option linter.all false
namespace Go.AM
variable {κ β:Type} [DecidableEq κ]
structure KeyOk (kk:KK) (enc:κ→AV):Prop where
 wf:∀ a,lS kk (enc a)=true
 eq:∀ a b,ft kk (enc a) (enc b)=some (decide (a=b))
def kvs (enc:κ→AV) (f:β→AV) (m:List (κ×β)):List (AV×AV):=m.map fun p=>(enc p.1,f p.2)
def bL:List (κ×β)→κ→Option β
 | [],_=>none
 | p::m,k=>if k=p.1 then some p.2 else bL m k
def dI:List (κ×β)→κ→β→List (κ×β)
 | [],k,v=>[(k,v)]
 | p::m,k,v=>if k=p.1 then (k,v)::m else p::dI m k v
def gD:List (κ×β)→κ→Option Nat
 | [],_=>none
 | p::m,k=>if k=p.1 then some 0 else (gD m k).map (·+1)
theorem oX (m:List (κ×β)) (k:κ) (v:β) (k':κ):bL (dI m k v) k'=if k'=k then some v else bL m k':=by
 induction m with
 | nil=>simp [dI,bL]
 | cons p m ih=>
  simp only [dI]
  by_cases h:k=p.1
  ·rw [if_pos h]; simp only [bL]
   by_cases h2:k'=k
   ·simp [h2]
   ·rw [if_neg h2,if_neg h2,if_neg (by rw [←h]; exact h2)]
  ·rw [if_neg h]; simp only [bL,ih]
   by_cases h2:k'=p.1
   ·rw [if_pos h2,if_pos h2,if_neg (by rw [h2]; exact Ne.symm h)]
   ·rw [if_neg h2,if_neg h2]
theorem pj {m:List (κ×β)} {k:κ} (h:gD m k=none):bL m k=none∧∀ v,dI m k v=m++[(k,v)]:=by
 induction m with
 | nil=>exact ⟨rfl,fun v=>rfl⟩
 | cons p m ih=>
  simp only [gD] at h
  split at h
  ·cases h
  ·rename_i hk
   have:=ih (by simpa using h)
   exact ⟨by simp only [bL,if_neg hk]; exact this.1,fun v=>by simp only [dI,if_neg hk,this.2 v,List.cons_append]⟩
theorem pi {m:List (κ×β)} {k:κ} {i:Nat} (h:gD m k=some i):∃ v,m[i]?=some (k,v)∧bL m k=some v∧∀ w,dI m k w=m.set i (k,w):=by
 induction m generalizing i with
 | nil=>cases h
 | cons p m ih=>
  simp only [gD] at h
  split at h
  ·rename_i hk; injection h with h; subst h
   exact ⟨p.2,by rw [hk]; rfl,by simp only [bL,if_pos hk],fun w=>by simp only [dI,if_pos hk,List.set_cons_zero]⟩
  ·rename_i hk
   cases hi:gD m k with
   | none=>simp [hi] at h
   | some j=>
    simp [hi] at h; subst h
    obtain ⟨v,h1,h2,h3⟩:=ih hi
    exact ⟨v,by simpa using h1,by simp only [bL,if_neg hk]; exact h2,fun w=>by simp only [dI,if_neg hk,h3 w,List.set_cons_succ]⟩
theorem oS {kk:KK} {enc:κ→AV} (he:KeyOk kk enc) (f:β→AV) (k:κ):∀ (m:List (κ×β)) (i:Nat),ec kk (enc k) (kvs enc f m) i=some ((gD m k).map (·+i))
 | [],i=>rfl
 | p::m,i=>by
  have ih:=oS he f k m (i+1)
  simp only [kvs,List.map_cons,ec,he.eq,gD] at ih ⊢
  by_cases h:k=p.1
  ·simp [h]
  ·simp only [h,decide_false,if_false]
   rw [ih]
   cases gD m k with
   | none=>rfl
   | some j=>simp; omega
theorem oI {kk:KK} {enc:κ→AV} (he:KeyOk kk enc) (f:β→AV) (m:List (κ×β)) (k:κ):iY kk (enc k) (kvs enc f m)=some (gD m k):=by
 unfold iY
 rw [if_pos (he.wf k),oS he f k m 0]
 cases gD m k <;> simp
theorem gX {kk:KK} {enc:κ→AV} (he:KeyOk kk enc) {f:β→AV} {z:AV} {ok:Bool} {g ver:Nat} {s:St} {m:List (κ×β)} (hg:s.h g=some (.map (kvs enc f m) ver)) (k:κ) :
  lkI kk z ok (.map g) (enc k) s=some (if ok then .tup [((bL m k).map f).getD z,.bool (bL m k).isSome] else ((bL m k).map f).getD z):=by
 unfold lkI
 simp only [hg,oI he f m k]
 cases h:gD m k with
 | none=>simp [(pj h).1]
 | some i=>
  obtain ⟨v,h1,h2,_⟩:=pi h
  simp [kvs,h1,h2]
theorem kP {kk:KK} {enc:κ→AV} (he:KeyOk kk enc) {f:β→AV} {g ver:Nat} {s:St} {m:List (κ×β)} (hg:s.h g=some (.map (kvs enc f m) ver)) (k:κ) (v:β) :
  muI kk (.map g) (enc k) (f v) s=some ⟨upd s.h g (some (.map (kvs enc f (dI m k v)) s.c)),s.c+1⟩:=by
 unfold muI
 simp only [hg,oI he f m k]
 cases h:gD m k with
 | none=>simp [(pj h).2 v,kvs]
 | some i=>
  obtain ⟨_,_,_,h3⟩:=pi h
  simp [kvs,h3 v,List.map_set]
theorem eJ:KeyOk (.one .str) AV.str where
 wf a:=rfl
 eq a b:=rfl
theorem AT:KeyOk (.one .int) AV.int where
 wf a:=rfl
 eq a b:=by simp [ft,fZ]; rfl
end Go.AM
