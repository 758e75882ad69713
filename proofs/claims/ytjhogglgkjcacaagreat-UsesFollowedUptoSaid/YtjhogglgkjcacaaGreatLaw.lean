/- wblaw2.UsesFollowed returns true for every list of numbers, where what it reads is of bulk at most 1048576; the list reads afterwards as it did. -/
import Derived.Test.YtjhogglgkjcacaaGreatRows
import Derived.WalkKit
import Derived.ProofKit
import Derived.OpenShut
import Derived.JoinedCond
import Derived.Test.YtjhogglgkjcacaaGreatMc2
import Derived.Test.YtjhogglgkjcacaaGreatMc4
set_option linter.all false
namespace Go.Proofs.YtjhogglgkjcacaaGreat.fnUsesFollowed
open Go.ChangeShapes Go.WideShapes Go.ChangeAt Go.RowKit
theorem own:ownKnob Tryz.prog.godebug=none:=by kernel_rfl
theorem Al:laidOutB Tryz.prog=true:=by kernel_rfl
theorem AQ:Tryz.prog.cellsOf 3=1:=by kernel_rfl
theorem qO {H:Type} (k:IntKind):∀ l:List Int,Rows.uptoBulkAll (lits k l:List (DataW H))=l.length
 | []=>rfl
 | x::l=>by
  have ih:=qO (H:=H) k l
  unfold lits at ih ⊢
  simp only [List.map_cons,Rows.uptoBulkAll,Rows.uptoBulk,List.length_cons,ih]
  omega
set_option maxRecDepth 100000 in
theorem yJ (H:Type) (enc:TypeId×Value→H) (W:World) (base:Nat) (args:Array Value) (ds gs:List (DataW H)) (before:List MemPlace)
  (hval:∀ (j:Nat) t v,Tryz.f5.params[j]?=some t→args[j]?=some v→Value.okWide Tryz.prog W .any base t v)
  (hW:DataW.Whole enc Tryz.prog Tryz.f5.params.toList Rows.usesFollowedSpec.vars false W args.toList ds gs before) (hk:Rows.uptoSmall H (ds++gs)=true) :
  Calls Tryz.prog 5 args W fun e W'=>∃ v,e=.returned v∧Rows.usesFollowedSpec.post enc Tryz.prog Tryz.f5 false true false false W args v W':=by
 have hW':=hW
 obtain ⟨p,q,hA0,hV,rfl,hfz,hnd⟩:=hW
 have hA:DataW.TrodAll enc Tryz.prog W 0 (fun _=>true) true Tryz.f5.params.toList args.toList ds p:=hA0
 rw [Tryz.params5] at hA hval
 obtain ⟨v0,vs0,d0,ds0,p0,q0,hargs,rfl,rfl,h0,r0⟩:=trodAll_cons hA
 obtain ⟨rfl,rfl,rfl⟩:=trodAll_nil r0
 obtain rfl:args=#[v0]:=by
  clear hk hW' hA0 hA hval hfz hnd h0
  cases args; simp_all
 obtain ⟨rfl,rfl⟩:=trodVars_none hV
 obtain ⟨a0,len,cap,rfl⟩:=okWide_slice Tryz.underlying22 (hval 0 22 v0 rfl rfl)
 have h0k:=h0
 obtain ⟨fuel0,hf⟩:=h0
 clear hA0
 simp only [List.append_nil] at hW' hk
 have hlt:∀ x∈p0,x.block<W.heap.size:=fun x hx=>by simpa using hW'.lt x hx
 have hwalk:Calls Tryz.prog 5 #[.slice a0 len cap] W fun e W'=>e=.returned (.bool true)∧Below W.heap.size W W':=by
  rcases open_ints Tryz.underlying22 Tryz.underlying3 AQ hf with ⟨hcs,hx⟩ | ⟨a,len',cap',zs,hcs,_,hl,hm,hz,hx,hcell,hwz⟩
  ·simp [Value.cells] at hcs
   obtain ⟨rfl,rfl,rfl⟩:=hcs
   exact vK 5 Tryz.call5 vy W none 0 0 [] (Nat.le_refl _) rfl (by omega) (.inl rfl)
  ·simp [Value.cells] at hcs
   obtain ⟨rfl,rfl,rfl⟩:=hcs
   simp only [Prod.mk.injEq] at hx
   obtain ⟨rfl,rfl⟩:=hx
   simp only [if_true] at hz
   have hb:len≤1048576:=by
    have h:=of_decide_eq_true hk
    simp only [Rows.uptoBulkAll,Rows.uptoBulk,qO,List.length_take,List.length_drop] at h
    omega
   have hzl:(zs.take len).length=len:=by rw [List.length_take]; omega
   refine vK 5 Tryz.call5 vy W (some a) len cap (zs.take len) hl hzl hb ?_
   by_cases hl0:len=0
   ·exact .inl hl0
   ·obtain ⟨b,off,rfl,hc⟩:=ints_at hcell (by omega)
    refine .inr ⟨b,off,rfl,fun j hj=>?_⟩
    rw [hc j (by omega)]
    congr 2
    rw [List.getD_eq_getElem?_getD,List.getD_eq_getElem?_getD,List.getElem?_take_of_lt hj]
 refine hwalk.mono fun e W' ⟨he,hbel⟩=>?_
 subst he
 refine ⟨_,rfl,[d0],[],p0,[],p0,[],hW',?_,?_,?_,hbel.frame _,fun h=>by cases h⟩
 ·exact trodAll_cons_mk (shut_bool Tryz.underlying4 _) trodAll_mk0
 ·have h1:=Below.trod (enc:=enc) Al (by kernel_rfl) (of_decide_eq_true (by kernel_rfl)) h0k hbel hlt
  have h2:=trodAll_cons_mk h1 (trodAll_mk0 (enc:=enc))
  rw [List.append_nil] at h2
  exact h2
 ·exact rfl
set_option maxRecDepth 100000 in
theorem AW (os:Os) (started:os.Started) (H:Type) (enc:TypeId×Value→H) (F:Stop.Interp) :
  ReturnsInHanded {} Tryz.checked os 5 .any ((Rows.OpenSpec.upto Rows.usesFollowedSpec).pre6 enc Tryz.prog Tryz.f5 Rows.usesFollowedUptoRow.domain false) (((Rows.OpenSpec.upto Rows.usesFollowedSpec).at F).post enc Tryz.prog Tryz.f5 false true false false):=by
 refine returnsInHanded_of_cond (C:=Tryz.checked) (s:=Rows.OpenSpec.upto Rows.usesFollowedSpec) (k:=Rows.uptoSmall) rfl own started (by kernel_rfl) Tryz.func5
  (OpenSpec.witness (enc:=enc) (C:=Tryz.checked) (s:=Rows.OpenSpec.upto Rows.usesFollowedSpec) (k:=Rows.uptoSmall) rfl false ⟨#[],#[.slice none 0 0],[]⟩ 8 (by kernel_rfl) (by kernel_rfl) (by kernel_rfl)
   (x:=([.nil],[],[])) (by kernel_rfl) rfl (by kernel_rfl)) ?_
 intro W base args ds gs before hval hW _ hk _
 exact yJ H enc W base args ds gs before hval hW hk
set_option maxHeartbeats 0 in
theorem ug:joinedFacts Tryz.prog 5 Tryz.f5 (Rows.OpenSpec.upto Rows.usesFollowedSpec).bare Rows.usesFollowedUptoRow=true:=by
 unfold joinedFacts
 simp only [Bool.and_eq_true]
 (repeat' apply And.intro) <;> as_aux_lemma=>kernel_rfl
theorem proved:Rows.UsesFollowedUptoSaid:=
 OpenClaim.holds_of_cond 5 Tryz.f5 rfl rfl rfl rfl rfl rfl rfl ⟨rfl,rfl,rfl,rfl,rfl⟩ rfl rfl rfl rfl rfl (by kernel_rfl) Tryz.func5 ug
  (of_decide_eq_true (by kernel_rfl)) (by unfold Func.isWrapper; first | (rw [if_pos (by decide +kernel)]; kernel_rfl) | (rw [if_neg (by decide +kernel)]; exact ⟨rfl,rfl⟩))
  (fun os started H enc _ F=>AW os started H enc F)
end Go.Proofs.YtjhogglgkjcacaaGreat.fnUsesFollowed
