/-
  No cell of these rows narrows 'for every input' (looked for: loops, veiled, ifaces, maps, wideKeys, modest, calm, conditions, laid).
  DERIVED. THE GIVEN ROWS OF THIS SEAT. 3 by the template 'for every input the law returns true; each argument reads behind the call as it read before'; 0 by the template 'total and deterministic' (their statements: YtjhogglgkjcacaaGreatTotals.lean).
  GIVEN WITH THE SEED: the statements are not yours to turn. If you find one false, say at which input.
  Laid BY PROGRAM, IN A SANDBOX (cutbox-rows.mjs): the forced cells as the released guide's own fill.sh prints them over the translation ef170ec49db0b66c… (all of the seat's roots in one cut). By AI agents, Wed Nov 11 2026. No macro, syntax, notation, axiom, sorry.
-/
import Derived.Test.YtjhogglgkjcacaaGreatChecked
import GoSem.Claim
import GoSem.ClaimJoined
import GoSem.ClaimMapViews
import Derived.JoinedTies
import Derived.KernelRfl
namespace Go.Proofs.YtjhogglgkjcacaaGreat
/- THE CELL 'sum', in the pinned program and in every row, IS THE sha256 OF THE DUMP (.gsa) THAT YtjhogglgkjcacaaGreatProg.lean LOADS. Nothing in Lean hashes anything: it is a label: what it is worth is what the hold of that sum in a sandbox is worth. -/
noncomputable def Tryz.pinned : Pinned := { name := "ytjhogglgkjcacaagreat", sum := "ef170ec49db0b66cf989db94024e7939cf1a01e0ca2dccf6552f6c03f359b636", checked := Tryz.checked }
namespace Rows
def none {H : Type} : Left H := { results := [], args := [] }

/-- 'wblaw2.PlacesKnown': WHATEVER THE INPUT: true; the input reads as it did. -/
def placesKnownSpec : ChangeSpec := { name := "placesKnown", fn := fun _ => fun
  | [d] => { results := [.lit (.bool true)], args := [d] }
  | _ => none }
def placesKnownRow : OpenClaim := { program := "ytjhogglgkjcacaagreat", sum := "ef170ec49db0b66cf989db94024e7939cf1a01e0ca2dccf6552f6c03f359b636", func := "warpbeam/wblaw2.PlacesKnown", spec := "placesKnown", inPlace := ["internal/bytealg.abigen_runtime_cmpstring", "internal/abi.NoEscape", "internal/bytealg.MakeNoZero", "internal/bytealg.IndexByteString", "maps.clone"], unfollowed := true, recurses := true, plainKeys := false, apart := false }
def PlacesKnownSaid : Prop := placesKnownRow.holds Tryz.pinned (OpenSpec.ofChange placesKnownSpec)

/-- ITS FALSE NEIGHBOUR: 'it returns false'. Refute it at one input. -/
def placesKnownWrong : ChangeSpec := { name := "placesKnown", fn := fun _ => fun
  | [d] => { results := [.lit (.bool false)], args := [d] }
  | _ => none }
def PlacesKnownWrongFalsely : Prop := placesKnownRow.holds Tryz.pinned (OpenSpec.ofChange placesKnownWrong)

/-- 'wblaw2.TestsPassed': WHATEVER THE INPUT: true; the input reads as it did. -/
def testsPassedSpec : ChangeSpec := { name := "testsPassed", fn := fun _ => fun
  | [d] => { results := [.lit (.bool true)], args := [d] }
  | _ => none }
def testsPassedRow : OpenClaim := { program := "ytjhogglgkjcacaagreat", sum := "ef170ec49db0b66cf989db94024e7939cf1a01e0ca2dccf6552f6c03f359b636", func := "warpbeam/wblaw2.TestsPassed", spec := "testsPassed", inPlace := ["internal/bytealg.abigen_runtime_cmpstring", "internal/bytealg.IndexByteString", "internal/abi.NoEscape", "internal/bytealg.MakeNoZero"], unfollowed := true, recurses := true, plainKeys := false, apart := false }
def TestsPassedSaid : Prop := testsPassedRow.holds Tryz.pinned (OpenSpec.ofChange testsPassedSpec)

/-- ITS FALSE NEIGHBOUR: 'it returns false'. Refute it at one input. -/
def testsPassedWrong : ChangeSpec := { name := "testsPassed", fn := fun _ => fun
  | [d] => { results := [.lit (.bool false)], args := [d] }
  | _ => none }
def TestsPassedWrongFalsely : Prop := testsPassedRow.holds Tryz.pinned (OpenSpec.ofChange testsPassedWrong)

/-- 'wblaw2.UsesFollowed': WHATEVER THE INPUT: true; the input reads as it did. -/
def usesFollowedSpec : ChangeSpec := { name := "usesFollowed", fn := fun _ => fun
  | [d] => { results := [.lit (.bool true)], args := [d] }
  | _ => none }
def usesFollowedRow : OpenClaim := { program := "ytjhogglgkjcacaagreat", sum := "ef170ec49db0b66cf989db94024e7939cf1a01e0ca2dccf6552f6c03f359b636", func := "warpbeam/wblaw2.UsesFollowed", spec := "usesFollowed", inPlace := ["internal/bytealg.abigen_runtime_cmpstring", "internal/abi.NoEscape", "internal/bytealg.MakeNoZero", "internal/bytealg.IndexByteString", "maps.clone"], unfollowed := true, recurses := true, plainKeys := false, apart := false }
def UsesFollowedSaid : Prop := usesFollowedRow.holds Tryz.pinned (OpenSpec.ofChange usesFollowedSpec)

/-- ITS FALSE NEIGHBOUR: 'it returns false'. Refute it at one input. -/
def usesFollowedWrong : ChangeSpec := { name := "usesFollowed", fn := fun _ => fun
  | [d] => { results := [.lit (.bool false)], args := [d] }
  | _ => none }
def UsesFollowedWrongFalsely : Prop := usesFollowedRow.holds Tryz.pinned (OpenSpec.ofChange usesFollowedWrong)

/- THE SECOND FORM. 'bulk': how many values and letters a reading holds, each counted each time it is reached (what is shared counts as often as it is met; a slice's spare places count too). A statement '..UptoSaid' is the law's where the arguments, and the package variables that the reading takes, are together of bulk at most 1048576: NARROWER than '..Said'. Prove '..Said' where nothing that the law and all that it calls make is longer than what came in: it says more and counts as full. Else prove '..UptoSaid'. A law counts once. -/
mutual
def uptoBulk {H : Type} : DataW H → Nat
  | .lit (.string bytes) => bytes.length + 1
  | .lit _ => 1
  | .nil => 1
  | .ptr d => uptoBulk d + 1
  | .slice elems spare => uptoBulkAll elems + uptoBulkAll spare + 1
  | .agg parts => uptoBulkAll parts + 1
  | .iface _ d => uptoBulk d + 1
  | .map entries => uptoBulkEntries entries + 1
  | .held _ => 1
def uptoBulkAll {H : Type} : List (DataW H) → Nat
  | [] => 0
  | d :: r => uptoBulk d + uptoBulkAll r
def uptoBulkEntries {H : Type} : List (Lit × DataW H) → Nat
  | [] => 0
  | x :: r => uptoBulkEntry x + uptoBulkEntries r
def uptoBulkEntry {H : Type} : Lit × DataW H → Nat
  | (.string bytes, d) => bytes.length + uptoBulk d + 1
  | (_, d) => uptoBulk d + 1
 end
def uptoSmall : (H : Type) → List (DataW H) → Bool := fun _ ds => decide (uptoBulkAll ds ≤ 1048576)
def OpenSpec.upto (s : _root_.Go.ChangeSpec) : _root_.Go.OpenSpec := { _root_.Go.OpenSpec.ofChange s with cond := some uptoSmall }

/-- 'wblaw2.PlacesKnown', WHERE WHAT IT READS IS OF BULK AT MOST 1048576: true; the input reads as it did. -/
def placesKnownUptoRow : OpenClaim := { program := "ytjhogglgkjcacaagreat", sum := "ef170ec49db0b66cf989db94024e7939cf1a01e0ca2dccf6552f6c03f359b636", func := "warpbeam/wblaw2.PlacesKnown", spec := "placesKnown", inPlace := ["internal/bytealg.abigen_runtime_cmpstring", "internal/abi.NoEscape", "internal/bytealg.MakeNoZero", "internal/bytealg.IndexByteString", "maps.clone"], unfollowed := true, recurses := true, plainKeys := false, apart := false, narrowed := true }
def PlacesKnownUptoSaid : Prop := placesKnownUptoRow.holds Tryz.pinned (OpenSpec.upto placesKnownSpec)

/-- 'wblaw2.TestsPassed', WHERE WHAT IT READS IS OF BULK AT MOST 1048576: true; the input reads as it did. -/
def testsPassedUptoRow : OpenClaim := { program := "ytjhogglgkjcacaagreat", sum := "ef170ec49db0b66cf989db94024e7939cf1a01e0ca2dccf6552f6c03f359b636", func := "warpbeam/wblaw2.TestsPassed", spec := "testsPassed", inPlace := ["internal/bytealg.abigen_runtime_cmpstring", "internal/bytealg.IndexByteString", "internal/abi.NoEscape", "internal/bytealg.MakeNoZero"], unfollowed := true, recurses := true, plainKeys := false, apart := false, narrowed := true }
def TestsPassedUptoSaid : Prop := testsPassedUptoRow.holds Tryz.pinned (OpenSpec.upto testsPassedSpec)

/-- 'wblaw2.UsesFollowed', WHERE WHAT IT READS IS OF BULK AT MOST 1048576: true; the input reads as it did. -/
def usesFollowedUptoRow : OpenClaim := { program := "ytjhogglgkjcacaagreat", sum := "ef170ec49db0b66cf989db94024e7939cf1a01e0ca2dccf6552f6c03f359b636", func := "warpbeam/wblaw2.UsesFollowed", spec := "usesFollowed", inPlace := ["internal/bytealg.abigen_runtime_cmpstring", "internal/abi.NoEscape", "internal/bytealg.MakeNoZero", "internal/bytealg.IndexByteString", "maps.clone"], unfollowed := true, recurses := true, plainKeys := false, apart := false, narrowed := true }
def UsesFollowedUptoSaid : Prop := usesFollowedUptoRow.holds Tryz.pinned (OpenSpec.upto usesFollowedSpec)

end Rows
end Go.Proofs.YtjhogglgkjcacaaGreat
