/-
  No cell of these rows narrows 'for every input' (looked for: loops, veiled, ifaces, maps, wideKeys, modest, calm, conditions, laid).
  DERIVED. THE GIVEN ROWS OF THIS SEAT. 2 by the template 'for every input the law returns true; each argument reads behind the call as it read before'; 0 by the template 'total and deterministic' (their statements: YtocppbmmfklbmaaGreatTotals.lean).
  GIVEN WITH THE SEED: the statements are not yours to turn. If you find one false, say at which input.
  Laid BY PROGRAM, IN A SANDBOX (cutbox-rows.mjs): the forced cells as the released guide's own fill.sh prints them over the translation fd2cfe92b3ba2f96… (all of the seat's roots in one cut). By AI agents, Wed Nov 11 2026. No macro, syntax, notation, axiom, sorry.
-/
import Derived.Test.YtocppbmmfklbmaaGreatChecked
import GoSem.Claim
import GoSem.ClaimJoined
import GoSem.ClaimMapViews
import Derived.JoinedTies
import Derived.KernelRfl
namespace Go.Proofs.YtocppbmmfklbmaaGreat
/- THE CELL 'sum', in the pinned program and in every row, IS THE sha256 OF THE DUMP (.gsa) THAT YtocppbmmfklbmaaGreatProg.lean LOADS. Nothing in Lean hashes anything: it is a label: what it is worth is what the hold of that sum in a sandbox is worth. -/
noncomputable def Tryz.pinned : Pinned := { name := "ytocppbmmfklbmaagreat", sum := "fd2cfe92b3ba2f966bf97a5c8be575ca7265794d44dd252197f5d8897963b8a6", checked := Tryz.checked }
namespace Rows
def none {H : Type} : Left H := { results := [], args := [] }

/-- 'wblaw2.ProgramsRun': WHATEVER THE INPUT: true; the input reads as it did. -/
def programsRunSpec : ChangeSpec := { name := "programsRun", fn := fun _ => fun
  | [d] => { results := [.lit (.bool true)], args := [d] }
  | _ => none }
def programsRunRow : OpenClaim := { program := "ytocppbmmfklbmaagreat", sum := "fd2cfe92b3ba2f966bf97a5c8be575ca7265794d44dd252197f5d8897963b8a6", func := "warpbeam/wblaw2.ProgramsRun", spec := "programsRun", inPlace := ["internal/bytealg.abigen_runtime_cmpstring", "internal/abi.NoEscape", "internal/bytealg.MakeNoZero", "internal/bytealg.IndexByteString", "maps.clone"], unfollowed := true, recurses := true, plainKeys := false, apart := false }
def ProgramsRunSaid : Prop := programsRunRow.holds Tryz.pinned (OpenSpec.ofChange programsRunSpec)

/-- ITS FALSE NEIGHBOUR: 'it returns false'. Refute it at one input. -/
def programsRunWrong : ChangeSpec := { name := "programsRun", fn := fun _ => fun
  | [d] => { results := [.lit (.bool false)], args := [d] }
  | _ => none }
def ProgramsRunWrongFalsely : Prop := programsRunRow.holds Tryz.pinned (OpenSpec.ofChange programsRunWrong)

/-- 'wblaw2.InstancesTold': WHATEVER THE INPUT: true; the input reads as it did. -/
def instancesToldSpec : ChangeSpec := { name := "instancesTold", fn := fun _ => fun
  | [d] => { results := [.lit (.bool true)], args := [d] }
  | _ => none }
def instancesToldRow : OpenClaim := { program := "ytocppbmmfklbmaagreat", sum := "fd2cfe92b3ba2f966bf97a5c8be575ca7265794d44dd252197f5d8897963b8a6", func := "warpbeam/wblaw2.InstancesTold", spec := "instancesTold", inPlace := ["internal/bytealg.abigen_runtime_cmpstring", "internal/abi.NoEscape", "internal/bytealg.MakeNoZero", "internal/bytealg.IndexByteString", "maps.clone"], unfollowed := true, recurses := true, plainKeys := false, apart := false }
def InstancesToldSaid : Prop := instancesToldRow.holds Tryz.pinned (OpenSpec.ofChange instancesToldSpec)

/-- ITS FALSE NEIGHBOUR: 'it returns false'. Refute it at one input. -/
def instancesToldWrong : ChangeSpec := { name := "instancesTold", fn := fun _ => fun
  | [d] => { results := [.lit (.bool false)], args := [d] }
  | _ => none }
def InstancesToldWrongFalsely : Prop := instancesToldRow.holds Tryz.pinned (OpenSpec.ofChange instancesToldWrong)

/- THE SECOND FORM. 'bulk': how many values and letters a reading holds, each counted each time it is reached (what is shared counts as often as it is met; a slice's spare places count too). A statement '..UptoSaid' is the law's where the arguments, and the package variables that the reading takes, are together of bulk at most 1048576: NARROWER than '..Said'. Prove '..Said' where nothing that the law and all that it calls make is longer than what came in: it says more and counts as full. Else prove '..UptoSaid'. A law counts once. -/
mutual
def uptoBulk {H : Type} : DataW H → Nat
  | .lit (.string bytes) => bytes.length + 1
  | .lit _ => 1
  | .nil => 1
  | .ptr d => uptoBulk d + 1
  | .slice elems spare => uptoBulkAll elems + uptoBulkAll spare + 1
  | .agg parts => uptoBulkAll parts + 1
  | .iface _ d => uptoBulk d + 1
  | .map entries => uptoBulkEntries entries + 1
  | .held _ => 1
def uptoBulkAll {H : Type} : List (DataW H) → Nat
  | [] => 0
  | d :: r => uptoBulk d + uptoBulkAll r
def uptoBulkEntries {H : Type} : List (Lit × DataW H) → Nat
  | [] => 0
  | x :: r => uptoBulkEntry x + uptoBulkEntries r
def uptoBulkEntry {H : Type} : Lit × DataW H → Nat
  | (.string bytes, d) => bytes.length + uptoBulk d + 1
  | (_, d) => uptoBulk d + 1
 end
def uptoSmall : (H : Type) → List (DataW H) → Bool := fun _ ds => decide (uptoBulkAll ds ≤ 1048576)
def OpenSpec.upto (s : _root_.Go.ChangeSpec) : _root_.Go.OpenSpec := { _root_.Go.OpenSpec.ofChange s with cond := some uptoSmall }

/-- 'wblaw2.ProgramsRun', WHERE WHAT IT READS IS OF BULK AT MOST 1048576: true; the input reads as it did. -/
def programsRunUptoRow : OpenClaim := { program := "ytocppbmmfklbmaagreat", sum := "fd2cfe92b3ba2f966bf97a5c8be575ca7265794d44dd252197f5d8897963b8a6", func := "warpbeam/wblaw2.ProgramsRun", spec := "programsRun", inPlace := ["internal/bytealg.abigen_runtime_cmpstring", "internal/abi.NoEscape", "internal/bytealg.MakeNoZero", "internal/bytealg.IndexByteString", "maps.clone"], unfollowed := true, recurses := true, plainKeys := false, apart := false, narrowed := true }
def ProgramsRunUptoSaid : Prop := programsRunUptoRow.holds Tryz.pinned (OpenSpec.upto programsRunSpec)

/-- 'wblaw2.InstancesTold', WHERE WHAT IT READS IS OF BULK AT MOST 1048576: true; the input reads as it did. -/
def instancesToldUptoRow : OpenClaim := { program := "ytocppbmmfklbmaagreat", sum := "fd2cfe92b3ba2f966bf97a5c8be575ca7265794d44dd252197f5d8897963b8a6", func := "warpbeam/wblaw2.InstancesTold", spec := "instancesTold", inPlace := ["internal/bytealg.abigen_runtime_cmpstring", "internal/abi.NoEscape", "internal/bytealg.MakeNoZero", "internal/bytealg.IndexByteString", "maps.clone"], unfollowed := true, recurses := true, plainKeys := false, apart := false, narrowed := true }
def InstancesToldUptoSaid : Prop := instancesToldUptoRow.holds Tryz.pinned (OpenSpec.upto instancesToldSpec)

end Rows
end Go.Proofs.YtocppbmmfklbmaaGreat
