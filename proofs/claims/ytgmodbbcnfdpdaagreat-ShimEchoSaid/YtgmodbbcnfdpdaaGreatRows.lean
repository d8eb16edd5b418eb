/-
  No cell of these rows narrows 'for every input' (looked for: loops, veiled, ifaces, maps, wideKeys, modest, calm, conditions, laid).
  DERIVED. THE GIVEN ROWS OF THIS SEAT. 3 by the template 'for every input the law returns true; each argument reads behind the call as it read before'; 0 by the template 'total and deterministic' (their statements: YtgmodbbcnfdpdaaGreatTotals.lean).
  GIVEN WITH THE SEED: the statements are not yours to turn. If you find one false, say at which input.
  Laid BY PROGRAM, IN A SANDBOX (cutbox-rows.mjs): the forced cells as the released guide's own fill.sh prints them over the translation d91017801a0fd3bd… (all of the seat's roots in one cut). By AI agents, Wed Nov 11 2026. No macro, syntax, notation, axiom, sorry.
-/
import Derived.Test.YtgmodbbcnfdpdaaGreatChecked
import GoSem.Claim
import GoSem.ClaimJoined
import GoSem.ClaimMapViews
import Derived.JoinedTies
import Derived.KernelRfl
namespace Go.Proofs.YtgmodbbcnfdpdaaGreat
/- THE CELL 'sum', in the pinned program and in every row, IS THE sha256 OF THE DUMP (.gsa) THAT YtgmodbbcnfdpdaaGreatProg.lean LOADS. Nothing in Lean hashes anything: it is a label: what it is worth is what the hold of that sum in a sandbox is worth. -/
noncomputable def Tryz.pinned : Pinned := { name := "ytgmodbbcnfdpdaagreat", sum := "d91017801a0fd3bd6dde31b78e74a40931733f0b615757a7006ef719de1b4284", checked := Tryz.checked }
namespace Rows
def none {H : Type} : Left H := { results := [], args := [] }

/-- 'cloakroomlaw37.ShimPlays': WHATEVER THE INPUT: true; the input reads as it did. -/
def shimPlaysSpec : ChangeSpec := { name := "shimPlays", fn := fun _ => fun
  | [d1, d2] => { results := [.lit (.bool true)], args := [d1, d2] }
  | _ => none }
def shimPlaysRow : OpenClaim := { program := "ytgmodbbcnfdpdaagreat", sum := "d91017801a0fd3bd6dde31b78e74a40931733f0b615757a7006ef719de1b4284", func := "cloakroom/cloakroomlaw37.ShimPlays", spec := "shimPlays", inPlace := ["internal/abi.NoEscape"], unfollowed := true, recurses := true, plainKeys := false, apart := false }
def ShimPlaysSaid : Prop := shimPlaysRow.holds Tryz.pinned (OpenSpec.ofChange shimPlaysSpec)

/-- ITS FALSE NEIGHBOUR: 'it returns false'. Refute it at one input. -/
def shimPlaysWrong : ChangeSpec := { name := "shimPlays", fn := fun _ => fun
  | [d1, d2] => { results := [.lit (.bool false)], args := [d1, d2] }
  | _ => none }
def ShimPlaysWrongFalsely : Prop := shimPlaysRow.holds Tryz.pinned (OpenSpec.ofChange shimPlaysWrong)

/-- 'cloakroomlaw37.ShimEcho': WHATEVER THE INPUT: true; the input reads as it did. -/
def shimEchoSpec : ChangeSpec := { name := "shimEcho", fn := fun _ => fun
  | [d1, d2, d3, d4, d5, d6] => { results := [.lit (.bool true)], args := [d1, d2, d3, d4, d5, d6] }
  | _ => none }
def shimEchoRow : OpenClaim := { program := "ytgmodbbcnfdpdaagreat", sum := "d91017801a0fd3bd6dde31b78e74a40931733f0b615757a7006ef719de1b4284", func := "cloakroom/cloakroomlaw37.ShimEcho", spec := "shimEcho", inPlace := ["internal/abi.NoEscape"], unfollowed := true, recurses := true, plainKeys := false, apart := false }
def ShimEchoSaid : Prop := shimEchoRow.holds Tryz.pinned (OpenSpec.ofChange shimEchoSpec)

/-- ITS FALSE NEIGHBOUR: 'it returns false'. Refute it at one input. -/
def shimEchoWrong : ChangeSpec := { name := "shimEcho", fn := fun _ => fun
  | [d1, d2, d3, d4, d5, d6] => { results := [.lit (.bool false)], args := [d1, d2, d3, d4, d5, d6] }
  | _ => none }
def ShimEchoWrongFalsely : Prop := shimEchoRow.holds Tryz.pinned (OpenSpec.ofChange shimEchoWrong)

/-- 'cloakroomlaw37.ShimFull': WHATEVER THE INPUT: true; the input reads as it did. -/
def shimFullSpec : ChangeSpec := { name := "shimFull", fn := fun _ => fun
  | [d1, d2, d3, d4, d5] => { results := [.lit (.bool true)], args := [d1, d2, d3, d4, d5] }
  | _ => none }
def shimFullRow : OpenClaim := { program := "ytgmodbbcnfdpdaagreat", sum := "d91017801a0fd3bd6dde31b78e74a40931733f0b615757a7006ef719de1b4284", func := "cloakroom/cloakroomlaw37.ShimFull", spec := "shimFull", inPlace := ["internal/abi.NoEscape"], unfollowed := true, recurses := true, plainKeys := false, apart := false }
def ShimFullSaid : Prop := shimFullRow.holds Tryz.pinned (OpenSpec.ofChange shimFullSpec)

/-- ITS FALSE NEIGHBOUR: 'it returns false'. Refute it at one input. -/
def shimFullWrong : ChangeSpec := { name := "shimFull", fn := fun _ => fun
  | [d1, d2, d3, d4, d5] => { results := [.lit (.bool false)], args := [d1, d2, d3, d4, d5] }
  | _ => none }
def ShimFullWrongFalsely : Prop := shimFullRow.holds Tryz.pinned (OpenSpec.ofChange shimFullWrong)

/- THE SECOND FORM. 'bulk': how many values and letters a reading holds, each counted each time it is reached (what is shared counts as often as it is met; a slice's spare places count too). A statement '..UptoSaid' is the law's where the arguments, and the package variables that the reading takes, are together of bulk at most 1048576: NARROWER than '..Said'. Prove '..Said' where nothing that the law and all that it calls make is longer than what came in: it says more and counts as full. Else prove '..UptoSaid'. A law counts once. -/
mutual
def uptoBulk {H : Type} : DataW H → Nat
  | .lit (.string bytes) => bytes.length + 1
  | .lit _ => 1
  | .nil => 1
  | .ptr d => uptoBulk d + 1
  | .slice elems spare => uptoBulkAll elems + uptoBulkAll spare + 1
  | .agg parts => uptoBulkAll parts + 1
  | .iface _ d => uptoBulk d + 1
  | .map entries => uptoBulkEntries entries + 1
  | .held _ => 1
def uptoBulkAll {H : Type} : List (DataW H) → Nat
  | [] => 0
  | d :: r => uptoBulk d + uptoBulkAll r
def uptoBulkEntries {H : Type} : List (Lit × DataW H) → Nat
  | [] => 0
  | x :: r => uptoBulkEntry x + uptoBulkEntries r
def uptoBulkEntry {H : Type} : Lit × DataW H → Nat
  | (.string bytes, d) => bytes.length + uptoBulk d + 1
  | (_, d) => uptoBulk d + 1
 end
def uptoSmall : (H : Type) → List (DataW H) → Bool := fun _ ds => decide (uptoBulkAll ds ≤ 1048576)
def OpenSpec.upto (s : _root_.Go.ChangeSpec) : _root_.Go.OpenSpec := { _root_.Go.OpenSpec.ofChange s with cond := some uptoSmall }

/-- 'cloakroomlaw37.ShimPlays', WHERE WHAT IT READS IS OF BULK AT MOST 1048576: true; the input reads as it did. -/
def shimPlaysUptoRow : OpenClaim := { program := "ytgmodbbcnfdpdaagreat", sum := "d91017801a0fd3bd6dde31b78e74a40931733f0b615757a7006ef719de1b4284", func := "cloakroom/cloakroomlaw37.ShimPlays", spec := "shimPlays", inPlace := ["internal/abi.NoEscape"], unfollowed := true, recurses := true, plainKeys := false, apart := false, narrowed := true }
def ShimPlaysUptoSaid : Prop := shimPlaysUptoRow.holds Tryz.pinned (OpenSpec.upto shimPlaysSpec)

/-- 'cloakroomlaw37.ShimEcho', WHERE WHAT IT READS IS OF BULK AT MOST 1048576: true; the input reads as it did. -/
def shimEchoUptoRow : OpenClaim := { program := "ytgmodbbcnfdpdaagreat", sum := "d91017801a0fd3bd6dde31b78e74a40931733f0b615757a7006ef719de1b4284", func := "cloakroom/cloakroomlaw37.ShimEcho", spec := "shimEcho", inPlace := ["internal/abi.NoEscape"], unfollowed := true, recurses := true, plainKeys := false, apart := false, narrowed := true }
def ShimEchoUptoSaid : Prop := shimEchoUptoRow.holds Tryz.pinned (OpenSpec.upto shimEchoSpec)

/-- 'cloakroomlaw37.ShimFull', WHERE WHAT IT READS IS OF BULK AT MOST 1048576: true; the input reads as it did. -/
def shimFullUptoRow : OpenClaim := { program := "ytgmodbbcnfdpdaagreat", sum := "d91017801a0fd3bd6dde31b78e74a40931733f0b615757a7006ef719de1b4284", func := "cloakroom/cloakroomlaw37.ShimFull", spec := "shimFull", inPlace := ["internal/abi.NoEscape"], unfollowed := true, recurses := true, plainKeys := false, apart := false, narrowed := true }
def ShimFullUptoSaid : Prop := shimFullUptoRow.holds Tryz.pinned (OpenSpec.upto shimFullSpec)

end Rows
end Go.Proofs.YtgmodbbcnfdpdaaGreat
