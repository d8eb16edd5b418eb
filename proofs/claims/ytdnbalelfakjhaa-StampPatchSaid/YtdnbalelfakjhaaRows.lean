/-
  No cell of these rows narrows 'for every input' (looked for: loops, veiled, ifaces, maps, wideKeys, modest, calm, conditions, laid).
  DERIVED. THE GIVEN ROWS OF THIS SEAT. 4 by the template 'for every input the law returns true; each argument reads behind the call as it read before'; 0 by the template 'total and deterministic' (their statements: YtdnbalelfakjhaaTotals.lean).
  GIVEN WITH THE SEED: the statements are not yours to turn. If you find one false, say at which input.
  Laid BY PROGRAM, IN A SANDBOX (cutbox-rows.mjs): the forced cells as the released guide's own fill.sh prints them over the translation 865a8a25c651b45a… (all of the seat's roots in one cut). By AI agents, Wed Nov 11 2026. No macro, syntax, notation, axiom, sorry.
-/
import Derived.Test.YtdnbalelfakjhaaChecked
import GoSem.Claim
import GoSem.ClaimJoined
import GoSem.ClaimMapViews
import Derived.JoinedTies
import Derived.KernelRfl
namespace Go.Proofs.Ytdnbalelfakjhaa
/- THE CELL 'sum', in the pinned program and in every row, IS THE sha256 OF THE DUMP (.gsa) THAT YtdnbalelfakjhaaProg.lean LOADS. Nothing in Lean hashes anything: it is a label: what it is worth is what the hold of that sum in a sandbox is worth. -/
noncomputable def Try.pinned : Pinned := { name := "ytdnbalelfakjhaa", sum := "865a8a25c651b45a5672574831c39d85d09563aac7d0ef49163bd866951f59db", checked := Try.checked }
namespace Rows
def none {H : Type} : Left H := { results := [], args := [] }

/-- 'cloakroomlaw36.StampPatch': WHATEVER THE INPUT: true; the input reads as it did. -/
def stampPatchSpec : ChangeSpec := { name := "stampPatch", fn := fun _ => fun
  | [d1, d2, d3, d4] => { results := [.lit (.bool true)], args := [d1, d2, d3, d4] }
  | _ => none }
def stampPatchRow : OpenClaim := { program := "ytdnbalelfakjhaa", sum := "865a8a25c651b45a5672574831c39d85d09563aac7d0ef49163bd866951f59db", func := "cloakroom/cloakroomlaw36.StampPatch", spec := "stampPatch", inPlace := ["internal/abi.NoEscape"], unfollowed := true, recurses := true, apart := false }
def StampPatchSaid : Prop := stampPatchRow.holds Try.pinned (OpenSpec.ofChange stampPatchSpec)

/-- ITS FALSE NEIGHBOUR: 'it returns false'. Refute it at one input. -/
def stampPatchWrong : ChangeSpec := { name := "stampPatch", fn := fun _ => fun
  | [d1, d2, d3, d4] => { results := [.lit (.bool false)], args := [d1, d2, d3, d4] }
  | _ => none }
def StampPatchWrongFalsely : Prop := stampPatchRow.holds Try.pinned (OpenSpec.ofChange stampPatchWrong)

/-- 'cloakroomlaw11.PacketTurned': WHATEVER THE INPUT: true; the input reads as it did. -/
def packetTurnedSpec : ChangeSpec := { name := "packetTurned", fn := fun _ => fun
  | [d1, d2, d3, d4, d5, d6] => { results := [.lit (.bool true)], args := [d1, d2, d3, d4, d5, d6] }
  | _ => none }
def packetTurnedRow : OpenClaim := { program := "ytdnbalelfakjhaa", sum := "865a8a25c651b45a5672574831c39d85d09563aac7d0ef49163bd866951f59db", func := "cloakroom/cloakroomlaw11.PacketTurned", spec := "packetTurned", inPlace := ["internal/abi.NoEscape"], unfollowed := true, recurses := true, apart := false }
def PacketTurnedSaid : Prop := packetTurnedRow.holds Try.pinned (OpenSpec.ofChange packetTurnedSpec)

/-- ITS FALSE NEIGHBOUR: 'it returns false'. Refute it at one input. -/
def packetTurnedWrong : ChangeSpec := { name := "packetTurned", fn := fun _ => fun
  | [d1, d2, d3, d4, d5, d6] => { results := [.lit (.bool false)], args := [d1, d2, d3, d4, d5, d6] }
  | _ => none }
def PacketTurnedWrongFalsely : Prop := packetTurnedRow.holds Try.pinned (OpenSpec.ofChange packetTurnedWrong)

/-- 'cloakroomlaw11.PacketSpoilt': WHATEVER THE INPUT: true; the input reads as it did. -/
def packetSpoiltSpec : ChangeSpec := { name := "packetSpoilt", fn := fun _ => fun
  | [d1, d2, d3, d4, d5] => { results := [.lit (.bool true)], args := [d1, d2, d3, d4, d5] }
  | _ => none }
def packetSpoiltRow : OpenClaim := { program := "ytdnbalelfakjhaa", sum := "865a8a25c651b45a5672574831c39d85d09563aac7d0ef49163bd866951f59db", func := "cloakroom/cloakroomlaw11.PacketSpoilt", spec := "packetSpoilt", inPlace := ["internal/abi.NoEscape"], unfollowed := true, recurses := true, apart := false }
def PacketSpoiltSaid : Prop := packetSpoiltRow.holds Try.pinned (OpenSpec.ofChange packetSpoiltSpec)

/-- ITS FALSE NEIGHBOUR: 'it returns false'. Refute it at one input. -/
def packetSpoiltWrong : ChangeSpec := { name := "packetSpoilt", fn := fun _ => fun
  | [d1, d2, d3, d4, d5] => { results := [.lit (.bool false)], args := [d1, d2, d3, d4, d5] }
  | _ => none }
def PacketSpoiltWrongFalsely : Prop := packetSpoiltRow.holds Try.pinned (OpenSpec.ofChange packetSpoiltWrong)

/-- 'cloakroomlaw11.PacketBack': WHATEVER THE INPUT: true; the input reads as it did. -/
def packetBackSpec : ChangeSpec := { name := "packetBack", fn := fun _ => fun
  | [d1, d2, d3, d4, d5, d6] => { results := [.lit (.bool true)], args := [d1, d2, d3, d4, d5, d6] }
  | _ => none }
def packetBackRow : OpenClaim := { program := "ytdnbalelfakjhaa", sum := "865a8a25c651b45a5672574831c39d85d09563aac7d0ef49163bd866951f59db", func := "cloakroom/cloakroomlaw11.PacketBack", spec := "packetBack", inPlace := ["internal/abi.NoEscape"], unfollowed := true, recurses := true, apart := false }
def PacketBackSaid : Prop := packetBackRow.holds Try.pinned (OpenSpec.ofChange packetBackSpec)

/-- ITS FALSE NEIGHBOUR: 'it returns false'. Refute it at one input. -/
def packetBackWrong : ChangeSpec := { name := "packetBack", fn := fun _ => fun
  | [d1, d2, d3, d4, d5, d6] => { results := [.lit (.bool false)], args := [d1, d2, d3, d4, d5, d6] }
  | _ => none }
def PacketBackWrongFalsely : Prop := packetBackRow.holds Try.pinned (OpenSpec.ofChange packetBackWrong)

/- THE SECOND FORM. 'bulk': how many values and letters a reading holds, each counted each time it is reached (what is shared counts as often as it is met; a slice's spare places count too). A statement '..UptoSaid' is the law's where the arguments, and the package variables that the reading takes, are together of bulk at most 1048576: NARROWER than '..Said'. Prove '..Said' where nothing that the law and all that it calls make is longer than what came in: it says more and counts as full. Else prove '..UptoSaid'. A law counts once. -/
mutual
def uptoBulk {H : Type} : DataW H → Nat
  | .lit (.string bytes) => bytes.length + 1
  | .lit _ => 1
  | .nil => 1
  | .ptr d => uptoBulk d + 1
  | .slice elems spare => uptoBulkAll elems + uptoBulkAll spare + 1
  | .agg parts => uptoBulkAll parts + 1
  | .iface _ d => uptoBulk d + 1
  | .map entries => uptoBulkEntries entries + 1
  | .held _ => 1
def uptoBulkAll {H : Type} : List (DataW H) → Nat
  | [] => 0
  | d :: r => uptoBulk d + uptoBulkAll r
def uptoBulkEntries {H : Type} : List (Lit × DataW H) → Nat
  | [] => 0
  | x :: r => uptoBulkEntry x + uptoBulkEntries r
def uptoBulkEntry {H : Type} : Lit × DataW H → Nat
  | (.string bytes, d) => bytes.length + uptoBulk d + 1
  | (_, d) => uptoBulk d + 1
 end
def uptoSmall : (H : Type) → List (DataW H) → Bool := fun _ ds => decide (uptoBulkAll ds ≤ 1048576)
def OpenSpec.upto (s : _root_.Go.ChangeSpec) : _root_.Go.OpenSpec := { _root_.Go.OpenSpec.ofChange s with cond := some uptoSmall }

/-- 'cloakroomlaw36.StampPatch', WHERE WHAT IT READS IS OF BULK AT MOST 1048576: true; the input reads as it did. -/
def stampPatchUptoRow : OpenClaim := { program := "ytdnbalelfakjhaa", sum := "865a8a25c651b45a5672574831c39d85d09563aac7d0ef49163bd866951f59db", func := "cloakroom/cloakroomlaw36.StampPatch", spec := "stampPatch", inPlace := ["internal/abi.NoEscape"], unfollowed := true, recurses := true, apart := false, narrowed := true }
def StampPatchUptoSaid : Prop := stampPatchUptoRow.holds Try.pinned (OpenSpec.upto stampPatchSpec)

/-- 'cloakroomlaw11.PacketTurned', WHERE WHAT IT READS IS OF BULK AT MOST 1048576: true; the input reads as it did. -/
def packetTurnedUptoRow : OpenClaim := { program := "ytdnbalelfakjhaa", sum := "865a8a25c651b45a5672574831c39d85d09563aac7d0ef49163bd866951f59db", func := "cloakroom/cloakroomlaw11.PacketTurned", spec := "packetTurned", inPlace := ["internal/abi.NoEscape"], unfollowed := true, recurses := true, apart := false, narrowed := true }
def PacketTurnedUptoSaid : Prop := packetTurnedUptoRow.holds Try.pinned (OpenSpec.upto packetTurnedSpec)

/-- 'cloakroomlaw11.PacketSpoilt', WHERE WHAT IT READS IS OF BULK AT MOST 1048576: true; the input reads as it did. -/
def packetSpoiltUptoRow : OpenClaim := { program := "ytdnbalelfakjhaa", sum := "865a8a25c651b45a5672574831c39d85d09563aac7d0ef49163bd866951f59db", func := "cloakroom/cloakroomlaw11.PacketSpoilt", spec := "packetSpoilt", inPlace := ["internal/abi.NoEscape"], unfollowed := true, recurses := true, apart := false, narrowed := true }
def PacketSpoiltUptoSaid : Prop := packetSpoiltUptoRow.holds Try.pinned (OpenSpec.upto packetSpoiltSpec)

/-- 'cloakroomlaw11.PacketBack', WHERE WHAT IT READS IS OF BULK AT MOST 1048576: true; the input reads as it did. -/
def packetBackUptoRow : OpenClaim := { program := "ytdnbalelfakjhaa", sum := "865a8a25c651b45a5672574831c39d85d09563aac7d0ef49163bd866951f59db", func := "cloakroom/cloakroomlaw11.PacketBack", spec := "packetBack", inPlace := ["internal/abi.NoEscape"], unfollowed := true, recurses := true, apart := false, narrowed := true }
def PacketBackUptoSaid : Prop := packetBackUptoRow.holds Try.pinned (OpenSpec.upto packetBackSpec)

end Rows
end Go.Proofs.Ytdnbalelfakjhaa
