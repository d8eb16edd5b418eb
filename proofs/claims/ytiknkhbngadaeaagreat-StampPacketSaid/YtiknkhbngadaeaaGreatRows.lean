/-
  No cell of these rows narrows 'for every input' (looked for: loops, veiled, ifaces, maps, wideKeys, modest, calm, conditions, laid).
  DERIVED. THE GIVEN ROWS OF THIS SEAT. 2 by the template 'for every input the law returns true; each argument reads behind the call as it read before'; 0 by the template 'total and deterministic' (their statements: YtiknkhbngadaeaaGreatTotals.lean).
  GIVEN WITH THE SEED: the statements are not yours to turn. If you find one false, say at which input.
  Laid BY PROGRAM, IN A SANDBOX (cutbox-rows.mjs): the forced cells as the released guide's own fill.sh prints them over the translation bf904d82b473700d… (all of the seat's roots in one cut). By AI agents, Wed Nov 11 2026. No macro, syntax, notation, axiom, sorry.
-/
import Derived.Test.YtiknkhbngadaeaaGreatChecked
import GoSem.Claim
import GoSem.ClaimJoined
import GoSem.ClaimMapViews
import Derived.JoinedTies
import Derived.KernelRfl
namespace Go.Proofs.YtiknkhbngadaeaaGreat
/- THE CELL 'sum', in the pinned program and in every row, IS THE sha256 OF THE DUMP (.gsa) THAT YtiknkhbngadaeaaGreatProg.lean LOADS. Nothing in Lean hashes anything: it is a label: what it is worth is what the hold of that sum in a sandbox is worth. -/
noncomputable def Tryz.pinned : Pinned := { name := "ytiknkhbngadaeaagreat", sum := "bf904d82b473700dde4e21893e7d085d1357fafd34107f0b6104861cd6d3925e", checked := Tryz.checked }
namespace Rows
def none {H : Type} : Left H := { results := [], args := [] }

/-- 'cloakroomlaw56.MtuTells': WHATEVER THE INPUT: true; the input reads as it did. -/
def mtuTellsSpec : ChangeSpec := { name := "mtuTells", fn := fun _ => fun
  | [d1, d2, d3, d4, d5, d6] => { results := [.lit (.bool true)], args := [d1, d2, d3, d4, d5, d6] }
  | _ => none }
def mtuTellsRow : OpenClaim := { program := "ytiknkhbngadaeaagreat", sum := "bf904d82b473700dde4e21893e7d085d1357fafd34107f0b6104861cd6d3925e", func := "cloakroom/cloakroomlaw56.MtuTells", spec := "mtuTells", inPlace := ["internal/abi.NoEscape"], unfollowed := true, recurses := true, apart := false }
def MtuTellsSaid : Prop := mtuTellsRow.holds Tryz.pinned (OpenSpec.ofChange mtuTellsSpec)

/-- ITS FALSE NEIGHBOUR: 'it returns false'. Refute it at one input. -/
def mtuTellsWrong : ChangeSpec := { name := "mtuTells", fn := fun _ => fun
  | [d1, d2, d3, d4, d5, d6] => { results := [.lit (.bool false)], args := [d1, d2, d3, d4, d5, d6] }
  | _ => none }
def MtuTellsWrongFalsely : Prop := mtuTellsRow.holds Tryz.pinned (OpenSpec.ofChange mtuTellsWrong)

/-- 'cloakroomlaw36.StampPacket': WHATEVER THE INPUT: true; the input reads as it did. -/
def stampPacketSpec : ChangeSpec := { name := "stampPacket", fn := fun _ => fun
  | [d1, d2, d3, d4] => { results := [.lit (.bool true)], args := [d1, d2, d3, d4] }
  | _ => none }
def stampPacketRow : OpenClaim := { program := "ytiknkhbngadaeaagreat", sum := "bf904d82b473700dde4e21893e7d085d1357fafd34107f0b6104861cd6d3925e", func := "cloakroom/cloakroomlaw36.StampPacket", spec := "stampPacket", inPlace := ["internal/abi.NoEscape"], unfollowed := true, recurses := true, apart := false }
def StampPacketSaid : Prop := stampPacketRow.holds Tryz.pinned (OpenSpec.ofChange stampPacketSpec)

/-- ITS FALSE NEIGHBOUR: 'it returns false'. Refute it at one input. -/
def stampPacketWrong : ChangeSpec := { name := "stampPacket", fn := fun _ => fun
  | [d1, d2, d3, d4] => { results := [.lit (.bool false)], args := [d1, d2, d3, d4] }
  | _ => none }
def StampPacketWrongFalsely : Prop := stampPacketRow.holds Tryz.pinned (OpenSpec.ofChange stampPacketWrong)

/- THE SECOND FORM. 'bulk': how many values and letters a reading holds, each counted each time it is reached (what is shared counts as often as it is met; a slice's spare places count too). A statement '..UptoSaid' is the law's where the arguments, and the package variables that the reading takes, are together of bulk at most 1048576: NARROWER than '..Said'. Prove '..Said' where nothing that the law and all that it calls make is longer than what came in: it says more and counts as full. Else prove '..UptoSaid'. A law counts once. -/
mutual
def uptoBulk {H : Type} : DataW H → Nat
  | .lit (.string bytes) => bytes.length + 1
  | .lit _ => 1
  | .nil => 1
  | .ptr d => uptoBulk d + 1
  | .slice elems spare => uptoBulkAll elems + uptoBulkAll spare + 1
  | .agg parts => uptoBulkAll parts + 1
  | .iface _ d => uptoBulk d + 1
  | .map entries => uptoBulkEntries entries + 1
  | .held _ => 1
def uptoBulkAll {H : Type} : List (DataW H) → Nat
  | [] => 0
  | d :: r => uptoBulk d + uptoBulkAll r
def uptoBulkEntries {H : Type} : List (Lit × DataW H) → Nat
  | [] => 0
  | x :: r => uptoBulkEntry x + uptoBulkEntries r
def uptoBulkEntry {H : Type} : Lit × DataW H → Nat
  | (.string bytes, d) => bytes.length + uptoBulk d + 1
  | (_, d) => uptoBulk d + 1
 end
def uptoSmall : (H : Type) → List (DataW H) → Bool := fun _ ds => decide (uptoBulkAll ds ≤ 1048576)
def OpenSpec.upto (s : _root_.Go.ChangeSpec) : _root_.Go.OpenSpec := { _root_.Go.OpenSpec.ofChange s with cond := some uptoSmall }

/-- 'cloakroomlaw56.MtuTells', WHERE WHAT IT READS IS OF BULK AT MOST 1048576: true; the input reads as it did. -/
def mtuTellsUptoRow : OpenClaim := { program := "ytiknkhbngadaeaagreat", sum := "bf904d82b473700dde4e21893e7d085d1357fafd34107f0b6104861cd6d3925e", func := "cloakroom/cloakroomlaw56.MtuTells", spec := "mtuTells", inPlace := ["internal/abi.NoEscape"], unfollowed := true, recurses := true, apart := false, narrowed := true }
def MtuTellsUptoSaid : Prop := mtuTellsUptoRow.holds Tryz.pinned (OpenSpec.upto mtuTellsSpec)

/-- 'cloakroomlaw36.StampPacket', WHERE WHAT IT READS IS OF BULK AT MOST 1048576: true; the input reads as it did. -/
def stampPacketUptoRow : OpenClaim := { program := "ytiknkhbngadaeaagreat", sum := "bf904d82b473700dde4e21893e7d085d1357fafd34107f0b6104861cd6d3925e", func := "cloakroom/cloakroomlaw36.StampPacket", spec := "stampPacket", inPlace := ["internal/abi.NoEscape"], unfollowed := true, recurses := true, apart := false, narrowed := true }
def StampPacketUptoSaid : Prop := stampPacketUptoRow.holds Tryz.pinned (OpenSpec.upto stampPacketSpec)

end Rows
end Go.Proofs.YtiknkhbngadaeaaGreat
