/-
  No cell of these rows narrows 'for every input' (looked for: loops, veiled, ifaces, maps, wideKeys, modest, calm, conditions, laid).
  DERIVED. THE GIVEN ROWS OF THIS SEAT. 12 by the template 'for every input the law returns true; each argument reads behind the call as it read before'; 0 by the template 'total and deterministic' (their statements: YtgkpojcckgbcjaaTotals.lean).
  GIVEN WITH THE SEED: the statements are not yours to turn. If you find one false, say at which input.
  Laid BY PROGRAM, IN A SANDBOX (cutbox-rows.mjs): the forced cells as the released guide's own fill.sh prints them over the translation 367b5db9df0bf556… (all of the seat's roots in one cut). By AI agents, Wed Nov 11 2026. No macro, syntax, notation, axiom, sorry.
-/
import Derived.Test.YtgkpojcckgbcjaaChecked
import GoSem.Claim
import GoSem.ClaimJoined
import GoSem.ClaimMapViews
import Derived.JoinedTies
import Derived.KernelRfl
namespace Go.Proofs.Ytgkpojcckgbcjaa
/- THE CELL 'sum', in the pinned program and in every row, IS THE sha256 OF THE DUMP (.gsa) THAT YtgkpojcckgbcjaaProg.lean LOADS. Nothing in Lean hashes anything: it is a label: what it is worth is what the hold of that sum in a sandbox is worth. -/
noncomputable def Try.pinned : Pinned := { name := "ytgkpojcckgbcjaa", sum := "367b5db9df0bf5566203d80892417061faf1a5bfb79f8582e58fc899ecb7043d", checked := Try.checked }
namespace Rows
def none {H : Type} : Left H := { results := [], args := [] }

/-- 'cloakroomlaw56.MtuLearns': WHATEVER THE INPUT: true; the input reads as it did. -/
def mtuLearnsSpec : ChangeSpec := { name := "mtuLearns", fn := fun _ => fun
  | [d1, d2] => { results := [.lit (.bool true)], args := [d1, d2] }
  | _ => none }
def mtuLearnsRow : OpenClaim := { program := "ytgkpojcckgbcjaa", sum := "367b5db9df0bf5566203d80892417061faf1a5bfb79f8582e58fc899ecb7043d", func := "cloakroom/cloakroomlaw56.MtuLearns", spec := "mtuLearns", apart := false }
def MtuLearnsSaid : Prop := mtuLearnsRow.holds Try.pinned (OpenSpec.ofChange mtuLearnsSpec)

/-- ITS FALSE NEIGHBOUR: 'it returns false'. Refute it at one input. -/
def mtuLearnsWrong : ChangeSpec := { name := "mtuLearns", fn := fun _ => fun
  | [d1, d2] => { results := [.lit (.bool false)], args := [d1, d2] }
  | _ => none }
def MtuLearnsWrongFalsely : Prop := mtuLearnsRow.holds Try.pinned (OpenSpec.ofChange mtuLearnsWrong)

/-- 'cloakroomlaw21.HealthTells': WHATEVER THE INPUT: true; the input reads as it did. -/
def healthTellsSpec : ChangeSpec := { name := "healthTells", fn := fun _ => fun
  | [d1, d2, d3] => { results := [.lit (.bool true)], args := [d1, d2, d3] }
  | _ => none }
def healthTellsRow : OpenClaim := { program := "ytgkpojcckgbcjaa", sum := "367b5db9df0bf5566203d80892417061faf1a5bfb79f8582e58fc899ecb7043d", func := "cloakroom/cloakroomlaw21.HealthTells", spec := "healthTells", unfollowed := true, recurses := true, apart := false }
def HealthTellsSaid : Prop := healthTellsRow.holds Try.pinned (OpenSpec.ofChange healthTellsSpec)

/-- ITS FALSE NEIGHBOUR: 'it returns false'. Refute it at one input. -/
def healthTellsWrong : ChangeSpec := { name := "healthTells", fn := fun _ => fun
  | [d1, d2, d3] => { results := [.lit (.bool false)], args := [d1, d2, d3] }
  | _ => none }
def HealthTellsWrongFalsely : Prop := healthTellsRow.holds Try.pinned (OpenSpec.ofChange healthTellsWrong)

/-- 'cloakroomlaw21.HealthTurns': WHATEVER THE INPUT: true; the input reads as it did. -/
def healthTurnsSpec : ChangeSpec := { name := "healthTurns", fn := fun _ => fun
  | [d1, d2, d3, d4] => { results := [.lit (.bool true)], args := [d1, d2, d3, d4] }
  | _ => none }
def healthTurnsRow : OpenClaim := { program := "ytgkpojcckgbcjaa", sum := "367b5db9df0bf5566203d80892417061faf1a5bfb79f8582e58fc899ecb7043d", func := "cloakroom/cloakroomlaw21.HealthTurns", spec := "healthTurns", unfollowed := true, recurses := true, apart := false }
def HealthTurnsSaid : Prop := healthTurnsRow.holds Try.pinned (OpenSpec.ofChange healthTurnsSpec)

/-- ITS FALSE NEIGHBOUR: 'it returns false'. Refute it at one input. -/
def healthTurnsWrong : ChangeSpec := { name := "healthTurns", fn := fun _ => fun
  | [d1, d2, d3, d4] => { results := [.lit (.bool false)], args := [d1, d2, d3, d4] }
  | _ => none }
def HealthTurnsWrongFalsely : Prop := healthTurnsRow.holds Try.pinned (OpenSpec.ofChange healthTurnsWrong)

/-- 'cloakroomlaw21.HealthTimes': WHATEVER THE INPUT: true; the input reads as it did. -/
def healthTimesSpec : ChangeSpec := { name := "healthTimes", fn := fun _ => fun
  | [d1, d2, d3, d4] => { results := [.lit (.bool true)], args := [d1, d2, d3, d4] }
  | _ => none }
def healthTimesRow : OpenClaim := { program := "ytgkpojcckgbcjaa", sum := "367b5db9df0bf5566203d80892417061faf1a5bfb79f8582e58fc899ecb7043d", func := "cloakroom/cloakroomlaw21.HealthTimes", spec := "healthTimes", unfollowed := true, recurses := true, apart := false }
def HealthTimesSaid : Prop := healthTimesRow.holds Try.pinned (OpenSpec.ofChange healthTimesSpec)

/-- ITS FALSE NEIGHBOUR: 'it returns false'. Refute it at one input. -/
def healthTimesWrong : ChangeSpec := { name := "healthTimes", fn := fun _ => fun
  | [d1, d2, d3, d4] => { results := [.lit (.bool false)], args := [d1, d2, d3, d4] }
  | _ => none }
def HealthTimesWrongFalsely : Prop := healthTimesRow.holds Try.pinned (OpenSpec.ofChange healthTimesWrong)

/-- 'cloakroomlaw03.CheckOrder': WHATEVER THE INPUT: true; the input reads as it did. -/
def checkOrderSpec : ChangeSpec := { name := "checkOrder", fn := fun _ => fun
  | [d1, d2] => { results := [.lit (.bool true)], args := [d1, d2] }
  | _ => none }
def checkOrderRow : OpenClaim := { program := "ytgkpojcckgbcjaa", sum := "367b5db9df0bf5566203d80892417061faf1a5bfb79f8582e58fc899ecb7043d", func := "cloakroom/cloakroomlaw03.CheckOrder", spec := "checkOrder", unfollowed := true, recurses := true, apart := false }
def CheckOrderSaid : Prop := checkOrderRow.holds Try.pinned (OpenSpec.ofChange checkOrderSpec)

/-- ITS FALSE NEIGHBOUR: 'it returns false'. Refute it at one input. -/
def checkOrderWrong : ChangeSpec := { name := "checkOrder", fn := fun _ => fun
  | [d1, d2] => { results := [.lit (.bool false)], args := [d1, d2] }
  | _ => none }
def CheckOrderWrongFalsely : Prop := checkOrderRow.holds Try.pinned (OpenSpec.ofChange checkOrderWrong)

/-- 'cloakroomlaw12.SipParts': WHATEVER THE INPUT: true; the input reads as it did. -/
def sipPartsSpec : ChangeSpec := { name := "sipParts", fn := fun _ => fun
  | [d1, d2] => { results := [.lit (.bool true)], args := [d1, d2] }
  | _ => none }
def sipPartsRow : OpenClaim := { program := "ytgkpojcckgbcjaa", sum := "367b5db9df0bf5566203d80892417061faf1a5bfb79f8582e58fc899ecb7043d", func := "cloakroom/cloakroomlaw12.SipParts", spec := "sipParts", apart := false }
def SipPartsSaid : Prop := sipPartsRow.holds Try.pinned (OpenSpec.ofChange sipPartsSpec)

/-- ITS FALSE NEIGHBOUR: 'it returns false'. Refute it at one input. -/
def sipPartsWrong : ChangeSpec := { name := "sipParts", fn := fun _ => fun
  | [d1, d2] => { results := [.lit (.bool false)], args := [d1, d2] }
  | _ => none }
def SipPartsWrongFalsely : Prop := sipPartsRow.holds Try.pinned (OpenSpec.ofChange sipPartsWrong)

/-- 'cloakroomlaw12.SipTells': WHATEVER THE INPUT: true; the input reads as it did. -/
def sipTellsSpec : ChangeSpec := { name := "sipTells", fn := fun _ => fun
  | [d1, d2, d3, d4, d5] => { results := [.lit (.bool true)], args := [d1, d2, d3, d4, d5] }
  | _ => none }
def sipTellsRow : OpenClaim := { program := "ytgkpojcckgbcjaa", sum := "367b5db9df0bf5566203d80892417061faf1a5bfb79f8582e58fc899ecb7043d", func := "cloakroom/cloakroomlaw12.SipTells", spec := "sipTells", apart := false }
def SipTellsSaid : Prop := sipTellsRow.holds Try.pinned (OpenSpec.ofChange sipTellsSpec)

/-- ITS FALSE NEIGHBOUR: 'it returns false'. Refute it at one input. -/
def sipTellsWrong : ChangeSpec := { name := "sipTells", fn := fun _ => fun
  | [d1, d2, d3, d4, d5] => { results := [.lit (.bool false)], args := [d1, d2, d3, d4, d5] }
  | _ => none }
def SipTellsWrongFalsely : Prop := sipTellsRow.holds Try.pinned (OpenSpec.ofChange sipTellsWrong)

/-- 'cloakroomlaw12.SipBack': WHATEVER THE INPUT: true; the input reads as it did. -/
def sipBackSpec : ChangeSpec := { name := "sipBack", fn := fun _ => fun
  | [d1, d2, d3, d4] => { results := [.lit (.bool true)], args := [d1, d2, d3, d4] }
  | _ => none }
def sipBackRow : OpenClaim := { program := "ytgkpojcckgbcjaa", sum := "367b5db9df0bf5566203d80892417061faf1a5bfb79f8582e58fc899ecb7043d", func := "cloakroom/cloakroomlaw12.SipBack", spec := "sipBack", apart := false }
def SipBackSaid : Prop := sipBackRow.holds Try.pinned (OpenSpec.ofChange sipBackSpec)

/-- ITS FALSE NEIGHBOUR: 'it returns false'. Refute it at one input. -/
def sipBackWrong : ChangeSpec := { name := "sipBack", fn := fun _ => fun
  | [d1, d2, d3, d4] => { results := [.lit (.bool false)], args := [d1, d2, d3, d4] }
  | _ => none }
def SipBackWrongFalsely : Prop := sipBackRow.holds Try.pinned (OpenSpec.ofChange sipBackWrong)

/-- 'cloakroomlaw03.CheckTells': WHATEVER THE INPUT: true; the input reads as it did. -/
def checkTellsSpec : ChangeSpec := { name := "checkTells", fn := fun _ => fun
  | [d1, d2, d3, d4, d5, d6, d7] => { results := [.lit (.bool true)], args := [d1, d2, d3, d4, d5, d6, d7] }
  | _ => none }
def checkTellsRow : OpenClaim := { program := "ytgkpojcckgbcjaa", sum := "367b5db9df0bf5566203d80892417061faf1a5bfb79f8582e58fc899ecb7043d", func := "cloakroom/cloakroomlaw03.CheckTells", spec := "checkTells", unfollowed := true, recurses := true, apart := false }
def CheckTellsSaid : Prop := checkTellsRow.holds Try.pinned (OpenSpec.ofChange checkTellsSpec)

/-- ITS FALSE NEIGHBOUR: 'it returns false'. Refute it at one input. -/
def checkTellsWrong : ChangeSpec := { name := "checkTells", fn := fun _ => fun
  | [d1, d2, d3, d4, d5, d6, d7] => { results := [.lit (.bool false)], args := [d1, d2, d3, d4, d5, d6, d7] }
  | _ => none }
def CheckTellsWrongFalsely : Prop := checkTellsRow.holds Try.pinned (OpenSpec.ofChange checkTellsWrong)

/-- 'cloakroomlaw03.CheckStays': WHATEVER THE INPUT: true; the input reads as it did. -/
def checkStaysSpec : ChangeSpec := { name := "checkStays", fn := fun _ => fun
  | [d1, d2, d3, d4, d5] => { results := [.lit (.bool true)], args := [d1, d2, d3, d4, d5] }
  | _ => none }
def checkStaysRow : OpenClaim := { program := "ytgkpojcckgbcjaa", sum := "367b5db9df0bf5566203d80892417061faf1a5bfb79f8582e58fc899ecb7043d", func := "cloakroom/cloakroomlaw03.CheckStays", spec := "checkStays", unfollowed := true, recurses := true, apart := false }
def CheckStaysSaid : Prop := checkStaysRow.holds Try.pinned (OpenSpec.ofChange checkStaysSpec)

/-- ITS FALSE NEIGHBOUR: 'it returns false'. Refute it at one input. -/
def checkStaysWrong : ChangeSpec := { name := "checkStays", fn := fun _ => fun
  | [d1, d2, d3, d4, d5] => { results := [.lit (.bool false)], args := [d1, d2, d3, d4, d5] }
  | _ => none }
def CheckStaysWrongFalsely : Prop := checkStaysRow.holds Try.pinned (OpenSpec.ofChange checkStaysWrong)

/-- 'cloakroomlaw06.IpsixTells': WHATEVER THE INPUT: true; the input reads as it did. -/
def ipsixTellsSpec : ChangeSpec := { name := "ipsixTells", fn := fun _ => fun
  | [d1, d2, d3] => { results := [.lit (.bool true)], args := [d1, d2, d3] }
  | _ => none }
def ipsixTellsRow : OpenClaim := { program := "ytgkpojcckgbcjaa", sum := "367b5db9df0bf5566203d80892417061faf1a5bfb79f8582e58fc899ecb7043d", func := "cloakroom/cloakroomlaw06.IpsixTells", spec := "ipsixTells", apart := false }
def IpsixTellsSaid : Prop := ipsixTellsRow.holds Try.pinned (OpenSpec.ofChange ipsixTellsSpec)

/-- ITS FALSE NEIGHBOUR: 'it returns false'. Refute it at one input. -/
def ipsixTellsWrong : ChangeSpec := { name := "ipsixTells", fn := fun _ => fun
  | [d1, d2, d3] => { results := [.lit (.bool false)], args := [d1, d2, d3] }
  | _ => none }
def IpsixTellsWrongFalsely : Prop := ipsixTellsRow.holds Try.pinned (OpenSpec.ofChange ipsixTellsWrong)

/-- 'cloakroomlaw06.IpsixBack': WHATEVER THE INPUT: true; the input reads as it did. -/
def ipsixBackSpec : ChangeSpec := { name := "ipsixBack", fn := fun _ => fun
  | [d1, d2, d3, d4, d5] => { results := [.lit (.bool true)], args := [d1, d2, d3, d4, d5] }
  | _ => none }
def ipsixBackRow : OpenClaim := { program := "ytgkpojcckgbcjaa", sum := "367b5db9df0bf5566203d80892417061faf1a5bfb79f8582e58fc899ecb7043d", func := "cloakroom/cloakroomlaw06.IpsixBack", spec := "ipsixBack", apart := false }
def IpsixBackSaid : Prop := ipsixBackRow.holds Try.pinned (OpenSpec.ofChange ipsixBackSpec)

/-- ITS FALSE NEIGHBOUR: 'it returns false'. Refute it at one input. -/
def ipsixBackWrong : ChangeSpec := { name := "ipsixBack", fn := fun _ => fun
  | [d1, d2, d3, d4, d5] => { results := [.lit (.bool false)], args := [d1, d2, d3, d4, d5] }
  | _ => none }
def IpsixBackWrongFalsely : Prop := ipsixBackRow.holds Try.pinned (OpenSpec.ofChange ipsixBackWrong)

/- THE SECOND FORM. 'bulk': how many values and letters a reading holds, each counted each time it is reached (what is shared counts as often as it is met; a slice's spare places count too). A statement '..UptoSaid' is the law's where the arguments, and the package variables that the reading takes, are together of bulk at most 1048576: NARROWER than '..Said'. Prove '..Said' where nothing that the law and all that it calls make is longer than what came in: it says more and counts as full. Else prove '..UptoSaid'. A law counts once. -/
mutual
def uptoBulk {H : Type} : DataW H → Nat
  | .lit (.string bytes) => bytes.length + 1
  | .lit _ => 1
  | .nil => 1
  | .ptr d => uptoBulk d + 1
  | .slice elems spare => uptoBulkAll elems + uptoBulkAll spare + 1
  | .agg parts => uptoBulkAll parts + 1
  | .iface _ d => uptoBulk d + 1
  | .map entries => uptoBulkEntries entries + 1
  | .held _ => 1
def uptoBulkAll {H : Type} : List (DataW H) → Nat
  | [] => 0
  | d :: r => uptoBulk d + uptoBulkAll r
def uptoBulkEntries {H : Type} : List (Lit × DataW H) → Nat
  | [] => 0
  | x :: r => uptoBulkEntry x + uptoBulkEntries r
def uptoBulkEntry {H : Type} : Lit × DataW H → Nat
  | (.string bytes, d) => bytes.length + uptoBulk d + 1
  | (_, d) => uptoBulk d + 1
 end
def uptoSmall : (H : Type) → List (DataW H) → Bool := fun _ ds => decide (uptoBulkAll ds ≤ 1048576)
def OpenSpec.upto (s : _root_.Go.ChangeSpec) : _root_.Go.OpenSpec := { _root_.Go.OpenSpec.ofChange s with cond := some uptoSmall }

/-- 'cloakroomlaw56.MtuLearns', WHERE WHAT IT READS IS OF BULK AT MOST 1048576: true; the input reads as it did. -/
def mtuLearnsUptoRow : OpenClaim := { program := "ytgkpojcckgbcjaa", sum := "367b5db9df0bf5566203d80892417061faf1a5bfb79f8582e58fc899ecb7043d", func := "cloakroom/cloakroomlaw56.MtuLearns", spec := "mtuLearns", apart := false, narrowed := true }
def MtuLearnsUptoSaid : Prop := mtuLearnsUptoRow.holds Try.pinned (OpenSpec.upto mtuLearnsSpec)

/-- 'cloakroomlaw21.HealthTells', WHERE WHAT IT READS IS OF BULK AT MOST 1048576: true; the input reads as it did. -/
def healthTellsUptoRow : OpenClaim := { program := "ytgkpojcckgbcjaa", sum := "367b5db9df0bf5566203d80892417061faf1a5bfb79f8582e58fc899ecb7043d", func := "cloakroom/cloakroomlaw21.HealthTells", spec := "healthTells", unfollowed := true, recurses := true, apart := false, narrowed := true }
def HealthTellsUptoSaid : Prop := healthTellsUptoRow.holds Try.pinned (OpenSpec.upto healthTellsSpec)

/-- 'cloakroomlaw21.HealthTurns', WHERE WHAT IT READS IS OF BULK AT MOST 1048576: true; the input reads as it did. -/
def healthTurnsUptoRow : OpenClaim := { program := "ytgkpojcckgbcjaa", sum := "367b5db9df0bf5566203d80892417061faf1a5bfb79f8582e58fc899ecb7043d", func := "cloakroom/cloakroomlaw21.HealthTurns", spec := "healthTurns", unfollowed := true, recurses := true, apart := false, narrowed := true }
def HealthTurnsUptoSaid : Prop := healthTurnsUptoRow.holds Try.pinned (OpenSpec.upto healthTurnsSpec)

/-- 'cloakroomlaw21.HealthTimes', WHERE WHAT IT READS IS OF BULK AT MOST 1048576: true; the input reads as it did. -/
def healthTimesUptoRow : OpenClaim := { program := "ytgkpojcckgbcjaa", sum := "367b5db9df0bf5566203d80892417061faf1a5bfb79f8582e58fc899ecb7043d", func := "cloakroom/cloakroomlaw21.HealthTimes", spec := "healthTimes", unfollowed := true, recurses := true, apart := false, narrowed := true }
def HealthTimesUptoSaid : Prop := healthTimesUptoRow.holds Try.pinned (OpenSpec.upto healthTimesSpec)

/-- 'cloakroomlaw03.CheckOrder', WHERE WHAT IT READS IS OF BULK AT MOST 1048576: true; the input reads as it did. -/
def checkOrderUptoRow : OpenClaim := { program := "ytgkpojcckgbcjaa", sum := "367b5db9df0bf5566203d80892417061faf1a5bfb79f8582e58fc899ecb7043d", func := "cloakroom/cloakroomlaw03.CheckOrder", spec := "checkOrder", unfollowed := true, recurses := true, apart := false, narrowed := true }
def CheckOrderUptoSaid : Prop := checkOrderUptoRow.holds Try.pinned (OpenSpec.upto checkOrderSpec)

/-- 'cloakroomlaw12.SipParts', WHERE WHAT IT READS IS OF BULK AT MOST 1048576: true; the input reads as it did. -/
def sipPartsUptoRow : OpenClaim := { program := "ytgkpojcckgbcjaa", sum := "367b5db9df0bf5566203d80892417061faf1a5bfb79f8582e58fc899ecb7043d", func := "cloakroom/cloakroomlaw12.SipParts", spec := "sipParts", apart := false, narrowed := true }
def SipPartsUptoSaid : Prop := sipPartsUptoRow.holds Try.pinned (OpenSpec.upto sipPartsSpec)

/-- 'cloakroomlaw12.SipTells', WHERE WHAT IT READS IS OF BULK AT MOST 1048576: true; the input reads as it did. -/
def sipTellsUptoRow : OpenClaim := { program := "ytgkpojcckgbcjaa", sum := "367b5db9df0bf5566203d80892417061faf1a5bfb79f8582e58fc899ecb7043d", func := "cloakroom/cloakroomlaw12.SipTells", spec := "sipTells", apart := false, narrowed := true }
def SipTellsUptoSaid : Prop := sipTellsUptoRow.holds Try.pinned (OpenSpec.upto sipTellsSpec)

/-- 'cloakroomlaw12.SipBack', WHERE WHAT IT READS IS OF BULK AT MOST 1048576: true; the input reads as it did. -/
def sipBackUptoRow : OpenClaim := { program := "ytgkpojcckgbcjaa", sum := "367b5db9df0bf5566203d80892417061faf1a5bfb79f8582e58fc899ecb7043d", func := "cloakroom/cloakroomlaw12.SipBack", spec := "sipBack", apart := false, narrowed := true }
def SipBackUptoSaid : Prop := sipBackUptoRow.holds Try.pinned (OpenSpec.upto sipBackSpec)

/-- 'cloakroomlaw03.CheckTells', WHERE WHAT IT READS IS OF BULK AT MOST 1048576: true; the input reads as it did. -/
def checkTellsUptoRow : OpenClaim := { program := "ytgkpojcckgbcjaa", sum := "367b5db9df0bf5566203d80892417061faf1a5bfb79f8582e58fc899ecb7043d", func := "cloakroom/cloakroomlaw03.CheckTells", spec := "checkTells", unfollowed := true, recurses := true, apart := false, narrowed := true }
def CheckTellsUptoSaid : Prop := checkTellsUptoRow.holds Try.pinned (OpenSpec.upto checkTellsSpec)

/-- 'cloakroomlaw03.CheckStays', WHERE WHAT IT READS IS OF BULK AT MOST 1048576: true; the input reads as it did. -/
def checkStaysUptoRow : OpenClaim := { program := "ytgkpojcckgbcjaa", sum := "367b5db9df0bf5566203d80892417061faf1a5bfb79f8582e58fc899ecb7043d", func := "cloakroom/cloakroomlaw03.CheckStays", spec := "checkStays", unfollowed := true, recurses := true, apart := false, narrowed := true }
def CheckStaysUptoSaid : Prop := checkStaysUptoRow.holds Try.pinned (OpenSpec.upto checkStaysSpec)

/-- 'cloakroomlaw06.IpsixTells', WHERE WHAT IT READS IS OF BULK AT MOST 1048576: true; the input reads as it did. -/
def ipsixTellsUptoRow : OpenClaim := { program := "ytgkpojcckgbcjaa", sum := "367b5db9df0bf5566203d80892417061faf1a5bfb79f8582e58fc899ecb7043d", func := "cloakroom/cloakroomlaw06.IpsixTells", spec := "ipsixTells", apart := false, narrowed := true }
def IpsixTellsUptoSaid : Prop := ipsixTellsUptoRow.holds Try.pinned (OpenSpec.upto ipsixTellsSpec)

/-- 'cloakroomlaw06.IpsixBack', WHERE WHAT IT READS IS OF BULK AT MOST 1048576: true; the input reads as it did. -/
def ipsixBackUptoRow : OpenClaim := { program := "ytgkpojcckgbcjaa", sum := "367b5db9df0bf5566203d80892417061faf1a5bfb79f8582e58fc899ecb7043d", func := "cloakroom/cloakroomlaw06.IpsixBack", spec := "ipsixBack", apart := false, narrowed := true }
def IpsixBackUptoSaid : Prop := ipsixBackUptoRow.holds Try.pinned (OpenSpec.upto ipsixBackSpec)

end Rows
end Go.Proofs.Ytgkpojcckgbcjaa
