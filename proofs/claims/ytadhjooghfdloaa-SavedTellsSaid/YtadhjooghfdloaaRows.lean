/-
  No cell of these rows narrows 'for every input' (looked for: loops, veiled, ifaces, maps, wideKeys, modest, calm, conditions, laid).
  DERIVED. THE GIVEN ROWS OF THIS SEAT. 12 by the template 'for every input the law returns true; each argument reads behind the call as it read before'; 0 by the template 'total and deterministic' (their statements: YtadhjooghfdloaaTotals.lean).
  GIVEN WITH THE SEED: the statements are not yours to turn. If you find one false, say at which input.
  Laid BY PROGRAM, IN A SANDBOX (cutbox-rows.mjs): the forced cells as the released guide's own fill.sh prints them over the translation 74b789f6ed9228c2… (all of the seat's roots in one cut). By AI agents, Wed Nov 11 2026. No macro, syntax, notation, axiom, sorry.
-/
import Derived.Test.YtadhjooghfdloaaChecked
import GoSem.Claim
import GoSem.ClaimJoined
import GoSem.ClaimMapViews
import Derived.JoinedTies
import Derived.KernelRfl
namespace Go.Proofs.Ytadhjooghfdloaa
/- THE CELL 'sum', in the pinned program and in every row, IS THE sha256 OF THE DUMP (.gsa) THAT YtadhjooghfdloaaProg.lean LOADS. Nothing in Lean hashes anything: it is a label: what it is worth is what the hold of that sum in a sandbox is worth. -/
noncomputable def Try.pinned : Pinned := { name := "ytadhjooghfdloaa", sum := "74b789f6ed9228c207f633a4fe3954459e3cf5a1810fc57eefc324b375f6106b", checked := Try.checked }
namespace Rows
def none {H : Type} : Left H := { results := [], args := [] }

/-- 'cloakroomlaw23.RegistryPlays': WHATEVER THE INPUT: true; the input reads as it did. -/
def registryPlaysSpec : ChangeSpec := { name := "registryPlays", fn := fun _ => fun
  | [d1, d2] => { results := [.lit (.bool true)], args := [d1, d2] }
  | _ => none }
def registryPlaysRow : OpenClaim := { program := "ytadhjooghfdloaa", sum := "74b789f6ed9228c207f633a4fe3954459e3cf5a1810fc57eefc324b375f6106b", func := "cloakroom/cloakroomlaw23.RegistryPlays", spec := "registryPlays", unfollowed := true, recurses := true, apart := false }
def RegistryPlaysSaid : Prop := registryPlaysRow.holds Try.pinned (OpenSpec.ofChange registryPlaysSpec)

/-- ITS FALSE NEIGHBOUR: 'it returns false'. Refute it at one input. -/
def registryPlaysWrong : ChangeSpec := { name := "registryPlays", fn := fun _ => fun
  | [d1, d2] => { results := [.lit (.bool false)], args := [d1, d2] }
  | _ => none }
def RegistryPlaysWrongFalsely : Prop := registryPlaysRow.holds Try.pinned (OpenSpec.ofChange registryPlaysWrong)

/-- 'cloakroomlaw23.RegistryOnce': WHATEVER THE INPUT: true; the input reads as it did. -/
def registryOnceSpec : ChangeSpec := { name := "registryOnce", fn := fun _ => fun
  | [d1, d2] => { results := [.lit (.bool true)], args := [d1, d2] }
  | _ => none }
def registryOnceRow : OpenClaim := { program := "ytadhjooghfdloaa", sum := "74b789f6ed9228c207f633a4fe3954459e3cf5a1810fc57eefc324b375f6106b", func := "cloakroom/cloakroomlaw23.RegistryOnce", spec := "registryOnce", unfollowed := true, recurses := true, apart := false }
def RegistryOnceSaid : Prop := registryOnceRow.holds Try.pinned (OpenSpec.ofChange registryOnceSpec)

/-- ITS FALSE NEIGHBOUR: 'it returns false'. Refute it at one input. -/
def registryOnceWrong : ChangeSpec := { name := "registryOnce", fn := fun _ => fun
  | [d1, d2] => { results := [.lit (.bool false)], args := [d1, d2] }
  | _ => none }
def RegistryOnceWrongFalsely : Prop := registryOnceRow.holds Try.pinned (OpenSpec.ofChange registryOnceWrong)

/-- 'cloakroomlaw23.RegistryOthers': WHATEVER THE INPUT: true; the input reads as it did. -/
def registryOthersSpec : ChangeSpec := { name := "registryOthers", fn := fun _ => fun
  | [d1, d2] => { results := [.lit (.bool true)], args := [d1, d2] }
  | _ => none }
def registryOthersRow : OpenClaim := { program := "ytadhjooghfdloaa", sum := "74b789f6ed9228c207f633a4fe3954459e3cf5a1810fc57eefc324b375f6106b", func := "cloakroom/cloakroomlaw23.RegistryOthers", spec := "registryOthers", unfollowed := true, recurses := true, apart := false }
def RegistryOthersSaid : Prop := registryOthersRow.holds Try.pinned (OpenSpec.ofChange registryOthersSpec)

/-- ITS FALSE NEIGHBOUR: 'it returns false'. Refute it at one input. -/
def registryOthersWrong : ChangeSpec := { name := "registryOthers", fn := fun _ => fun
  | [d1, d2] => { results := [.lit (.bool false)], args := [d1, d2] }
  | _ => none }
def RegistryOthersWrongFalsely : Prop := registryOthersRow.holds Try.pinned (OpenSpec.ofChange registryOthersWrong)

/-- 'cloakroomlaw54.RekeyPlays': WHATEVER THE INPUT: true; the input reads as it did. -/
def rekeyPlaysSpec : ChangeSpec := { name := "rekeyPlays", fn := fun _ => fun
  | [d1, d2] => { results := [.lit (.bool true)], args := [d1, d2] }
  | _ => none }
def rekeyPlaysRow : OpenClaim := { program := "ytadhjooghfdloaa", sum := "74b789f6ed9228c207f633a4fe3954459e3cf5a1810fc57eefc324b375f6106b", func := "cloakroom/cloakroomlaw54.RekeyPlays", spec := "rekeyPlays", apart := false }
def RekeyPlaysSaid : Prop := rekeyPlaysRow.holds Try.pinned (OpenSpec.ofChange rekeyPlaysSpec)

/-- ITS FALSE NEIGHBOUR: 'it returns false'. Refute it at one input. -/
def rekeyPlaysWrong : ChangeSpec := { name := "rekeyPlays", fn := fun _ => fun
  | [d1, d2] => { results := [.lit (.bool false)], args := [d1, d2] }
  | _ => none }
def RekeyPlaysWrongFalsely : Prop := rekeyPlaysRow.holds Try.pinned (OpenSpec.ofChange rekeyPlaysWrong)

/-- 'cloakroomlaw54.RekeyOpens': WHATEVER THE INPUT: true; the input reads as it did. -/
def rekeyOpensSpec : ChangeSpec := { name := "rekeyOpens", fn := fun _ => fun
  | [d1, d2, d3, d4, d5] => { results := [.lit (.bool true)], args := [d1, d2, d3, d4, d5] }
  | _ => none }
def rekeyOpensRow : OpenClaim := { program := "ytadhjooghfdloaa", sum := "74b789f6ed9228c207f633a4fe3954459e3cf5a1810fc57eefc324b375f6106b", func := "cloakroom/cloakroomlaw54.RekeyOpens", spec := "rekeyOpens", apart := false }
def RekeyOpensSaid : Prop := rekeyOpensRow.holds Try.pinned (OpenSpec.ofChange rekeyOpensSpec)

/-- ITS FALSE NEIGHBOUR: 'it returns false'. Refute it at one input. -/
def rekeyOpensWrong : ChangeSpec := { name := "rekeyOpens", fn := fun _ => fun
  | [d1, d2, d3, d4, d5] => { results := [.lit (.bool false)], args := [d1, d2, d3, d4, d5] }
  | _ => none }
def RekeyOpensWrongFalsely : Prop := rekeyOpensRow.holds Try.pinned (OpenSpec.ofChange rekeyOpensWrong)

/-- 'cloakroomlaw55.SavedSealed': WHATEVER THE INPUT: true; the input reads as it did. -/
def savedSealedSpec : ChangeSpec := { name := "savedSealed", fn := fun _ => fun
  | [d] => { results := [.lit (.bool true)], args := [d] }
  | _ => none }
def savedSealedRow : OpenClaim := { program := "ytadhjooghfdloaa", sum := "74b789f6ed9228c207f633a4fe3954459e3cf5a1810fc57eefc324b375f6106b", func := "cloakroom/cloakroomlaw55.SavedSealed", spec := "savedSealed", unfollowed := true, recurses := true, apart := false }
def SavedSealedSaid : Prop := savedSealedRow.holds Try.pinned (OpenSpec.ofChange savedSealedSpec)

/-- ITS FALSE NEIGHBOUR: 'it returns false'. Refute it at one input. -/
def savedSealedWrong : ChangeSpec := { name := "savedSealed", fn := fun _ => fun
  | [d] => { results := [.lit (.bool false)], args := [d] }
  | _ => none }
def SavedSealedWrongFalsely : Prop := savedSealedRow.holds Try.pinned (OpenSpec.ofChange savedSealedWrong)

/-- 'cloakroomlaw55.SavedTells': WHATEVER THE INPUT: true; the input reads as it did. -/
def savedTellsSpec : ChangeSpec := { name := "savedTells", fn := fun _ => fun
  | [d1, d2, d3] => { results := [.lit (.bool true)], args := [d1, d2, d3] }
  | _ => none }
def savedTellsRow : OpenClaim := { program := "ytadhjooghfdloaa", sum := "74b789f6ed9228c207f633a4fe3954459e3cf5a1810fc57eefc324b375f6106b", func := "cloakroom/cloakroomlaw55.SavedTells", spec := "savedTells", unfollowed := true, recurses := true, apart := false }
def SavedTellsSaid : Prop := savedTellsRow.holds Try.pinned (OpenSpec.ofChange savedTellsSpec)

/-- ITS FALSE NEIGHBOUR: 'it returns false'. Refute it at one input. -/
def savedTellsWrong : ChangeSpec := { name := "savedTells", fn := fun _ => fun
  | [d1, d2, d3] => { results := [.lit (.bool false)], args := [d1, d2, d3] }
  | _ => none }
def SavedTellsWrongFalsely : Prop := savedTellsRow.holds Try.pinned (OpenSpec.ofChange savedTellsWrong)

/-- 'cloakroomlaw55.SavedBack': WHATEVER THE INPUT: true; the input reads as it did. -/
def savedBackSpec : ChangeSpec := { name := "savedBack", fn := fun _ => fun
  | [d1, d2] => { results := [.lit (.bool true)], args := [d1, d2] }
  | _ => none }
def savedBackRow : OpenClaim := { program := "ytadhjooghfdloaa", sum := "74b789f6ed9228c207f633a4fe3954459e3cf5a1810fc57eefc324b375f6106b", func := "cloakroom/cloakroomlaw55.SavedBack", spec := "savedBack", unfollowed := true, recurses := true, apart := false }
def SavedBackSaid : Prop := savedBackRow.holds Try.pinned (OpenSpec.ofChange savedBackSpec)

/-- ITS FALSE NEIGHBOUR: 'it returns false'. Refute it at one input. -/
def savedBackWrong : ChangeSpec := { name := "savedBack", fn := fun _ => fun
  | [d1, d2] => { results := [.lit (.bool false)], args := [d1, d2] }
  | _ => none }
def SavedBackWrongFalsely : Prop := savedBackRow.holds Try.pinned (OpenSpec.ofChange savedBackWrong)

/-- 'cloakroomlaw55.SavedKeeps': WHATEVER THE INPUT: true; the input reads as it did. -/
def savedKeepsSpec : ChangeSpec := { name := "savedKeeps", fn := fun _ => fun
  | [d1, d2] => { results := [.lit (.bool true)], args := [d1, d2] }
  | _ => none }
def savedKeepsRow : OpenClaim := { program := "ytadhjooghfdloaa", sum := "74b789f6ed9228c207f633a4fe3954459e3cf5a1810fc57eefc324b375f6106b", func := "cloakroom/cloakroomlaw55.SavedKeeps", spec := "savedKeeps", unfollowed := true, recurses := true, apart := false }
def SavedKeepsSaid : Prop := savedKeepsRow.holds Try.pinned (OpenSpec.ofChange savedKeepsSpec)

/-- ITS FALSE NEIGHBOUR: 'it returns false'. Refute it at one input. -/
def savedKeepsWrong : ChangeSpec := { name := "savedKeeps", fn := fun _ => fun
  | [d1, d2] => { results := [.lit (.bool false)], args := [d1, d2] }
  | _ => none }
def SavedKeepsWrongFalsely : Prop := savedKeepsRow.holds Try.pinned (OpenSpec.ofChange savedKeepsWrong)

/-- 'cloakroomlaw32.StatelessTells': WHATEVER THE INPUT: true; the input reads as it did. -/
def statelessTellsSpec : ChangeSpec := { name := "statelessTells", fn := fun _ => fun
  | [d1, d2, d3, d4, d5, d6] => { results := [.lit (.bool true)], args := [d1, d2, d3, d4, d5, d6] }
  | _ => none }
def statelessTellsRow : OpenClaim := { program := "ytadhjooghfdloaa", sum := "74b789f6ed9228c207f633a4fe3954459e3cf5a1810fc57eefc324b375f6106b", func := "cloakroom/cloakroomlaw32.StatelessTells", spec := "statelessTells", unfollowed := true, recurses := true, apart := false }
def StatelessTellsSaid : Prop := statelessTellsRow.holds Try.pinned (OpenSpec.ofChange statelessTellsSpec)

/-- ITS FALSE NEIGHBOUR: 'it returns false'. Refute it at one input. -/
def statelessTellsWrong : ChangeSpec := { name := "statelessTells", fn := fun _ => fun
  | [d1, d2, d3, d4, d5, d6] => { results := [.lit (.bool false)], args := [d1, d2, d3, d4, d5, d6] }
  | _ => none }
def StatelessTellsWrongFalsely : Prop := statelessTellsRow.holds Try.pinned (OpenSpec.ofChange statelessTellsWrong)

/-- 'cloakroomlaw32.StatelessForged': WHATEVER THE INPUT: true; the input reads as it did. -/
def statelessForgedSpec : ChangeSpec := { name := "statelessForged", fn := fun _ => fun
  | [d1, d2, d3, d4, d5] => { results := [.lit (.bool true)], args := [d1, d2, d3, d4, d5] }
  | _ => none }
def statelessForgedRow : OpenClaim := { program := "ytadhjooghfdloaa", sum := "74b789f6ed9228c207f633a4fe3954459e3cf5a1810fc57eefc324b375f6106b", func := "cloakroom/cloakroomlaw32.StatelessForged", spec := "statelessForged", unfollowed := true, recurses := true, apart := false }
def StatelessForgedSaid : Prop := statelessForgedRow.holds Try.pinned (OpenSpec.ofChange statelessForgedSpec)

/-- ITS FALSE NEIGHBOUR: 'it returns false'. Refute it at one input. -/
def statelessForgedWrong : ChangeSpec := { name := "statelessForged", fn := fun _ => fun
  | [d1, d2, d3, d4, d5] => { results := [.lit (.bool false)], args := [d1, d2, d3, d4, d5] }
  | _ => none }
def StatelessForgedWrongFalsely : Prop := statelessForgedRow.holds Try.pinned (OpenSpec.ofChange statelessForgedWrong)

/-- 'cloakroomlaw32.StatelessBack': WHATEVER THE INPUT: true; the input reads as it did. -/
def statelessBackSpec : ChangeSpec := { name := "statelessBack", fn := fun _ => fun
  | [d1, d2, d3, d4, d5] => { results := [.lit (.bool true)], args := [d1, d2, d3, d4, d5] }
  | _ => none }
def statelessBackRow : OpenClaim := { program := "ytadhjooghfdloaa", sum := "74b789f6ed9228c207f633a4fe3954459e3cf5a1810fc57eefc324b375f6106b", func := "cloakroom/cloakroomlaw32.StatelessBack", spec := "statelessBack", unfollowed := true, recurses := true, apart := false }
def StatelessBackSaid : Prop := statelessBackRow.holds Try.pinned (OpenSpec.ofChange statelessBackSpec)

/-- ITS FALSE NEIGHBOUR: 'it returns false'. Refute it at one input. -/
def statelessBackWrong : ChangeSpec := { name := "statelessBack", fn := fun _ => fun
  | [d1, d2, d3, d4, d5] => { results := [.lit (.bool false)], args := [d1, d2, d3, d4, d5] }
  | _ => none }
def StatelessBackWrongFalsely : Prop := statelessBackRow.holds Try.pinned (OpenSpec.ofChange statelessBackWrong)

/- THE SECOND FORM. 'bulk': how many values and letters a reading holds, each counted each time it is reached (what is shared counts as often as it is met; a slice's spare places count too). A statement '..UptoSaid' is the law's where the arguments, and the package variables that the reading takes, are together of bulk at most 1048576: NARROWER than '..Said'. Prove '..Said' where nothing that the law and all that it calls make is longer than what came in: it says more and counts as full. Else prove '..UptoSaid'. A law counts once. -/
mutual
def uptoBulk {H : Type} : DataW H → Nat
  | .lit (.string bytes) => bytes.length + 1
  | .lit _ => 1
  | .nil => 1
  | .ptr d => uptoBulk d + 1
  | .slice elems spare => uptoBulkAll elems + uptoBulkAll spare + 1
  | .agg parts => uptoBulkAll parts + 1
  | .iface _ d => uptoBulk d + 1
  | .map entries => uptoBulkEntries entries + 1
  | .held _ => 1
def uptoBulkAll {H : Type} : List (DataW H) → Nat
  | [] => 0
  | d :: r => uptoBulk d + uptoBulkAll r
def uptoBulkEntries {H : Type} : List (Lit × DataW H) → Nat
  | [] => 0
  | x :: r => uptoBulkEntry x + uptoBulkEntries r
def uptoBulkEntry {H : Type} : Lit × DataW H → Nat
  | (.string bytes, d) => bytes.length + uptoBulk d + 1
  | (_, d) => uptoBulk d + 1
 end
def uptoSmall : (H : Type) → List (DataW H) → Bool := fun _ ds => decide (uptoBulkAll ds ≤ 1048576)
def OpenSpec.upto (s : _root_.Go.ChangeSpec) : _root_.Go.OpenSpec := { _root_.Go.OpenSpec.ofChange s with cond := some uptoSmall }

/-- 'cloakroomlaw23.RegistryPlays', WHERE WHAT IT READS IS OF BULK AT MOST 1048576: true; the input reads as it did. -/
def registryPlaysUptoRow : OpenClaim := { program := "ytadhjooghfdloaa", sum := "74b789f6ed9228c207f633a4fe3954459e3cf5a1810fc57eefc324b375f6106b", func := "cloakroom/cloakroomlaw23.RegistryPlays", spec := "registryPlays", unfollowed := true, recurses := true, apart := false, narrowed := true }
def RegistryPlaysUptoSaid : Prop := registryPlaysUptoRow.holds Try.pinned (OpenSpec.upto registryPlaysSpec)

/-- 'cloakroomlaw23.RegistryOnce', WHERE WHAT IT READS IS OF BULK AT MOST 1048576: true; the input reads as it did. -/
def registryOnceUptoRow : OpenClaim := { program := "ytadhjooghfdloaa", sum := "74b789f6ed9228c207f633a4fe3954459e3cf5a1810fc57eefc324b375f6106b", func := "cloakroom/cloakroomlaw23.RegistryOnce", spec := "registryOnce", unfollowed := true, recurses := true, apart := false, narrowed := true }
def RegistryOnceUptoSaid : Prop := registryOnceUptoRow.holds Try.pinned (OpenSpec.upto registryOnceSpec)

/-- 'cloakroomlaw23.RegistryOthers', WHERE WHAT IT READS IS OF BULK AT MOST 1048576: true; the input reads as it did. -/
def registryOthersUptoRow : OpenClaim := { program := "ytadhjooghfdloaa", sum := "74b789f6ed9228c207f633a4fe3954459e3cf5a1810fc57eefc324b375f6106b", func := "cloakroom/cloakroomlaw23.RegistryOthers", spec := "registryOthers", unfollowed := true, recurses := true, apart := false, narrowed := true }
def RegistryOthersUptoSaid : Prop := registryOthersUptoRow.holds Try.pinned (OpenSpec.upto registryOthersSpec)

/-- 'cloakroomlaw54.RekeyPlays', WHERE WHAT IT READS IS OF BULK AT MOST 1048576: true; the input reads as it did. -/
def rekeyPlaysUptoRow : OpenClaim := { program := "ytadhjooghfdloaa", sum := "74b789f6ed9228c207f633a4fe3954459e3cf5a1810fc57eefc324b375f6106b", func := "cloakroom/cloakroomlaw54.RekeyPlays", spec := "rekeyPlays", apart := false, narrowed := true }
def RekeyPlaysUptoSaid : Prop := rekeyPlaysUptoRow.holds Try.pinned (OpenSpec.upto rekeyPlaysSpec)

/-- 'cloakroomlaw54.RekeyOpens', WHERE WHAT IT READS IS OF BULK AT MOST 1048576: true; the input reads as it did. -/
def rekeyOpensUptoRow : OpenClaim := { program := "ytadhjooghfdloaa", sum := "74b789f6ed9228c207f633a4fe3954459e3cf5a1810fc57eefc324b375f6106b", func := "cloakroom/cloakroomlaw54.RekeyOpens", spec := "rekeyOpens", apart := false, narrowed := true }
def RekeyOpensUptoSaid : Prop := rekeyOpensUptoRow.holds Try.pinned (OpenSpec.upto rekeyOpensSpec)

/-- 'cloakroomlaw55.SavedSealed', WHERE WHAT IT READS IS OF BULK AT MOST 1048576: true; the input reads as it did. -/
def savedSealedUptoRow : OpenClaim := { program := "ytadhjooghfdloaa", sum := "74b789f6ed9228c207f633a4fe3954459e3cf5a1810fc57eefc324b375f6106b", func := "cloakroom/cloakroomlaw55.SavedSealed", spec := "savedSealed", unfollowed := true, recurses := true, apart := false, narrowed := true }
def SavedSealedUptoSaid : Prop := savedSealedUptoRow.holds Try.pinned (OpenSpec.upto savedSealedSpec)

/-- 'cloakroomlaw55.SavedTells', WHERE WHAT IT READS IS OF BULK AT MOST 1048576: true; the input reads as it did. -/
def savedTellsUptoRow : OpenClaim := { program := "ytadhjooghfdloaa", sum := "74b789f6ed9228c207f633a4fe3954459e3cf5a1810fc57eefc324b375f6106b", func := "cloakroom/cloakroomlaw55.SavedTells", spec := "savedTells", unfollowed := true, recurses := true, apart := false, narrowed := true }
def SavedTellsUptoSaid : Prop := savedTellsUptoRow.holds Try.pinned (OpenSpec.upto savedTellsSpec)

/-- 'cloakroomlaw55.SavedBack', WHERE WHAT IT READS IS OF BULK AT MOST 1048576: true; the input reads as it did. -/
def savedBackUptoRow : OpenClaim := { program := "ytadhjooghfdloaa", sum := "74b789f6ed9228c207f633a4fe3954459e3cf5a1810fc57eefc324b375f6106b", func := "cloakroom/cloakroomlaw55.SavedBack", spec := "savedBack", unfollowed := true, recurses := true, apart := false, narrowed := true }
def SavedBackUptoSaid : Prop := savedBackUptoRow.holds Try.pinned (OpenSpec.upto savedBackSpec)

/-- 'cloakroomlaw55.SavedKeeps', WHERE WHAT IT READS IS OF BULK AT MOST 1048576: true; the input reads as it did. -/
def savedKeepsUptoRow : OpenClaim := { program := "ytadhjooghfdloaa", sum := "74b789f6ed9228c207f633a4fe3954459e3cf5a1810fc57eefc324b375f6106b", func := "cloakroom/cloakroomlaw55.SavedKeeps", spec := "savedKeeps", unfollowed := true, recurses := true, apart := false, narrowed := true }
def SavedKeepsUptoSaid : Prop := savedKeepsUptoRow.holds Try.pinned (OpenSpec.upto savedKeepsSpec)

/-- 'cloakroomlaw32.StatelessTells', WHERE WHAT IT READS IS OF BULK AT MOST 1048576: true; the input reads as it did. -/
def statelessTellsUptoRow : OpenClaim := { program := "ytadhjooghfdloaa", sum := "74b789f6ed9228c207f633a4fe3954459e3cf5a1810fc57eefc324b375f6106b", func := "cloakroom/cloakroomlaw32.StatelessTells", spec := "statelessTells", unfollowed := true, recurses := true, apart := false, narrowed := true }
def StatelessTellsUptoSaid : Prop := statelessTellsUptoRow.holds Try.pinned (OpenSpec.upto statelessTellsSpec)

/-- 'cloakroomlaw32.StatelessForged', WHERE WHAT IT READS IS OF BULK AT MOST 1048576: true; the input reads as it did. -/
def statelessForgedUptoRow : OpenClaim := { program := "ytadhjooghfdloaa", sum := "74b789f6ed9228c207f633a4fe3954459e3cf5a1810fc57eefc324b375f6106b", func := "cloakroom/cloakroomlaw32.StatelessForged", spec := "statelessForged", unfollowed := true, recurses := true, apart := false, narrowed := true }
def StatelessForgedUptoSaid : Prop := statelessForgedUptoRow.holds Try.pinned (OpenSpec.upto statelessForgedSpec)

/-- 'cloakroomlaw32.StatelessBack', WHERE WHAT IT READS IS OF BULK AT MOST 1048576: true; the input reads as it did. -/
def statelessBackUptoRow : OpenClaim := { program := "ytadhjooghfdloaa", sum := "74b789f6ed9228c207f633a4fe3954459e3cf5a1810fc57eefc324b375f6106b", func := "cloakroom/cloakroomlaw32.StatelessBack", spec := "statelessBack", unfollowed := true, recurses := true, apart := false, narrowed := true }
def StatelessBackUptoSaid : Prop := statelessBackUptoRow.holds Try.pinned (OpenSpec.upto statelessBackSpec)

end Rows
end Go.Proofs.Ytadhjooghfdloaa
