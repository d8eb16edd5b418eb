/-
  The law SipParts returns true at all arguments, and it writes nothing that was there.
  The frame is written by a program off the print for this function; the walk stands in the texts that are imported.
-/
import Derived.Test.YtgkpojcckgbcjaaRows
import Derived.WalkKit
import Derived.ProofKit
import Derived.OpenShut
import Derived.ShutString
import Derived.ChangeOld
import Derived.Below
import Derived.Carry
import Derived.Test.YtgkpojcckgbcjaaVmFrame
import Derived.Test.YtgkpojcckgbcjaaMSipPartsa
namespace Go.Proofs.Ytgkpojcckgbcjaa.sipParts
open Go.ChangeShapes Go.WideShapes Go.ChangeAt Go.RowKit Go.Vm
set_option linter.unusedVariables false

theorem own : ownKnob Try.prog.godebug = none := by kernel_rfl
theorem laidOut : laidOutB Try.prog = true := by kernel_rfl

theorem walk (W : World) (x0_0 : Int) (wx0_0 : (Lit.int .u64 x0_0).wf = true) (x0_1 : Int) (wx0_1 : (Lit.int .u64 x0_1).wf = true) (a1 : Option Addr) (len1 cap1 : Nat) (z1 : List Value) (row1 : RowR W .str a1 len1 cap1 z1) :
    Calls Try.prog 8 #[.agg ⟨[.int .u64 x0_0, .int .u64 x0_1]⟩, .slice a1 len1 cap1] W fun e w' => e = .returned (.bool true) ∧ Below W.heap.size W w' := by
  obtain ⟨A1, L1, K1, M1⟩ := ArgR.row row1
  obtain ⟨xs1, e1, w1⟩ := leaf_strs K1
  rw [e1] at A1 L1
  rw [List.length_map] at L1
  refine calls_of_leads Go.Vm.Code.tab_ok (ms := [.v, .sl 1]) (aqs := [.v (.agg ⟨[.int .u64 x0_0, .int .u64 x0_1]⟩), .sl len1 (xs1.map Value.string)]) (r := true) (.cons ⟨rfl, rfl⟩ (.cons A1 .nil)) rfl ?_
  subst L1
  rw [vS_of xs1, show xs1.length = (xs1.map fun s => s.data.toList).length from (List.length_map _).symm]
  have hS : SumsOK Try.prog (aget (Go.Vm.Code.sums8 Go.Vm.Code.law12_awake Go.Vm.Code.sip_New Go.Vm.Code.sip_Hasher_Write Go.Vm.Code.sip_Hasher_Write_nil Go.Vm.Code.sip_Hasher_Sum Go.Vm.Code.sip_Hasher_Sum_nil Go.Vm.Code.sip_Hash)) := SumsOK.of_tab ⟨Go.Vm.Code.lift30, Go.Vm.Code.lift31, Go.Vm.Code.lift32, Go.Vm.Code.lift33, Go.Vm.Code.lift34, trivial⟩
  refine (Go.Vm.Code.leads8 Go.Vm.Code.law12_awake Go.Vm.Code.sip_New Go.Vm.Code.sip_Hasher_Write Go.Vm.Code.sip_Hasher_Write_nil Go.Vm.Code.sip_Hasher_Sum Go.Vm.Code.sip_Hasher_Sum_nil Go.Vm.Code.sip_Hash hS (Go.Vm.Code.api_Key.mk x0_0 x0_1) (xs1.map fun s => s.data.toList) true ?_).mono fun v H t hp => hp
  exact Go.Vm.Code.sipParts _ _

set_option maxRecDepth 100000 in
theorem lifted (os : Os) (started : os.Started) (H : Type) (enc : TypeId × Value → H) :
    ReturnsInHanded {} Try.checked os 8 .any (Rows.sipPartsSpec.pre6 enc Try.prog Try.f8 Rows.sipPartsRow.domain false) (Rows.sipPartsSpec.post enc Try.prog Try.f8 false true false false) := by
  refine returnsInHanded_of_change (C := Try.checked) own started (by kernel_rfl) Try.func8
    (ChangeSpec.witness6 (enc := enc) (C := Try.checked) false ⟨#[], #[.agg ⟨[.int .u64 0, .int .u64 0]⟩, .slice none 0 0], []⟩ 8 (by kernel_rfl) (by kernel_rfl) (by kernel_rfl) (by kernel_rfl)) ?_
  intro W base args ds gs before hval0 hW hcnd _
  have hval : ∀ (j : Nat) t v, Try.f8.params[j]? = some t → args[j]? = some v → Value.okWide Try.prog W .any base t v := hval0
  have hW' := hW
  obtain ⟨p, q, hA0, hV, rfl, hfz, hnd⟩ := hW
  have hA : DataW.TrodAll enc Try.prog W 0 (fun _ => true) true Try.f8.params.toList args.toList ds p := hA0
  rw [Try.params8] at hA hval
  obtain ⟨v0, vs0, d0, ds0, p0, q0, hargs, rfl, rfl, h0, r0⟩ := trodAll_cons hA
  obtain ⟨v1, vs1, d1, ds1, p1, q1, rfl, rfl, rfl, h1, r1⟩ := trodAll_cons r0
  obtain ⟨rfl, rfl, rfl⟩ := trodAll_nil r1
  obtain rfl : args = #[v0, v1] := by cases args; simp_all
  obtain ⟨rfl, rfl⟩ := trodVars_none hV
  have lt0 : ∀ x ∈ p0, x.block < W.heap.size := by obtain ⟨m, hm⟩ := h0; exact DataW.trod_lt m _ _ _ hm
  have lt1 : ∀ x ∈ p1, x.block < W.heap.size := by obtain ⟨m, hm⟩ := h1; exact DataW.trod_lt m _ _ _ hm
  obtain ⟨c0, b0⟩ := open_flat (n := 8) (ks := [(.int .u64), (.int .u64)]) (by kernel_rfl) (hval 0 56 v0 rfl rfl) h0
  obtain ⟨-, b0⟩ := b0.resolve_right (by rw [show isAggB Try.prog 56 = true by kernel_rfl]; exact Bool.noConfusion)
  generalize hcs0 : cellsL v0 = cs0 at c0 b0
  clear hcs0
  subst b0
  obtain ⟨_, cs0_0, rfl, ⟨x0_0, rfl, wx0_0⟩, c0_0⟩ := c0.inv
  obtain ⟨_, cs0_1, rfl, ⟨x0_1, rfl, wx0_1⟩, c0_1⟩ := c0_0.inv
  obtain rfl := c0_1.inv0
  obtain ⟨a1, len1, cap1, z1, rfl, row1⟩ := open_row Try.underlying57 (by kernel_rfl) (k := .str) (n := 8) (by kernel_rfl) (hval 1 57 v1 rfl rfl) h1
  clear hA0 hval0
  refine (walk W x0_0 wx0_0 x0_1 wx0_1 a1 len1 cap1 z1 row1).mono fun e W' ⟨he, bel⟩ => ?_
  subst he
  exact ⟨_, rfl, _, _, _, [], _, [], hW', trodAll_mk1 (shut_bool Try.underlying4 _), (trodAll_cons_mk (Below.trod laidOut (by kernel_rfl) (of_decide_eq_true (by kernel_rfl)) h0 bel lt0) (trodAll_cons_mk (Below.trod laidOut (by kernel_rfl) (of_decide_eq_true (by kernel_rfl)) h1 bel lt1) trodAll_mk0)), rfl, bel.frame _, fun h => by cases h⟩

theorem over : Rows.sipPartsRow.holds Try.pinned (OpenSpec.ofChange Rows.sipPartsSpec) :=
  OpenClaim.holds_of_wide 8 Try.f8 rfl rfl rfl rfl rfl rfl rfl ⟨rfl, rfl, rfl, rfl, rfl⟩ rfl rfl rfl rfl rfl (by kernel_rfl) Try.func8 (by kernel_rfl)
    (of_decide_eq_true (by kernel_rfl)) (by unfold Func.isWrapper; first | (rw [if_pos (by decide +kernel)]; kernel_rfl) | (rw [if_neg (by decide +kernel)]; exact ⟨rfl, rfl⟩))
    (fun os started H enc _ => lifted os started H enc)

theorem proved : Rows.SipPartsSaid := over
#print axioms proved
end Go.Proofs.Ytgkpojcckgbcjaa.sipParts
