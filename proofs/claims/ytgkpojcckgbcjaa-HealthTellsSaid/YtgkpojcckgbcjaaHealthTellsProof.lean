/-
  The law HealthTells returns true at all arguments, and it writes nothing that was there.
  The frame is written by a program off the print for this function; the walk stands in the texts that are imported.
-/
import Derived.Test.YtgkpojcckgbcjaaRows
import Derived.WalkKit
import Derived.ProofKit
import Derived.OpenShut
import Derived.ShutString
import Derived.ChangeOld
import Derived.Below
import Derived.Carry
import Derived.Test.YtgkpojcckgbcjaaVmFrame
import Derived.Test.YtgkpojcckgbcjaaH4
namespace Go.Proofs.Ytgkpojcckgbcjaa.healthTells
open Go.ChangeShapes Go.WideShapes Go.ChangeAt Go.RowKit Go.Vm
set_option linter.unusedVariables false

theorem own : ownKnob Try.prog.godebug = none := by kernel_rfl
theorem laidOut : laidOutB Try.prog = true := by kernel_rfl

theorem walk (W : World) (x0_0 : Int) (wx0_0 : (Lit.int .i64 x0_0).wf = true) (x0_1 : Int) (wx0_1 : (Lit.int .i64 x0_1).wf = true) (x1_0 : Bool) (x1_1 : Int) (wx1_1 : (Lit.int .i64 x1_1).wf = true) (a2 : Option Addr) (len2 cap2 : Nat) (z2 : List Value) (row2 : RowR W .bool a2 len2 cap2 z2) :
    Calls Try.prog 4 #[.agg ⟨[.int .i64 x0_0, .int .i64 x0_1]⟩, .agg ⟨[.bool x1_0, .int .i64 x1_1]⟩, .slice a2 len2 cap2] W fun e w' => e = .returned (.bool true) ∧ Below W.heap.size W w' := by
  obtain ⟨A2, L2, K2, M2⟩ := ArgR.row row2
  obtain ⟨xs2, e2⟩ := leaf_bools K2
  rw [e2] at A2 L2
  rw [List.length_map] at L2
  refine calls_of_leads Go.Vm.Code.tab_ok (ms := [.v, .v, .sl 1]) (aqs := [.v (.agg ⟨[.int .i64 x0_0, .int .i64 x0_1]⟩), .v (.agg ⟨[.bool x1_0, .int .i64 x1_1]⟩), .sl len2 (xs2.map Value.bool)]) (r := true) (.cons ⟨rfl, rfl⟩ (.cons ⟨rfl, rfl⟩ (.cons A2 .nil))) rfl ?_
  exact Go.Vm.Code.law4 x0_0 x0_1 x1_0 x1_1 xs2 len2 L2

set_option maxRecDepth 100000 in
theorem lifted (os : Os) (started : os.Started) (H : Type) (enc : TypeId × Value → H) :
    ReturnsInHanded {} Try.checked os 4 .any (Rows.healthTellsSpec.pre6 enc Try.prog Try.f4 Rows.healthTellsRow.domain false) (Rows.healthTellsSpec.post enc Try.prog Try.f4 false true false false) := by
  refine returnsInHanded_of_change (C := Try.checked) own started (by kernel_rfl) Try.func4
    (ChangeSpec.witness6 (enc := enc) (C := Try.checked) false ⟨#[], #[.agg ⟨[.int .i64 0, .int .i64 0]⟩, .agg ⟨[.bool false, .int .i64 0]⟩, .slice none 0 0], []⟩ 8 (by kernel_rfl) (by kernel_rfl) (by kernel_rfl) (by kernel_rfl)) ?_
  intro W base args ds gs before hval0 hW hcnd _
  have hval : ∀ (j : Nat) t v, Try.f4.params[j]? = some t → args[j]? = some v → Value.okWide Try.prog W .any base t v := hval0
  have hW' := hW
  obtain ⟨p, q, hA0, hV, rfl, hfz, hnd⟩ := hW
  have hA : DataW.TrodAll enc Try.prog W 0 (fun _ => true) true Try.f4.params.toList args.toList ds p := hA0
  rw [Try.params4] at hA hval
  obtain ⟨v0, vs0, d0, ds0, p0, q0, hargs, rfl, rfl, h0, r0⟩ := trodAll_cons hA
  obtain ⟨v1, vs1, d1, ds1, p1, q1, rfl, rfl, rfl, h1, r1⟩ := trodAll_cons r0
  obtain ⟨v2, vs2, d2, ds2, p2, q2, rfl, rfl, rfl, h2, r2⟩ := trodAll_cons r1
  obtain ⟨rfl, rfl, rfl⟩ := trodAll_nil r2
  obtain rfl : args = #[v0, v1, v2] := by cases args; simp_all
  obtain ⟨rfl, rfl⟩ := trodVars_none hV
  have lt0 : ∀ x ∈ p0, x.block < W.heap.size := by obtain ⟨m, hm⟩ := h0; exact DataW.trod_lt m _ _ _ hm
  have lt1 : ∀ x ∈ p1, x.block < W.heap.size := by obtain ⟨m, hm⟩ := h1; exact DataW.trod_lt m _ _ _ hm
  have lt2 : ∀ x ∈ p2, x.block < W.heap.size := by obtain ⟨m, hm⟩ := h2; exact DataW.trod_lt m _ _ _ hm
  obtain ⟨c0, b0⟩ := open_flat (n := 8) (ks := [(.int .i64), (.int .i64)]) (by kernel_rfl) (hval 0 29 v0 rfl rfl) h0
  obtain ⟨-, b0⟩ := b0.resolve_right (by rw [show isAggB Try.prog 29 = true by kernel_rfl]; exact Bool.noConfusion)
  generalize hcs0 : cellsL v0 = cs0 at c0 b0
  clear hcs0
  subst b0
  obtain ⟨_, cs0_0, rfl, ⟨x0_0, rfl, wx0_0⟩, c0_0⟩ := c0.inv
  obtain ⟨_, cs0_1, rfl, ⟨x0_1, rfl, wx0_1⟩, c0_1⟩ := c0_0.inv
  obtain rfl := c0_1.inv0
  obtain ⟨c1, b1⟩ := open_flat (n := 8) (ks := [.bool, (.int .i64)]) (by kernel_rfl) (hval 1 31 v1 rfl rfl) h1
  obtain ⟨-, b1⟩ := b1.resolve_right (by rw [show isAggB Try.prog 31 = true by kernel_rfl]; exact Bool.noConfusion)
  generalize hcs1 : cellsL v1 = cs1 at c1 b1
  clear hcs1
  subst b1
  obtain ⟨_, cs1_0, rfl, ⟨x1_0, rfl⟩, c1_0⟩ := c1.inv
  obtain ⟨_, cs1_1, rfl, ⟨x1_1, rfl, wx1_1⟩, c1_1⟩ := c1_0.inv
  obtain rfl := c1_1.inv0
  obtain ⟨a2, len2, cap2, z2, rfl, row2⟩ := open_row Try.underlying32 (by kernel_rfl) (k := .bool) (n := 8) (by kernel_rfl) (hval 2 32 v2 rfl rfl) h2
  clear hA0 hval0
  refine (walk W x0_0 wx0_0 x0_1 wx0_1 x1_0 x1_1 wx1_1 a2 len2 cap2 z2 row2).mono fun e W' ⟨he, bel⟩ => ?_
  subst he
  exact ⟨_, rfl, _, _, _, [], _, [], hW', trodAll_mk1 (shut_bool Try.underlying4 _), (trodAll_cons_mk (Below.trod laidOut (by kernel_rfl) (of_decide_eq_true (by kernel_rfl)) h0 bel lt0) (trodAll_cons_mk (Below.trod laidOut (by kernel_rfl) (of_decide_eq_true (by kernel_rfl)) h1 bel lt1) (trodAll_cons_mk (Below.trod laidOut (by kernel_rfl) (of_decide_eq_true (by kernel_rfl)) h2 bel lt2) trodAll_mk0))), rfl, bel.frame _, fun h => by cases h⟩

theorem over : Rows.healthTellsRow.holds Try.pinned (OpenSpec.ofChange Rows.healthTellsSpec) :=
  OpenClaim.holds_of_wide 4 Try.f4 rfl rfl rfl rfl rfl rfl rfl ⟨rfl, rfl, rfl, rfl, rfl⟩ rfl rfl rfl rfl rfl (by kernel_rfl) Try.func4 (by kernel_rfl)
    (of_decide_eq_true (by kernel_rfl)) (by unfold Func.isWrapper; first | (rw [if_pos (by decide +kernel)]; kernel_rfl) | (rw [if_neg (by decide +kernel)]; exact ⟨rfl, rfl⟩))
    (fun os started H enc _ => lifted os started H enc)

theorem proved : Rows.HealthTellsSaid := over
#print axioms proved
end Go.Proofs.Ytgkpojcckgbcjaa.healthTells
