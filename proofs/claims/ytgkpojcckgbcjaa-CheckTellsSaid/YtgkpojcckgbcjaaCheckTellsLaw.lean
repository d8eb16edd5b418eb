/-
  The law CheckTells returns true at all arguments, and it writes nothing that was there.
  The frame is written by a program off the print for this function; the walk stands in the texts that are imported.
-/
import Derived.Test.YtgkpojcckgbcjaaRows
import Derived.WalkKit
import Derived.ProofKit
import Derived.OpenShut
import Derived.ShutString
import Derived.ChangeOld
import Derived.Below
import Derived.Carry
import Derived.Test.YtgkpojcckgbcjaaVmFrame
import Derived.Test.YtgkpojcckgbcjaaMCheckTellsa
namespace Go.Proofs.Ytgkpojcckgbcjaa.checkTells
open Go.ChangeShapes Go.WideShapes Go.ChangeAt Go.RowKit Go.Vm
set_option linter.unusedVariables false

theorem own : ownKnob Try.prog.godebug = none := by kernel_rfl
theorem laidOut : laidOutB Try.prog = true := by kernel_rfl

theorem walk (W : World) (x0_0 : ByteArray) (wx0_0 : x0_0.size ≤ maxLen) (x1_0 : Int) (wx1_0 : (Lit.int .i64 x1_0).wf = true) (x2_0 : Int) (wx2_0 : (Lit.int .i64 x2_0).wf = true) (x3_0 : Int) (wx3_0 : (Lit.int .i64 x3_0).wf = true) (x4_0 : ByteArray) (wx4_0 : x4_0.size ≤ maxLen) (x5_0 : ByteArray) (wx5_0 : x5_0.size ≤ maxLen) (x6_0 : Int) (wx6_0 : (Lit.int .u64 x6_0).wf = true) :
    Calls Try.prog 11 #[.string x0_0, .int .i64 x1_0, .int .i64 x2_0, .int .i64 x3_0, .string x4_0, .string x5_0, .int .u64 x6_0] W fun e w' => e = .returned (.bool true) ∧ Below W.heap.size W w' := by
  refine calls_of_leads Go.Vm.Code.tab_ok (ms := [.v, .v, .v, .v, .v, .v, .v]) (aqs := [.v (.string x0_0), .v (.int .i64 x1_0), .v (.int .i64 x2_0), .v (.int .i64 x3_0), .v (.string x4_0), .v (.string x5_0), .v (.int .u64 x6_0)]) (r := true) (.cons ⟨rfl, rfl⟩ (.cons ⟨rfl, rfl⟩ (.cons ⟨rfl, rfl⟩ (.cons ⟨rfl, rfl⟩ (.cons ⟨rfl, rfl⟩ (.cons ⟨rfl, rfl⟩ (.cons ⟨rfl, rfl⟩ .nil))))))) rfl ?_
  have hS : SumsOK Try.prog (aget (Go.Vm.Code.sums11 Go.Vm.Code.law03_awake Go.Vm.Code.check_Sum Go.Vm.Code.R03_Sum Go.Vm.Code.check_Of Go.Vm.Code.R03_Of Go.Vm.Code.check_Right Go.Vm.Code.check_Turn Go.Vm.Code.R03_Turn Go.Vm.Code.check_Turned Go.Vm.Code.R03_Turned Go.Vm.Code.check_Set Go.Vm.Code.R03_Set)) := SumsOK.of_tab ⟨Go.Vm.Code.lift28, Go.Vm.Code.lift29, Go.Vm.Code.lift39, Go.Vm.Code.lift40, Go.Vm.Code.lift41, Go.Vm.Code.lift42, Go.Vm.Code.lift43, Go.Vm.Code.lift44, Go.Vm.Code.lift45, Go.Vm.Code.lift46, Go.Vm.Code.lift47, Go.Vm.Code.lift48, trivial⟩
  refine (Go.Vm.Code.leads11 Go.Vm.Code.law03_awake Go.Vm.Code.check_Sum Go.Vm.Code.R03_Sum Go.Vm.Code.check_Of Go.Vm.Code.R03_Of Go.Vm.Code.check_Right Go.Vm.Code.check_Turn Go.Vm.Code.R03_Turn Go.Vm.Code.check_Turned Go.Vm.Code.R03_Turned Go.Vm.Code.check_Set Go.Vm.Code.R03_Set hS x0_0.data.toList x1_0 x2_0 x3_0 x4_0.data.toList x5_0.data.toList x6_0 true ?_).mono fun v H t hp => hp
  exact Go.Vm.Code.checkTells _ _ _ _ _ _ _ (by have := wf_u64 wx6_0; omega)

set_option maxRecDepth 100000 in
theorem lifted (os : Os) (started : os.Started) (H : Type) (enc : TypeId × Value → H) :
    ReturnsInHanded {} Try.checked os 11 .any (Rows.checkTellsSpec.pre6 enc Try.prog Try.f11 Rows.checkTellsRow.domain false) (Rows.checkTellsSpec.post enc Try.prog Try.f11 false true false false) := by
  refine returnsInHanded_of_change (C := Try.checked) own started (by kernel_rfl) Try.func11
    (ChangeSpec.witness6 (enc := enc) (C := Try.checked) false ⟨#[], #[.string ⟨#[]⟩, .int .i64 0, .int .i64 0, .int .i64 0, .string ⟨#[]⟩, .string ⟨#[]⟩, .int .u64 0], []⟩ 8 (by kernel_rfl) (by kernel_rfl) (by kernel_rfl) (by kernel_rfl)) ?_
  intro W base args ds gs before hval0 hW hcnd _
  have hval : ∀ (j : Nat) t v, Try.f11.params[j]? = some t → args[j]? = some v → Value.okWide Try.prog W .any base t v := hval0
  have hW' := hW
  obtain ⟨p, q, hA0, hV, rfl, hfz, hnd⟩ := hW
  have hA : DataW.TrodAll enc Try.prog W 0 (fun _ => true) true Try.f11.params.toList args.toList ds p := hA0
  rw [Try.params11] at hA hval
  obtain ⟨v0, vs0, d0, ds0, p0, q0, hargs, rfl, rfl, h0, r0⟩ := trodAll_cons hA
  obtain ⟨v1, vs1, d1, ds1, p1, q1, rfl, rfl, rfl, h1, r1⟩ := trodAll_cons r0
  obtain ⟨v2, vs2, d2, ds2, p2, q2, rfl, rfl, rfl, h2, r2⟩ := trodAll_cons r1
  obtain ⟨v3, vs3, d3, ds3, p3, q3, rfl, rfl, rfl, h3, r3⟩ := trodAll_cons r2
  obtain ⟨v4, vs4, d4, ds4, p4, q4, rfl, rfl, rfl, h4, r4⟩ := trodAll_cons r3
  obtain ⟨v5, vs5, d5, ds5, p5, q5, rfl, rfl, rfl, h5, r5⟩ := trodAll_cons r4
  obtain ⟨v6, vs6, d6, ds6, p6, q6, rfl, rfl, rfl, h6, r6⟩ := trodAll_cons r5
  obtain ⟨rfl, rfl, rfl⟩ := trodAll_nil r6
  obtain rfl : args = #[v0, v1, v2, v3, v4, v5, v6] := by cases args; simp_all
  obtain ⟨rfl, rfl⟩ := trodVars_none hV
  have lt0 : ∀ x ∈ p0, x.block < W.heap.size := by obtain ⟨m, hm⟩ := h0; exact DataW.trod_lt m _ _ _ hm
  have lt1 : ∀ x ∈ p1, x.block < W.heap.size := by obtain ⟨m, hm⟩ := h1; exact DataW.trod_lt m _ _ _ hm
  have lt2 : ∀ x ∈ p2, x.block < W.heap.size := by obtain ⟨m, hm⟩ := h2; exact DataW.trod_lt m _ _ _ hm
  have lt3 : ∀ x ∈ p3, x.block < W.heap.size := by obtain ⟨m, hm⟩ := h3; exact DataW.trod_lt m _ _ _ hm
  have lt4 : ∀ x ∈ p4, x.block < W.heap.size := by obtain ⟨m, hm⟩ := h4; exact DataW.trod_lt m _ _ _ hm
  have lt5 : ∀ x ∈ p5, x.block < W.heap.size := by obtain ⟨m, hm⟩ := h5; exact DataW.trod_lt m _ _ _ hm
  have lt6 : ∀ x ∈ p6, x.block < W.heap.size := by obtain ⟨m, hm⟩ := h6; exact DataW.trod_lt m _ _ _ hm
  obtain ⟨x0_0, rfl⟩ := okWide_string Try.underlying9 (hval 0 9 v0 rfl rfl)
  have wx0_0 : x0_0.size ≤ maxLen := by
    obtain ⟨c0, _⟩ := open_flat (n := 8) (ks := [.str]) (by kernel_rfl) (hval 0 9 _ rfl rfl) h0
    obtain ⟨_, _, e, ⟨_, e2, hw⟩, _⟩ := c0.inv
    cases e; cases e2; exact hw
  obtain ⟨x1_0, rfl⟩ := okWide_int Try.underlying3 (hval 1 3 v1 rfl rfl)
  have wx1_0 : (Lit.int .i64 x1_0).wf = true := by
    obtain ⟨c1, _⟩ := open_flat (n := 8) (ks := [(.int .i64)]) (by kernel_rfl) (hval 1 3 _ rfl rfl) h1
    obtain ⟨_, _, e, ⟨_, e2, hw⟩, _⟩ := c1.inv
    cases e; cases e2; exact hw
  obtain ⟨x2_0, rfl⟩ := okWide_int Try.underlying3 (hval 2 3 v2 rfl rfl)
  have wx2_0 : (Lit.int .i64 x2_0).wf = true := by
    obtain ⟨c2, _⟩ := open_flat (n := 8) (ks := [(.int .i64)]) (by kernel_rfl) (hval 2 3 _ rfl rfl) h2
    obtain ⟨_, _, e, ⟨_, e2, hw⟩, _⟩ := c2.inv
    cases e; cases e2; exact hw
  obtain ⟨x3_0, rfl⟩ := okWide_int Try.underlying3 (hval 3 3 v3 rfl rfl)
  have wx3_0 : (Lit.int .i64 x3_0).wf = true := by
    obtain ⟨c3, _⟩ := open_flat (n := 8) (ks := [(.int .i64)]) (by kernel_rfl) (hval 3 3 _ rfl rfl) h3
    obtain ⟨_, _, e, ⟨_, e2, hw⟩, _⟩ := c3.inv
    cases e; cases e2; exact hw
  obtain ⟨x4_0, rfl⟩ := okWide_string Try.underlying9 (hval 4 9 v4 rfl rfl)
  have wx4_0 : x4_0.size ≤ maxLen := by
    obtain ⟨c4, _⟩ := open_flat (n := 8) (ks := [.str]) (by kernel_rfl) (hval 4 9 _ rfl rfl) h4
    obtain ⟨_, _, e, ⟨_, e2, hw⟩, _⟩ := c4.inv
    cases e; cases e2; exact hw
  obtain ⟨x5_0, rfl⟩ := okWide_string Try.underlying9 (hval 5 9 v5 rfl rfl)
  have wx5_0 : x5_0.size ≤ maxLen := by
    obtain ⟨c5, _⟩ := open_flat (n := 8) (ks := [.str]) (by kernel_rfl) (hval 5 9 _ rfl rfl) h5
    obtain ⟨_, _, e, ⟨_, e2, hw⟩, _⟩ := c5.inv
    cases e; cases e2; exact hw
  obtain ⟨x6_0, rfl⟩ := okWide_int Try.underlying54 (hval 6 54 v6 rfl rfl)
  have wx6_0 : (Lit.int .u64 x6_0).wf = true := by
    obtain ⟨c6, _⟩ := open_flat (n := 8) (ks := [(.int .u64)]) (by kernel_rfl) (hval 6 54 _ rfl rfl) h6
    obtain ⟨_, _, e, ⟨_, e2, hw⟩, _⟩ := c6.inv
    cases e; cases e2; exact hw
  clear hA0 hval0
  refine (walk W x0_0 wx0_0 x1_0 wx1_0 x2_0 wx2_0 x3_0 wx3_0 x4_0 wx4_0 x5_0 wx5_0 x6_0 wx6_0).mono fun e W' ⟨he, bel⟩ => ?_
  subst he
  exact ⟨_, rfl, _, _, _, [], _, [], hW', trodAll_mk1 (shut_bool Try.underlying4 _), (trodAll_cons_mk (Below.trod laidOut (by kernel_rfl) (of_decide_eq_true (by kernel_rfl)) h0 bel lt0) (trodAll_cons_mk (Below.trod laidOut (by kernel_rfl) (of_decide_eq_true (by kernel_rfl)) h1 bel lt1) (trodAll_cons_mk (Below.trod laidOut (by kernel_rfl) (of_decide_eq_true (by kernel_rfl)) h2 bel lt2) (trodAll_cons_mk (Below.trod laidOut (by kernel_rfl) (of_decide_eq_true (by kernel_rfl)) h3 bel lt3) (trodAll_cons_mk (Below.trod laidOut (by kernel_rfl) (of_decide_eq_true (by kernel_rfl)) h4 bel lt4) (trodAll_cons_mk (Below.trod laidOut (by kernel_rfl) (of_decide_eq_true (by kernel_rfl)) h5 bel lt5) (trodAll_cons_mk (Below.trod laidOut (by kernel_rfl) (of_decide_eq_true (by kernel_rfl)) h6 bel lt6) trodAll_mk0))))))), rfl, bel.frame _, fun h => by cases h⟩

theorem over : Rows.checkTellsRow.holds Try.pinned (OpenSpec.ofChange Rows.checkTellsSpec) :=
  OpenClaim.holds_of_wide 11 Try.f11 rfl rfl rfl rfl rfl rfl rfl ⟨rfl, rfl, rfl, rfl, rfl⟩ rfl rfl rfl rfl rfl (by kernel_rfl) Try.func11 (by kernel_rfl)
    (of_decide_eq_true (by kernel_rfl)) (by unfold Func.isWrapper; first | (rw [if_pos (by decide +kernel)]; kernel_rfl) | (rw [if_neg (by decide +kernel)]; exact ⟨rfl, rfl⟩))
    (fun os started H enc _ => lifted os started H enc)

theorem proved : Rows.CheckTellsSaid := over
#print axioms proved
end Go.Proofs.Ytgkpojcckgbcjaa.checkTells
