/-
  The law StampPatch returns true at all arguments, and it writes nothing that was there.
  The frame is written by a program off the print for this function; the walk stands in the texts that are imported.
-/
import Derived.Test.YtdnbalelfakjhaaRows
import Derived.WalkKit
import Derived.ProofKit
import Derived.OpenShut
import Derived.ShutString
import Derived.ChangeOld
import Derived.Below
import Derived.Carry
import Derived.Test.YtdnbalelfakjhaaNStampPatchf
namespace Go.Proofs.Ytdnbalelfakjhaa.stampPatch
open Go.ChangeShapes Go.WideShapes Go.ChangeAt Go.RowKit Go.Vm
set_option linter.unusedVariables false

theorem own : ownKnob Try.prog.godebug = none := by kernel_rfl
theorem laidOut : laidOutB Try.prog = true := by kernel_rfl

theorem walk (W : World) (x0_0 : ByteArray) (wx0_0 : x0_0.size ≤ maxLen) (x1_0 : Int) (wx1_0 : (Lit.int .u8 x1_0).wf = true) (x2_0 : ByteArray) (wx2_0 : x2_0.size ≤ maxLen) (x3_0 : Int) (wx3_0 : (Lit.int .u8 x3_0).wf = true) :
    Calls Try.prog 3 #[.string x0_0, .int .u8 x1_0, .string x2_0, .int .u8 x3_0] W fun e w' => e = .returned (.bool true) ∧ Below W.heap.size W w' := by
  refine calls_of_leads Go.Vm.Code.tab_ok (ms := [.v, .v, .v, .v]) (aqs := [.v (.string x0_0), .v (.int .u8 x1_0), .v (.string x2_0), .v (.int .u8 x3_0)]) (r := true) (.cons ⟨rfl, rfl⟩ (.cons ⟨rfl, rfl⟩ (.cons ⟨rfl, rfl⟩ (.cons ⟨rfl, rfl⟩ .nil)))) rfl ?_
  have hS : SumsOK Try.prog (aget (Go.Vm.Code.sums3 Go.Vm.Code.R03_Of Go.Vm.Code.R03_Set Go.Vm.Code.R03_Sum Go.Vm.Code.R07_Small Go.Vm.Code.law36_awake Go.Vm.Code.stamp_Patch)) := SumsOK.of_tab ⟨Go.Vm.Code.lift10, Go.Vm.Code.lift9, Go.Vm.Code.lift12, Go.Vm.Code.lift7, Go.Vm.Code.lift8, Go.Vm.Code.lift11, trivial⟩
  refine (Go.Vm.Code.leads3 Go.Vm.Code.R03_Of Go.Vm.Code.R03_Set Go.Vm.Code.R03_Sum Go.Vm.Code.R07_Small Go.Vm.Code.law36_awake Go.Vm.Code.stamp_Patch hS x0_0.data.toList x1_0 x2_0.data.toList x3_0 true ?_).mono fun v H t hp => Res.flat rfl rfl hp
  exact Go.Vm.Code.stampPatch _ _ _ _ ⟨(wf_u8 wx1_0).1, by have := (wf_u8 wx1_0).2; first | omega | (simp only []; omega)⟩ ⟨(wf_u8 wx3_0).1, by have := (wf_u8 wx3_0).2; first | omega | (simp only []; omega)⟩

set_option maxRecDepth 100000 in
theorem lifted (os : Os) (started : os.Started) (H : Type) (enc : TypeId × Value → H) :
    ReturnsInHanded {} Try.checked os 3 .any (Rows.stampPatchSpec.pre6 enc Try.prog Try.f3 Rows.stampPatchRow.domain false) (Rows.stampPatchSpec.post enc Try.prog Try.f3 false true false false) := by
  refine returnsInHanded_of_change (C := Try.checked) own started (by kernel_rfl) Try.func3
    (ChangeSpec.witness6 (enc := enc) (C := Try.checked) false ⟨#[], #[.string ⟨#[]⟩, .int .u8 0, .string ⟨#[]⟩, .int .u8 0], []⟩ 8 (by kernel_rfl) (by kernel_rfl) (by kernel_rfl) (by kernel_rfl)) ?_
  intro W base args ds gs before hval0 hW hcnd _
  have hval : ∀ (j : Nat) t v, Try.f3.params[j]? = some t → args[j]? = some v → Value.okWide Try.prog W .any base t v := hval0
  have hW' := hW
  obtain ⟨p, q, hA0, hV, rfl, hfz, hnd⟩ := hW
  have hA : DataW.TrodAll enc Try.prog W 0 (fun _ => true) true Try.f3.params.toList args.toList ds p := hA0
  rw [Try.params3] at hA hval
  obtain ⟨v0, vs0, d0, ds0, p0, q0, hargs, rfl, rfl, h0, r0⟩ := trodAll_cons hA
  obtain ⟨v1, vs1, d1, ds1, p1, q1, rfl, rfl, rfl, h1, r1⟩ := trodAll_cons r0
  obtain ⟨v2, vs2, d2, ds2, p2, q2, rfl, rfl, rfl, h2, r2⟩ := trodAll_cons r1
  obtain ⟨v3, vs3, d3, ds3, p3, q3, rfl, rfl, rfl, h3, r3⟩ := trodAll_cons r2
  obtain ⟨rfl, rfl, rfl⟩ := trodAll_nil r3
  obtain rfl : args = #[v0, v1, v2, v3] := by cases args; simp_all
  obtain ⟨rfl, rfl⟩ := trodVars_none hV
  have lt0 : ∀ x ∈ p0, x.block < W.heap.size := by obtain ⟨m, hm⟩ := h0; exact DataW.trod_lt m _ _ _ hm
  have lt1 : ∀ x ∈ p1, x.block < W.heap.size := by obtain ⟨m, hm⟩ := h1; exact DataW.trod_lt m _ _ _ hm
  have lt2 : ∀ x ∈ p2, x.block < W.heap.size := by obtain ⟨m, hm⟩ := h2; exact DataW.trod_lt m _ _ _ hm
  have lt3 : ∀ x ∈ p3, x.block < W.heap.size := by obtain ⟨m, hm⟩ := h3; exact DataW.trod_lt m _ _ _ hm
  obtain ⟨x0_0, rfl⟩ := okWide_string Try.underlying9 (hval 0 9 v0 rfl rfl)
  have wx0_0 : x0_0.size ≤ maxLen := by
    obtain ⟨c0, _⟩ := open_flat (n := 8) (ks := [.str]) (by kernel_rfl) (hval 0 9 _ rfl rfl) h0
    obtain ⟨_, _, e, ⟨_, e2, hw⟩, _⟩ := c0.inv
    cases e; cases e2; exact hw
  obtain ⟨x1_0, rfl⟩ := okWide_int Try.underlying5 (hval 1 5 v1 rfl rfl)
  have wx1_0 : (Lit.int .u8 x1_0).wf = true := by
    obtain ⟨c1, _⟩ := open_flat (n := 8) (ks := [(.int .u8)]) (by kernel_rfl) (hval 1 5 _ rfl rfl) h1
    obtain ⟨_, _, e, ⟨_, e2, hw⟩, _⟩ := c1.inv
    cases e; cases e2; exact hw
  obtain ⟨x2_0, rfl⟩ := okWide_string Try.underlying9 (hval 2 9 v2 rfl rfl)
  have wx2_0 : x2_0.size ≤ maxLen := by
    obtain ⟨c2, _⟩ := open_flat (n := 8) (ks := [.str]) (by kernel_rfl) (hval 2 9 _ rfl rfl) h2
    obtain ⟨_, _, e, ⟨_, e2, hw⟩, _⟩ := c2.inv
    cases e; cases e2; exact hw
  obtain ⟨x3_0, rfl⟩ := okWide_int Try.underlying5 (hval 3 5 v3 rfl rfl)
  have wx3_0 : (Lit.int .u8 x3_0).wf = true := by
    obtain ⟨c3, _⟩ := open_flat (n := 8) (ks := [(.int .u8)]) (by kernel_rfl) (hval 3 5 _ rfl rfl) h3
    obtain ⟨_, _, e, ⟨_, e2, hw⟩, _⟩ := c3.inv
    cases e; cases e2; exact hw
  clear hA0 hval0
  refine (walk W x0_0 wx0_0 x1_0 wx1_0 x2_0 wx2_0 x3_0 wx3_0).mono fun e W' ⟨he, bel⟩ => ?_
  subst he
  exact ⟨_, rfl, _, _, _, [], _, [], hW', trodAll_mk1 (shut_bool Try.underlying4 _), (trodAll_cons_mk (Below.trod laidOut (by kernel_rfl) (of_decide_eq_true (by kernel_rfl)) h0 bel lt0) (trodAll_cons_mk (Below.trod laidOut (by kernel_rfl) (of_decide_eq_true (by kernel_rfl)) h1 bel lt1) (trodAll_cons_mk (Below.trod laidOut (by kernel_rfl) (of_decide_eq_true (by kernel_rfl)) h2 bel lt2) (trodAll_cons_mk (Below.trod laidOut (by kernel_rfl) (of_decide_eq_true (by kernel_rfl)) h3 bel lt3) trodAll_mk0)))), rfl, bel.frame _, fun h => by cases h⟩

theorem over : Rows.stampPatchRow.holds Try.pinned (OpenSpec.ofChange Rows.stampPatchSpec) :=
  OpenClaim.holds_of_wide 3 Try.f3 rfl rfl rfl rfl rfl rfl rfl ⟨rfl, rfl, rfl, rfl, rfl⟩ rfl rfl rfl rfl rfl (by kernel_rfl) Try.func3 (by kernel_rfl)
    (of_decide_eq_true (by kernel_rfl)) (by unfold Func.isWrapper; first | (rw [if_pos (by decide +kernel)]; kernel_rfl) | (rw [if_neg (by decide +kernel)]; exact ⟨rfl, rfl⟩))
    (fun os started H enc _ => lifted os started H enc)

theorem proved : Rows.StampPatchSaid := over
#print axioms proved
end Go.Proofs.Ytdnbalelfakjhaa.stampPatch
