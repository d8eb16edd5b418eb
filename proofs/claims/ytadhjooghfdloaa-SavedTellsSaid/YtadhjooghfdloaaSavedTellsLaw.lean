/-
  The law SavedTells returns true at all arguments, and it writes nothing that was there.
  The frame is written by a program off the print for this function; the walk stands in the texts that are imported.
-/
import Derived.Test.YtadhjooghfdloaaRows
import Derived.WalkKit
import Derived.ProofKit
import Derived.OpenShut
import Derived.ShutString
import Derived.ChangeOld
import Derived.Below
import Derived.Carry
import Derived.Test.YtadhjooghfdloaaNSavedTellsf
namespace Go.Proofs.Ytadhjooghfdloaa.savedTells
open Go.ChangeShapes Go.WideShapes Go.ChangeAt Go.RowKit Go.Vm
set_option linter.unusedVariables false

theorem own : ownKnob Try.prog.godebug = none := by kernel_rfl
theorem laidOut : laidOutB Try.prog = true := by kernel_rfl

theorem walk (W : World) (x0_0 : Int) (wx0_0 : (Lit.int .u64 x0_0).wf = true) (x0_1 : Int) (wx0_1 : (Lit.int .u64 x0_1).wf = true) (x0_2 : Int) (wx0_2 : (Lit.int .i64 x0_2).wf = true) (a0 : Option Addr) (len0 cap0 : Nat) (z0 : List Value) (row0 : RowN W [(.int .i64), (.int .i64), (.int .i64), .bool, (.int .u64), (.int .u64)] a0 len0 cap0 z0) (x1_0 : Int) (wx1_0 : (Lit.int .u64 x1_0).wf = true) (x1_1 : Int) (wx1_1 : (Lit.int .u64 x1_1).wf = true) (x1_2 : Int) (wx1_2 : (Lit.int .i64 x1_2).wf = true) (a1 : Option Addr) (len1 cap1 : Nat) (z1 : List Value) (row1 : RowN W [(.int .i64), (.int .i64), (.int .i64), .bool, (.int .u64), (.int .u64)] a1 len1 cap1 z1) (x2_0 : ByteArray) (wx2_0 : x2_0.size ≤ maxLen) :
    Calls Try.prog 9 #[.agg ⟨[.int .u64 x0_0, .int .u64 x0_1, .int .i64 x0_2, .slice a0 len0 cap0]⟩, .agg ⟨[.int .u64 x1_0, .int .u64 x1_1, .int .i64 x1_2, .slice a1 len1 cap1]⟩, .string x2_0] W fun e w' => e = .returned (.bool true) ∧ Below W.heap.size W w' := by
  obtain ⟨A0, Z0, C0, M0⟩ := ArgR.rowN row0 (by decide)
  obtain ⟨xs0, e0, L0, O0⟩ := rows_of (c := Go.Vm.Code.capi_Backend) (ok := fun (x : Go.Vm.Code.api_Backend) => (Lit.int .i64 x.ID).wf = true ∧ (Lit.int .i64 x.Weight).wf = true ∧ (Lit.int .i64 x.State).wf = true ∧ (Lit.int .u64 x.Addr.Hi).wf = true ∧ (Lit.int .u64 x.Addr.Lo).wf = true ∧ True) (fun cs h => by
    obtain ⟨_, cs0, rfl, ⟨y0, rfl, w0⟩, h0⟩ := h.inv
    obtain ⟨_, cs1, rfl, ⟨y1, rfl, w1⟩, h1⟩ := h0.inv
    obtain ⟨_, cs2, rfl, ⟨y2, rfl, w2⟩, h2⟩ := h1.inv
    obtain ⟨_, cs3, rfl, ⟨y3, rfl⟩, h3⟩ := h2.inv
    obtain ⟨_, cs4, rfl, ⟨y4, rfl, w4⟩, h4⟩ := h3.inv
    obtain ⟨_, cs5, rfl, ⟨y5, rfl, w5⟩, h5⟩ := h4.inv
    obtain rfl := h5.inv0
    exact ⟨(Go.Vm.Code.api_Backend.mk y0 y1 y2 (Go.Vm.Code.api_Addr.mk y3 y4 y5)), rfl, ⟨w0, w1, w2, w4, w5, trivial⟩⟩) len0 _ Z0 C0
  rw [e0] at A0
  obtain ⟨A1, Z1, C1, M1⟩ := ArgR.rowN row1 (by decide)
  obtain ⟨xs1, e1, L1, O1⟩ := rows_of (c := Go.Vm.Code.capi_Backend) (ok := fun (x : Go.Vm.Code.api_Backend) => (Lit.int .i64 x.ID).wf = true ∧ (Lit.int .i64 x.Weight).wf = true ∧ (Lit.int .i64 x.State).wf = true ∧ (Lit.int .u64 x.Addr.Hi).wf = true ∧ (Lit.int .u64 x.Addr.Lo).wf = true ∧ True) (fun cs h => by
    obtain ⟨_, cs0, rfl, ⟨y0, rfl, w0⟩, h0⟩ := h.inv
    obtain ⟨_, cs1, rfl, ⟨y1, rfl, w1⟩, h1⟩ := h0.inv
    obtain ⟨_, cs2, rfl, ⟨y2, rfl, w2⟩, h2⟩ := h1.inv
    obtain ⟨_, cs3, rfl, ⟨y3, rfl⟩, h3⟩ := h2.inv
    obtain ⟨_, cs4, rfl, ⟨y4, rfl, w4⟩, h4⟩ := h3.inv
    obtain ⟨_, cs5, rfl, ⟨y5, rfl, w5⟩, h5⟩ := h4.inv
    obtain rfl := h5.inv0
    exact ⟨(Go.Vm.Code.api_Backend.mk y0 y1 y2 (Go.Vm.Code.api_Addr.mk y3 y4 y5)), rfl, ⟨w0, w1, w2, w4, w5, trivial⟩⟩) len1 _ Z1 C1
  rw [e1] at A1
  refine calls_of_leadsT Go.Vm.Code.tab_ok (ms := [.tr [⟨none, 3, 0, 0, some 6⟩], .tr [⟨none, 3, 0, 0, some 6⟩], .v]) (aqs := [.ag [.int .u64 x0_0, .int .u64 x0_1, .int .i64 x0_2] len0 6 (vT Go.Vm.Code.capi_Backend xs0), .ag [.int .u64 x1_0, .int .u64 x1_1, .int .i64 x1_2] len1 6 (vT Go.Vm.Code.capi_Backend xs1), .v (.string x2_0)]) (r := true) (.cons ⟨rfl, _, rfl, A0⟩ (.cons ⟨rfl, _, rfl, A1⟩ (.cons ⟨rfl, rfl⟩ .nil))) rfl ?_
  subst L0
  subst L1
  have hS : SumsOK Try.prog (aget (Go.Vm.Code.sums9 Go.Vm.Code.R55_Get Go.Vm.Code.R55_Of Go.Vm.Code.R55_Put Go.Vm.Code.R55_Right Go.Vm.Code.R55_Same Go.Vm.Code.law55_awake Go.Vm.Code.law55_back Go.Vm.Code.law55_of Go.Vm.Code.saved_Get Go.Vm.Code.saved_Of Go.Vm.Code.saved_Put Go.Vm.Code.saved_Right Go.Vm.Code.saved_Same)) := SumsOK.of_tab ⟨Go.Vm.Code.lift50, Go.Vm.Code.lift59, Go.Vm.Code.lift55, Go.Vm.Code.lift57, Go.Vm.Code.lift51, Go.Vm.Code.lift47, Go.Vm.Code.lift52, Go.Vm.Code.lift54, Go.Vm.Code.lift48, Go.Vm.Code.lift58, Go.Vm.Code.lift53, Go.Vm.Code.lift56, Go.Vm.Code.lift60, trivial⟩
  refine (Go.Vm.Code.leads9 Go.Vm.Code.R55_Get Go.Vm.Code.R55_Of Go.Vm.Code.R55_Put Go.Vm.Code.R55_Right Go.Vm.Code.R55_Same Go.Vm.Code.law55_awake Go.Vm.Code.law55_back Go.Vm.Code.law55_of Go.Vm.Code.saved_Get Go.Vm.Code.saved_Of Go.Vm.Code.saved_Put Go.Vm.Code.saved_Right Go.Vm.Code.saved_Same hS (Go.Vm.Code.saved_Record.mk (Go.Vm.Code.api_Key.mk x0_0 x0_1) x0_2 xs0) (Go.Vm.Code.saved_Record.mk (Go.Vm.Code.api_Key.mk x1_0 x1_1) x1_2 xs1) x2_0.data.toList true ?_).mono fun v H t hp => Res.flat rfl rfl hp
  exact Go.Vm.Code.savedTells _ _ _ ⟨⟨(wf_u64 wx0_0).1, by have := (wf_u64 wx0_0).2; simp only []; omega⟩, ⟨(wf_u64 wx0_1).1, by have := (wf_u64 wx0_1).2; simp only []; omega⟩, fun b hb => by
    obtain ⟨-, -, -, w4, w5, -⟩ := O0 b hb
    have a4 := wf_u64 w4; have a5 := wf_u64 w5
    exact ⟨⟨by omega, by omega⟩, by omega, by omega⟩⟩

set_option maxRecDepth 100000 in
theorem lifted (os : Os) (started : os.Started) (H : Type) (enc : TypeId × Value → H) :
    ReturnsInHanded {} Try.checked os 9 .any (Rows.savedTellsSpec.pre6 enc Try.prog Try.f9 Rows.savedTellsRow.domain false) (Rows.savedTellsSpec.post enc Try.prog Try.f9 false true false false) := by
  refine returnsInHanded_of_change (C := Try.checked) own started (by kernel_rfl) Try.func9
    (ChangeSpec.witness6 (enc := enc) (C := Try.checked) false ⟨#[], #[.agg ⟨[.int .u64 0, .int .u64 0, .int .i64 0, .slice none 0 0]⟩, .agg ⟨[.int .u64 0, .int .u64 0, .int .i64 0, .slice none 0 0]⟩, .string ⟨#[]⟩], []⟩ 8 (by kernel_rfl) (by kernel_rfl) (by kernel_rfl) (by kernel_rfl)) ?_
  intro W base args ds gs before hval0 hW hcnd _
  have hval : ∀ (j : Nat) t v, Try.f9.params[j]? = some t → args[j]? = some v → Value.okWide Try.prog W .any base t v := hval0
  have hW' := hW
  obtain ⟨p, q, hA0, hV, rfl, hfz, hnd⟩ := hW
  have hA : DataW.TrodAll enc Try.prog W 0 (fun _ => true) true Try.f9.params.toList args.toList ds p := hA0
  rw [Try.params9] at hA hval
  obtain ⟨v0, vs0, d0, ds0, p0, q0, hargs, rfl, rfl, h0, r0⟩ := trodAll_cons hA
  obtain ⟨v1, vs1, d1, ds1, p1, q1, rfl, rfl, rfl, h1, r1⟩ := trodAll_cons r0
  obtain ⟨v2, vs2, d2, ds2, p2, q2, rfl, rfl, rfl, h2, r2⟩ := trodAll_cons r1
  obtain ⟨rfl, rfl, rfl⟩ := trodAll_nil r2
  obtain rfl : args = #[v0, v1, v2] := by cases args; simp_all
  obtain ⟨rfl, rfl⟩ := trodVars_none hV
  have lt0 : ∀ x ∈ p0, x.block < W.heap.size := by obtain ⟨m, hm⟩ := h0; exact DataW.trod_lt m _ _ _ hm
  have lt1 : ∀ x ∈ p1, x.block < W.heap.size := by obtain ⟨m, hm⟩ := h1; exact DataW.trod_lt m _ _ _ hm
  have lt2 : ∀ x ∈ p2, x.block < W.heap.size := by obtain ⟨m, hm⟩ := h2; exact DataW.trod_lt m _ _ _ hm
  obtain ⟨pre0, a0, len0, cap0, z0, rfl, c0, row0⟩ := open_ag (n := 8) (ks0 := [(.int .u64), (.int .u64), (.int .i64)]) (ks := [(.int .i64), (.int .i64), (.int .i64), .bool, (.int .u64), (.int .u64)]) (by kernel_rfl) (hval 0 90 v0 rfl rfl) h0
  obtain ⟨_, cs0_0, rfl, ⟨x0_0, rfl, wx0_0⟩, c0_0⟩ := c0.inv
  obtain ⟨_, cs0_1, rfl, ⟨x0_1, rfl, wx0_1⟩, c0_1⟩ := c0_0.inv
  obtain ⟨_, cs0_2, rfl, ⟨x0_2, rfl, wx0_2⟩, c0_2⟩ := c0_1.inv
  obtain rfl := c0_2.inv0
  obtain ⟨pre1, a1, len1, cap1, z1, rfl, c1, row1⟩ := open_ag (n := 8) (ks0 := [(.int .u64), (.int .u64), (.int .i64)]) (ks := [(.int .i64), (.int .i64), (.int .i64), .bool, (.int .u64), (.int .u64)]) (by kernel_rfl) (hval 1 90 v1 rfl rfl) h1
  obtain ⟨_, cs1_0, rfl, ⟨x1_0, rfl, wx1_0⟩, c1_0⟩ := c1.inv
  obtain ⟨_, cs1_1, rfl, ⟨x1_1, rfl, wx1_1⟩, c1_1⟩ := c1_0.inv
  obtain ⟨_, cs1_2, rfl, ⟨x1_2, rfl, wx1_2⟩, c1_2⟩ := c1_1.inv
  obtain rfl := c1_2.inv0
  obtain ⟨x2_0, rfl⟩ := okWide_string Try.underlying9 (hval 2 9 v2 rfl rfl)
  have wx2_0 : x2_0.size ≤ maxLen := by
    obtain ⟨c2, _⟩ := open_flat (n := 8) (ks := [.str]) (by kernel_rfl) (hval 2 9 _ rfl rfl) h2
    obtain ⟨_, _, e, ⟨_, e2, hw⟩, _⟩ := c2.inv
    cases e; cases e2; exact hw
  clear hA0 hval0
  refine (walk W x0_0 wx0_0 x0_1 wx0_1 x0_2 wx0_2 a0 len0 cap0 z0 row0 x1_0 wx1_0 x1_1 wx1_1 x1_2 wx1_2 a1 len1 cap1 z1 row1 x2_0 wx2_0).mono fun e W' ⟨he, bel⟩ => ?_
  subst he
  exact ⟨_, rfl, _, _, _, [], _, [], hW', trodAll_mk1 (shut_bool Try.underlying4 _), (trodAll_cons_mk (Below.trod laidOut (by kernel_rfl) (of_decide_eq_true (by kernel_rfl)) h0 bel lt0) (trodAll_cons_mk (Below.trod laidOut (by kernel_rfl) (of_decide_eq_true (by kernel_rfl)) h1 bel lt1) (trodAll_cons_mk (Below.trod laidOut (by kernel_rfl) (of_decide_eq_true (by kernel_rfl)) h2 bel lt2) trodAll_mk0))), rfl, bel.frame _, fun h => by cases h⟩

theorem over : Rows.savedTellsRow.holds Try.pinned (OpenSpec.ofChange Rows.savedTellsSpec) :=
  OpenClaim.holds_of_wide 9 Try.f9 rfl rfl rfl rfl rfl rfl rfl ⟨rfl, rfl, rfl, rfl, rfl⟩ rfl rfl rfl rfl rfl (by kernel_rfl) Try.func9 (by kernel_rfl)
    (of_decide_eq_true (by kernel_rfl)) (by unfold Func.isWrapper; first | (rw [if_pos (by decide +kernel)]; kernel_rfl) | (rw [if_neg (by decide +kernel)]; exact ⟨rfl, rfl⟩))
    (fun os started H enc _ => lifted os started H enc)

theorem proved : Rows.SavedTellsSaid := over
#print axioms proved
end Go.Proofs.Ytadhjooghfdloaa.savedTells
