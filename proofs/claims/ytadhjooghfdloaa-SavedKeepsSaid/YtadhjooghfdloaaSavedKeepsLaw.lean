/-
  The law SavedKeeps returns true at all arguments, and it writes nothing that was there.
  The frame is written by a program off the print for this function; the walk stands in the texts that are imported.
-/
import Derived.Test.YtadhjooghfdloaaRows
import Derived.WalkKit
import Derived.ProofKit
import Derived.OpenShut
import Derived.ShutString
import Derived.ChangeOld
import Derived.Below
import Derived.Carry
import Derived.Test.YtadhjooghfdloaaNSavedKeepsf
namespace Go.Proofs.Ytadhjooghfdloaa.savedKeeps
open Go.ChangeShapes Go.WideShapes Go.ChangeAt Go.RowKit Go.Vm
set_option linter.unusedVariables false

theorem own : ownKnob Try.prog.godebug = none := by kernel_rfl
theorem laidOut : laidOutB Try.prog = true := by kernel_rfl

theorem walk (W : World) (x0_0 : Int) (wx0_0 : (Lit.int .u64 x0_0).wf = true) (x0_1 : Int) (wx0_1 : (Lit.int .u64 x0_1).wf = true) (a1 : Option Addr) (len1 cap1 : Nat) (z1 : List Value) (row1 : RowN W [(.int .i64), (.int .i64), (.int .i64), .bool, (.int .u64), (.int .u64), .bool] a1 len1 cap1 z1) :
    Calls Try.prog 11 #[.agg ⟨[.int .u64 x0_0, .int .u64 x0_1]⟩, .slice a1 len1 cap1] W fun e w' => e = .returned (.bool true) ∧ Below W.heap.size W w' := by
  obtain ⟨A1, Z1, C1, M1⟩ := ArgR.rowN row1 (by decide)
  obtain ⟨xs1, e1, L1, O1⟩ := rows_of (c := Go.Vm.Code.cR23_Step) (ok := fun (x : Go.Vm.Code.R23_Step) => (Lit.int .i64 x.Kind).wf = true ∧ (Lit.int .i64 x.ID).wf = true ∧ (Lit.int .i64 x.N).wf = true ∧ (Lit.int .u64 x.Addr.Hi).wf = true ∧ (Lit.int .u64 x.Addr.Lo).wf = true ∧ True) (fun cs h => by
    obtain ⟨_, cs0, rfl, ⟨y0, rfl, w0⟩, h0⟩ := h.inv
    obtain ⟨_, cs1, rfl, ⟨y1, rfl, w1⟩, h1⟩ := h0.inv
    obtain ⟨_, cs2, rfl, ⟨y2, rfl, w2⟩, h2⟩ := h1.inv
    obtain ⟨_, cs3, rfl, ⟨y3, rfl⟩, h3⟩ := h2.inv
    obtain ⟨_, cs4, rfl, ⟨y4, rfl, w4⟩, h4⟩ := h3.inv
    obtain ⟨_, cs5, rfl, ⟨y5, rfl, w5⟩, h5⟩ := h4.inv
    obtain ⟨_, cs6, rfl, ⟨y6, rfl⟩, h6⟩ := h5.inv
    obtain rfl := h6.inv0
    exact ⟨(Go.Vm.Code.R23_Step.mk y0 y1 y2 (Go.Vm.Code.api_Addr.mk y3 y4 y5) y6), rfl, ⟨w0, w1, w2, w4, w5, trivial⟩⟩) len1 _ Z1 C1
  rw [e1] at A1
  refine calls_of_leads Go.Vm.Code.tab_ok (ms := [.v, .sl 7]) (aqs := [.v (.agg ⟨[.int .u64 x0_0, .int .u64 x0_1]⟩), .sl len1 (vT Go.Vm.Code.cR23_Step xs1)]) (r := true) (.cons ⟨rfl, rfl⟩ (.cons A1 .nil)) rfl ?_
  subst L1
  have hS : SumsOK Try.prog (aget (Go.Vm.Code.sums11 Go.Vm.Code.health_Right Go.Vm.Code.law55_awake Go.Vm.Code.registry_Registry_Add Go.Vm.Code.registry_Registry_Drain Go.Vm.Code.registry_Registry_List Go.Vm.Code.registry_Registry_Probe Go.Vm.Code.registry_Registry_Remove Go.Vm.Code.registry_Registry_Weight Go.Vm.Code.saved_Get Go.Vm.Code.saved_Of Go.Vm.Code.saved_Put Go.Vm.Code.saved_Right Go.Vm.Code.saved_Same)) := SumsOK.of_tab ⟨Go.Vm.Code.lift69, Go.Vm.Code.lift47, Go.Vm.Code.lift26, Go.Vm.Code.lift28, Go.Vm.Code.lift22, Go.Vm.Code.lift30, Go.Vm.Code.lift27, Go.Vm.Code.lift29, Go.Vm.Code.lift48, Go.Vm.Code.lift58, Go.Vm.Code.lift53, Go.Vm.Code.lift56, Go.Vm.Code.lift60, trivial⟩
  refine (Go.Vm.Code.leads11 Go.Vm.Code.health_Right Go.Vm.Code.law55_awake Go.Vm.Code.registry_Registry_Add Go.Vm.Code.registry_Registry_Drain Go.Vm.Code.registry_Registry_List Go.Vm.Code.registry_Registry_Probe Go.Vm.Code.registry_Registry_Remove Go.Vm.Code.registry_Registry_Weight Go.Vm.Code.saved_Get Go.Vm.Code.saved_Of Go.Vm.Code.saved_Put Go.Vm.Code.saved_Right Go.Vm.Code.saved_Same hS (Go.Vm.Code.api_Key.mk x0_0 x0_1) xs1 true ?_).mono fun v H t hp => Res.flat rfl rfl hp
  exact Go.Vm.Code.savedKeeps _ _ ⟨⟨(wf_u64 wx0_0).1, by have := (wf_u64 wx0_0).2; simp only []; omega⟩, (wf_u64 wx0_1).1, by have := (wf_u64 wx0_1).2; simp only []; omega⟩ (fun s hs => by
    obtain ⟨-, -, -, w3, w4, -⟩ := O1 s hs
    have a3 := wf_u64 w3; have a4 := wf_u64 w4
    exact ⟨⟨by omega, by omega⟩, by omega, by omega⟩)

set_option maxRecDepth 100000 in
theorem lifted (os : Os) (started : os.Started) (H : Type) (enc : TypeId × Value → H) :
    ReturnsInHanded {} Try.checked os 11 .any (Rows.savedKeepsSpec.pre6 enc Try.prog Try.f11 Rows.savedKeepsRow.domain false) (Rows.savedKeepsSpec.post enc Try.prog Try.f11 false true false false) := by
  refine returnsInHanded_of_change (C := Try.checked) own started (by kernel_rfl) Try.func11
    (ChangeSpec.witness6 (enc := enc) (C := Try.checked) false ⟨#[], #[.agg ⟨[.int .u64 0, .int .u64 0]⟩, .slice none 0 0], []⟩ 8 (by kernel_rfl) (by kernel_rfl) (by kernel_rfl) (by kernel_rfl)) ?_
  intro W base args ds gs before hval0 hW hcnd _
  have hval : ∀ (j : Nat) t v, Try.f11.params[j]? = some t → args[j]? = some v → Value.okWide Try.prog W .any base t v := hval0
  have hW' := hW
  obtain ⟨p, q, hA0, hV, rfl, hfz, hnd⟩ := hW
  have hA : DataW.TrodAll enc Try.prog W 0 (fun _ => true) true Try.f11.params.toList args.toList ds p := hA0
  rw [Try.params11] at hA hval
  obtain ⟨v0, vs0, d0, ds0, p0, q0, hargs, rfl, rfl, h0, r0⟩ := trodAll_cons hA
  obtain ⟨v1, vs1, d1, ds1, p1, q1, rfl, rfl, rfl, h1, r1⟩ := trodAll_cons r0
  obtain ⟨rfl, rfl, rfl⟩ := trodAll_nil r1
  obtain rfl : args = #[v0, v1] := by cases args; simp_all
  obtain ⟨rfl, rfl⟩ := trodVars_none hV
  have lt0 : ∀ x ∈ p0, x.block < W.heap.size := by obtain ⟨m, hm⟩ := h0; exact DataW.trod_lt m _ _ _ hm
  have lt1 : ∀ x ∈ p1, x.block < W.heap.size := by obtain ⟨m, hm⟩ := h1; exact DataW.trod_lt m _ _ _ hm
  obtain ⟨c0, b0⟩ := open_flat (n := 8) (ks := [(.int .u64), (.int .u64)]) (by kernel_rfl) (hval 0 60 v0 rfl rfl) h0
  obtain ⟨-, b0⟩ := b0.resolve_right (by rw [show isAggB Try.prog 60 = true by kernel_rfl]; exact Bool.noConfusion)
  generalize hcs0 : cellsL v0 = cs0 at c0 b0
  clear hcs0
  subst b0
  obtain ⟨_, cs0_0, rfl, ⟨x0_0, rfl, wx0_0⟩, c0_0⟩ := c0.inv
  obtain ⟨_, cs0_1, rfl, ⟨x0_1, rfl, wx0_1⟩, c0_1⟩ := c0_0.inv
  obtain rfl := c0_1.inv0
  obtain ⟨a1, len1, cap1, z1, rfl, row1⟩ := open_rowN Try.underlying24 (by kernel_rfl) (ks := [(.int .i64), (.int .i64), (.int .i64), .bool, (.int .u64), (.int .u64), .bool]) (n := 8) (by kernel_rfl) (hval 1 24 v1 rfl rfl) h1
  clear hA0 hval0
  refine (walk W x0_0 wx0_0 x0_1 wx0_1 a1 len1 cap1 z1 row1).mono fun e W' ⟨he, bel⟩ => ?_
  subst he
  exact ⟨_, rfl, _, _, _, [], _, [], hW', trodAll_mk1 (shut_bool Try.underlying4 _), (trodAll_cons_mk (Below.trod laidOut (by kernel_rfl) (of_decide_eq_true (by kernel_rfl)) h0 bel lt0) (trodAll_cons_mk (Below.trod laidOut (by kernel_rfl) (of_decide_eq_true (by kernel_rfl)) h1 bel lt1) trodAll_mk0)), rfl, bel.frame _, fun h => by cases h⟩

theorem over : Rows.savedKeepsRow.holds Try.pinned (OpenSpec.ofChange Rows.savedKeepsSpec) :=
  OpenClaim.holds_of_wide 11 Try.f11 rfl rfl rfl rfl rfl rfl rfl ⟨rfl, rfl, rfl, rfl, rfl⟩ rfl rfl rfl rfl rfl (by kernel_rfl) Try.func11 (by kernel_rfl)
    (of_decide_eq_true (by kernel_rfl)) (by unfold Func.isWrapper; first | (rw [if_pos (by decide +kernel)]; kernel_rfl) | (rw [if_neg (by decide +kernel)]; exact ⟨rfl, rfl⟩))
    (fun os started H enc _ => lifted os started H enc)

theorem proved : Rows.SavedKeepsSaid := over
#print axioms proved
end Go.Proofs.Ytadhjooghfdloaa.savedKeeps
