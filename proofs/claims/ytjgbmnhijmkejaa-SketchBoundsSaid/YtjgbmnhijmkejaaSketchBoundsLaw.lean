/-
  The law SketchBounds returns true at all arguments, and it writes nothing that was there.
  The frame is written by a program off the print for this function; the walk stands in the texts that are imported.
-/
import Derived.Test.YtjgbmnhijmkejaaRows
import Derived.WalkKit
import Derived.ProofKit
import Derived.OpenShut
import Derived.ShutString
import Derived.ChangeOld
import Derived.Below
import Derived.Carry
import Derived.Test.YtjgbmnhijmkejaaNSketchBoundse
namespace Go.Proofs.Ytjgbmnhijmkejaa.sketchBounds
open Go.ChangeShapes Go.WideShapes Go.ChangeAt Go.RowKit Go.Vm
set_option linter.unusedVariables false

theorem own : ownKnob Try.prog.godebug = none := by kernel_rfl
theorem laidOut : laidOutB Try.prog = true := by kernel_rfl

theorem walk (W : World) (x0_0 : Int) (wx0_0 : (Lit.int .u8 x0_0).wf = true) (x1_0 : Int) (wx1_0 : (Lit.int .u8 x1_0).wf = true) (x2_0 : Int) (wx2_0 : (Lit.int .u64 x2_0).wf = true) (x2_1 : Int) (wx2_1 : (Lit.int .u64 x2_1).wf = true) (a3 : Option Addr) (len3 cap3 : Nat) (z3 : List Value) (row3 : RowN W [.str, (.int .i64)] a3 len3 cap3 z3) :
    Calls Try.prog 4 #[.int .u8 x0_0, .int .u8 x1_0, .agg ⟨[.int .u64 x2_0, .int .u64 x2_1]⟩, .slice a3 len3 cap3] W fun e w' => e = .returned (.bool true) ∧ Below W.heap.size W w' := by
  obtain ⟨A3, Z3, C3, M3⟩ := XBz.rowN row3 (by decide)
  obtain ⟨xs3, e3, L3, O3⟩ := Xzn (c := Go.Vm.Code.Xbb) (ok := fun (x : Go.Vm.Code.Xan) => x.Text.length ≤ maxLen ∧ (Lit.int .i64 x.N).wf = true ∧ True) (fun cs h => by
    obtain ⟨_, cs0, rfl, ⟨y0, rfl, w0⟩, h0⟩ := h.inv
    obtain ⟨_, cs1, rfl, ⟨y1, rfl, w1⟩, h1⟩ := h0.inv
    obtain rfl := h1.inv0
    exact ⟨(Go.Vm.Code.Xan.mk y0.data.toList y1), rfl, ⟨w0, w1, trivial⟩⟩) len3 _ Z3 C3
  rw [e3] at A3
  refine XuT Go.Vm.Code.XaN (ms := [.v, .v, .v, .sl 2]) (aqs := [.v (.int .u8 x0_0), .v (.int .u8 x1_0), .v (.agg ⟨[.int .u64 x2_0, .int .u64 x2_1]⟩), .sl len3 (vT Go.Vm.Code.Xbb xs3)]) (r := true) (.cons ⟨rfl, rfl⟩ (.cons ⟨rfl, rfl⟩ (.cons ⟨rfl, rfl⟩ (.cons A3 .nil)))) rfl ?_
  subst L3
  have hS : XaB Try.prog (XaI (Go.Vm.Code.XgA Go.Vm.Code.Xah Go.Vm.Code.XaD Go.Vm.Code.Xaq Go.Vm.Code.Xac Go.Vm.Code.Xaf Go.Vm.Code.Xad)) := XaB.Xa4 ⟨Go.Vm.Code.lift9, Go.Vm.Code.lift8, Go.Vm.Code.XDf, Go.Vm.Code.XCq, Go.Vm.Code.XCb, Go.Vm.Code.XCA, trivial⟩
  refine (Go.Vm.Code.leads4 Go.Vm.Code.Xah Go.Vm.Code.XaD Go.Vm.Code.Xaq Go.Vm.Code.Xac Go.Vm.Code.Xaf Go.Vm.Code.Xad hS x0_0 x1_0 (Go.Vm.Code.Xap.mk x2_0 x2_1) xs3 true ?_).mono fun v H t hp => Res.flat rfl rfl hp
  exact Go.Vm.Code.sketchBounds _ _ _ _ (wf_u8 wx0_0) (wf_u8 wx1_0)

set_option maxRecDepth 100000 in
theorem lifted (os : Os) (started : os.Started) (H : Type) (enc : TypeId × Value → H) :
    ReturnsInHanded {} Try.checked os 4 .any (Rows.sketchBoundsSpec.pre6 enc Try.prog Try.f4 Rows.sketchBoundsRow.domain false) (Rows.sketchBoundsSpec.post enc Try.prog Try.f4 false true false false) := by
  refine returnsInHanded_of_change (C := Try.checked) own started (by kernel_rfl) Try.func4
    (ChangeSpec.witness6 (enc := enc) (C := Try.checked) false ⟨#[], #[.int .u8 0, .int .u8 0, .agg ⟨[.int .u64 0, .int .u64 0]⟩, .slice none 0 0], []⟩ 8 (by kernel_rfl) (by kernel_rfl) (by kernel_rfl) (by kernel_rfl)) ?_
  intro W base args ds gs before hval0 hW hcnd _
  have hval : ∀ (j : Nat) t v, Try.f4.params[j]? = some t → args[j]? = some v → Value.okWide Try.prog W .any base t v := hval0
  have hW' := hW
  obtain ⟨p, q, hA0, hV, rfl, hfz, hnd⟩ := hW
  have hA : DataW.TrodAll enc Try.prog W 0 (fun _ => true) true Try.f4.params.toList args.toList ds p := hA0
  rw [Try.params4] at hA hval
  obtain ⟨v0, vs0, d0, ds0, p0, q0, hargs, rfl, rfl, h0, r0⟩ := trodAll_cons hA
  obtain ⟨v1, vs1, d1, ds1, p1, q1, rfl, rfl, rfl, h1, r1⟩ := trodAll_cons r0
  obtain ⟨v2, vs2, d2, ds2, p2, q2, rfl, rfl, rfl, h2, r2⟩ := trodAll_cons r1
  obtain ⟨v3, vs3, d3, ds3, p3, q3, rfl, rfl, rfl, h3, r3⟩ := trodAll_cons r2
  obtain ⟨rfl, rfl, rfl⟩ := trodAll_nil r3
  obtain rfl : args = #[v0, v1, v2, v3] := by cases args; simp_all
  obtain ⟨rfl, rfl⟩ := trodVars_none hV
  have lt0 : ∀ x ∈ p0, x.block < W.heap.size := by obtain ⟨m, hm⟩ := h0; exact DataW.trod_lt m _ _ _ hm
  have lt1 : ∀ x ∈ p1, x.block < W.heap.size := by obtain ⟨m, hm⟩ := h1; exact DataW.trod_lt m _ _ _ hm
  have lt2 : ∀ x ∈ p2, x.block < W.heap.size := by obtain ⟨m, hm⟩ := h2; exact DataW.trod_lt m _ _ _ hm
  have lt3 : ∀ x ∈ p3, x.block < W.heap.size := by obtain ⟨m, hm⟩ := h3; exact DataW.trod_lt m _ _ _ hm
  obtain ⟨x0_0, rfl⟩ := okWide_int Try.underlying5 (hval 0 5 v0 rfl rfl)
  have wx0_0 : (Lit.int .u8 x0_0).wf = true := by
    obtain ⟨c0, _⟩ := XCv (n := 8) (ks := [(.int .u8)]) (by kernel_rfl) (hval 0 5 _ rfl rfl) h0
    obtain ⟨_, _, e, ⟨_, e2, hw⟩, _⟩ := c0.inv
    cases e; cases e2; exact hw
  obtain ⟨x1_0, rfl⟩ := okWide_int Try.underlying5 (hval 1 5 v1 rfl rfl)
  have wx1_0 : (Lit.int .u8 x1_0).wf = true := by
    obtain ⟨c1, _⟩ := XCv (n := 8) (ks := [(.int .u8)]) (by kernel_rfl) (hval 1 5 _ rfl rfl) h1
    obtain ⟨_, _, e, ⟨_, e2, hw⟩, _⟩ := c1.inv
    cases e; cases e2; exact hw
  obtain ⟨c2, b2⟩ := XCv (n := 8) (ks := [(.int .u64), (.int .u64)]) (by kernel_rfl) (hval 2 24 v2 rfl rfl) h2
  obtain ⟨-, b2⟩ := b2.resolve_right (by rw [show XcV Try.prog 24 = true by kernel_rfl]; exact Bool.noConfusion)
  generalize hcs2 : XaO v2 = cs2 at c2 b2
  clear hcs2
  subst b2
  obtain ⟨_, cs2_0, rfl, ⟨x2_0, rfl, wx2_0⟩, c2_0⟩ := c2.inv
  obtain ⟨_, cs2_1, rfl, ⟨x2_1, rfl, wx2_1⟩, c2_1⟩ := c2_0.inv
  obtain rfl := c2_1.inv0
  obtain ⟨a3, len3, cap3, z3, rfl, row3⟩ := XBB Try.underlying25 (by kernel_rfl) (ks := [.str, (.int .i64)]) (n := 8) (by kernel_rfl) (hval 3 25 v3 rfl rfl) h3
  clear hA0 hval0
  refine (walk W x0_0 wx0_0 x1_0 wx1_0 x2_0 wx2_0 x2_1 wx2_1 a3 len3 cap3 z3 row3).mono fun e W' ⟨he, bel⟩ => ?_
  subst he
  exact ⟨_, rfl, _, _, _, [], _, [], hW', trodAll_mk1 (shut_bool Try.underlying4 _), (trodAll_cons_mk (Below.trod laidOut (by kernel_rfl) (of_decide_eq_true (by kernel_rfl)) h0 bel lt0) (trodAll_cons_mk (Below.trod laidOut (by kernel_rfl) (of_decide_eq_true (by kernel_rfl)) h1 bel lt1) (trodAll_cons_mk (Below.trod laidOut (by kernel_rfl) (of_decide_eq_true (by kernel_rfl)) h2 bel lt2) (trodAll_cons_mk (Below.trod laidOut (by kernel_rfl) (of_decide_eq_true (by kernel_rfl)) h3 bel lt3) trodAll_mk0)))), rfl, bel.frame _, fun h => by cases h⟩

theorem over : Rows.sketchBoundsRow.holds Try.pinned (OpenSpec.ofChange Rows.sketchBoundsSpec) :=
  OpenClaim.holds_of_wide 4 Try.f4 rfl rfl rfl rfl rfl rfl rfl ⟨rfl, rfl, rfl, rfl, rfl⟩ rfl rfl rfl rfl rfl (by kernel_rfl) Try.func4 (by kernel_rfl)
    (of_decide_eq_true (by kernel_rfl)) (by unfold Func.isWrapper; first | (rw [if_pos (by decide +kernel)]; kernel_rfl) | (rw [if_neg (by decide +kernel)]; exact ⟨rfl, rfl⟩))
    (fun os started H enc _ => lifted os started H enc)

theorem proved : Rows.SketchBoundsSaid := over
#print axioms proved
end Go.Proofs.Ytjgbmnhijmkejaa.sketchBounds
