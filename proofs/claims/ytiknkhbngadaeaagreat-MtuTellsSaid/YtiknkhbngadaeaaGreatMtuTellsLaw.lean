/-
  The law MtuTells returns true at all arguments, and it writes nothing that was there.
  The frame is written by a program off the print for this function; the walk stands in the texts that are imported.
-/
import Derived.Test.YtiknkhbngadaeaaGreatRows
import Derived.WalkKit
import Derived.ProofKit
import Derived.OpenShut
import Derived.ShutString
import Derived.ChangeOld
import Derived.Below
import Derived.Carry
import Derived.Test.YtiknkhbngadaeaaGreatNMtuTellsf
namespace Go.Proofs.YtiknkhbngadaeaaGreat.mtuTells
open Go.ChangeShapes Go.WideShapes Go.ChangeAt Go.RowKit Go.Vm
set_option linter.unusedVariables false

theorem own : ownKnob Tryz.prog.godebug = none := by kernel_rfl
theorem laidOut : laidOutB Tryz.prog = true := by kernel_rfl

theorem walk (W : World) (x0_0 : ByteArray) (wx0_0 : x0_0.size ≤ maxLen) (x1_0 : Int) (wx1_0 : (Lit.int .i64 x1_0).wf = true) (x2_0 : Bool) (x3_0 : Int) (wx3_0 : (Lit.int .i64 x3_0).wf = true) (x4_0 : Int) (wx4_0 : (Lit.int .i64 x4_0).wf = true) (a5 : Option Addr) (len5 cap5 : Nat) (z5 : List Value) (row5 : RowR W (.int .i64) a5 len5 cap5 z5) :
    Calls Tryz.prog 3 #[.string x0_0, .int .i64 x1_0, .bool x2_0, .int .i64 x3_0, .int .i64 x4_0, .slice a5 len5 cap5] W fun e w' => e = .returned (.bool true) ∧ Below W.heap.size W w' := by
  obtain ⟨A5, L5, K5, M5⟩ := ArgR.row row5
  obtain ⟨xs5, e5, w5⟩ := XuR K5
  rw [e5] at A5 L5
  rw [List.length_map] at L5
  refine Xv4 Go.Vm.Code.Xam (ms := [.v, .v, .v, .v, .v, .sl 1]) (aqs := [.v (.string x0_0), .v (.int .i64 x1_0), .v (.bool x2_0), .v (.int .i64 x3_0), .v (.int .i64 x4_0), .sl len5 (xs5.map (Value.int .i64))]) (r := true) (.cons ⟨rfl, rfl⟩ (.cons ⟨rfl, rfl⟩ (.cons ⟨rfl, rfl⟩ (.cons ⟨rfl, rfl⟩ (.cons ⟨rfl, rfl⟩ (.cons A5 .nil)))))) rfl ?_
  subst L5
  have hS : Xai Tryz.prog (Xar (Go.Vm.Code.sums3 Go.Vm.Code.XdO Go.Vm.Code.XeH Go.Vm.Code.XbQ Go.Vm.Code.Xcu Go.Vm.Code.Xbs Go.Vm.Code.XaX Go.Vm.Code.XbP Go.Vm.Code.XeB Go.Vm.Code.Xa1)) := Xai.XaW ⟨Go.Vm.Code.lift13, Go.Vm.Code.lift7, Go.Vm.Code.lift9, Go.Vm.Code.lift5, Go.Vm.Code.XAX, Go.Vm.Code.XAc, Go.Vm.Code.X3M, Go.Vm.Code.lift6, Go.Vm.Code.XHG, trivial⟩
  refine (Go.Vm.Code.leads3 Go.Vm.Code.XdO Go.Vm.Code.XeH Go.Vm.Code.XbQ Go.Vm.Code.Xcu Go.Vm.Code.Xbs Go.Vm.Code.XaX Go.Vm.Code.XbP Go.Vm.Code.XeB Go.Vm.Code.Xa1 hS x0_0.data.toList x1_0 x2_0 x3_0 x4_0 xs5 true ?_).mono fun v H t hp => Res.flat rfl rfl hp
  exact Go.Vm.Code.mtuTells _ _ _ _ _ _

set_option maxRecDepth 100000 in
theorem lifted (os : Os) (started : os.Started) (H : Type) (enc : TypeId × Value → H) :
    ReturnsInHanded {} Tryz.checked os 3 .any (Rows.mtuTellsSpec.pre6 enc Tryz.prog Tryz.f3 Rows.mtuTellsRow.domain false) (Rows.mtuTellsSpec.post enc Tryz.prog Tryz.f3 false true false false) := by
  refine returnsInHanded_of_change (C := Tryz.checked) own started (by kernel_rfl) Tryz.func3
    (ChangeSpec.witness6 (enc := enc) (C := Tryz.checked) false ⟨#[], #[.string ⟨#[]⟩, .int .i64 0, .bool false, .int .i64 0, .int .i64 0, .slice none 0 0], []⟩ 8 (by kernel_rfl) (by kernel_rfl) (by kernel_rfl) (by kernel_rfl)) ?_
  intro W base args ds gs before hval0 hW hcnd _
  have hval : ∀ (j : Nat) t v, Tryz.f3.params[j]? = some t → args[j]? = some v → Value.okWide Tryz.prog W .any base t v := hval0
  have hW' := hW
  obtain ⟨p, q, hA0, hV, rfl, hfz, hnd⟩ := hW
  have hA : DataW.TrodAll enc Tryz.prog W 0 (fun _ => true) true Tryz.f3.params.toList args.toList ds p := hA0
  rw [Tryz.params3] at hA hval
  obtain ⟨v0, vs0, d0, ds0, p0, q0, hargs, rfl, rfl, h0, r0⟩ := trodAll_cons hA
  obtain ⟨v1, vs1, d1, ds1, p1, q1, rfl, rfl, rfl, h1, r1⟩ := trodAll_cons r0
  obtain ⟨v2, vs2, d2, ds2, p2, q2, rfl, rfl, rfl, h2, r2⟩ := trodAll_cons r1
  obtain ⟨v3, vs3, d3, ds3, p3, q3, rfl, rfl, rfl, h3, r3⟩ := trodAll_cons r2
  obtain ⟨v4, vs4, d4, ds4, p4, q4, rfl, rfl, rfl, h4, r4⟩ := trodAll_cons r3
  obtain ⟨v5, vs5, d5, ds5, p5, q5, rfl, rfl, rfl, h5, r5⟩ := trodAll_cons r4
  obtain ⟨rfl, rfl, rfl⟩ := trodAll_nil r5
  obtain rfl : args = #[v0, v1, v2, v3, v4, v5] := by cases args; simp_all
  obtain ⟨rfl, rfl⟩ := trodVars_none hV
  have lt0 : ∀ x ∈ p0, x.block < W.heap.size := by obtain ⟨m, hm⟩ := h0; exact DataW.trod_lt m _ _ _ hm
  have lt1 : ∀ x ∈ p1, x.block < W.heap.size := by obtain ⟨m, hm⟩ := h1; exact DataW.trod_lt m _ _ _ hm
  have lt2 : ∀ x ∈ p2, x.block < W.heap.size := by obtain ⟨m, hm⟩ := h2; exact DataW.trod_lt m _ _ _ hm
  have lt3 : ∀ x ∈ p3, x.block < W.heap.size := by obtain ⟨m, hm⟩ := h3; exact DataW.trod_lt m _ _ _ hm
  have lt4 : ∀ x ∈ p4, x.block < W.heap.size := by obtain ⟨m, hm⟩ := h4; exact DataW.trod_lt m _ _ _ hm
  have lt5 : ∀ x ∈ p5, x.block < W.heap.size := by obtain ⟨m, hm⟩ := h5; exact DataW.trod_lt m _ _ _ hm
  obtain ⟨x0_0, rfl⟩ := okWide_string Tryz.underlying9 (hval 0 9 v0 rfl rfl)
  have wx0_0 : x0_0.size ≤ maxLen := by
    obtain ⟨c0, _⟩ := X2w (n := 8) (ks := [.str]) (by kernel_rfl) (hval 0 9 _ rfl rfl) h0
    obtain ⟨_, _, e, ⟨_, e2, hw⟩, _⟩ := c0.inv
    cases e; cases e2; exact hw
  obtain ⟨x1_0, rfl⟩ := okWide_int Tryz.underlying3 (hval 1 3 v1 rfl rfl)
  have wx1_0 : (Lit.int .i64 x1_0).wf = true := by
    obtain ⟨c1, _⟩ := X2w (n := 8) (ks := [(.int .i64)]) (by kernel_rfl) (hval 1 3 _ rfl rfl) h1
    obtain ⟨_, _, e, ⟨_, e2, hw⟩, _⟩ := c1.inv
    cases e; cases e2; exact hw
  obtain ⟨x2_0, rfl⟩ := okWide_bool Tryz.underlying4 (hval 2 4 v2 rfl rfl)
  obtain ⟨x3_0, rfl⟩ := okWide_int Tryz.underlying3 (hval 3 3 v3 rfl rfl)
  have wx3_0 : (Lit.int .i64 x3_0).wf = true := by
    obtain ⟨c3, _⟩ := X2w (n := 8) (ks := [(.int .i64)]) (by kernel_rfl) (hval 3 3 _ rfl rfl) h3
    obtain ⟨_, _, e, ⟨_, e2, hw⟩, _⟩ := c3.inv
    cases e; cases e2; exact hw
  obtain ⟨x4_0, rfl⟩ := okWide_int Tryz.underlying3 (hval 4 3 v4 rfl rfl)
  have wx4_0 : (Lit.int .i64 x4_0).wf = true := by
    obtain ⟨c4, _⟩ := X2w (n := 8) (ks := [(.int .i64)]) (by kernel_rfl) (hval 4 3 _ rfl rfl) h4
    obtain ⟨_, _, e, ⟨_, e2, hw⟩, _⟩ := c4.inv
    cases e; cases e2; exact hw
  obtain ⟨a5, len5, cap5, z5, rfl, row5⟩ := open_row Tryz.underlying22 (by kernel_rfl) (k := (.int .i64)) (n := 8) (by kernel_rfl) (hval 5 22 v5 rfl rfl) h5
  clear hA0 hval0
  refine (walk W x0_0 wx0_0 x1_0 wx1_0 x2_0 x3_0 wx3_0 x4_0 wx4_0 a5 len5 cap5 z5 row5).mono fun e W' ⟨he, bel⟩ => ?_
  subst he
  exact ⟨_, rfl, _, _, _, [], _, [], hW', trodAll_mk1 (shut_bool Tryz.underlying4 _), (trodAll_cons_mk (Below.trod laidOut (by kernel_rfl) (of_decide_eq_true (by kernel_rfl)) h0 bel lt0) (trodAll_cons_mk (Below.trod laidOut (by kernel_rfl) (of_decide_eq_true (by kernel_rfl)) h1 bel lt1) (trodAll_cons_mk (Below.trod laidOut (by kernel_rfl) (of_decide_eq_true (by kernel_rfl)) h2 bel lt2) (trodAll_cons_mk (Below.trod laidOut (by kernel_rfl) (of_decide_eq_true (by kernel_rfl)) h3 bel lt3) (trodAll_cons_mk (Below.trod laidOut (by kernel_rfl) (of_decide_eq_true (by kernel_rfl)) h4 bel lt4) (trodAll_cons_mk (Below.trod laidOut (by kernel_rfl) (of_decide_eq_true (by kernel_rfl)) h5 bel lt5) trodAll_mk0)))))), rfl, bel.frame _, fun h => by cases h⟩

theorem over : Rows.mtuTellsRow.holds Tryz.pinned (OpenSpec.ofChange Rows.mtuTellsSpec) :=
  OpenClaim.holds_of_wide 3 Tryz.f3 rfl rfl rfl rfl rfl rfl rfl ⟨rfl, rfl, rfl, rfl, rfl⟩ rfl rfl rfl rfl rfl (by kernel_rfl) Tryz.func3 (by kernel_rfl)
    (of_decide_eq_true (by kernel_rfl)) (by unfold Func.isWrapper; first | (rw [if_pos (by decide +kernel)]; kernel_rfl) | (rw [if_neg (by decide +kernel)]; exact ⟨rfl, rfl⟩))
    (fun os started H enc _ => lifted os started H enc)

theorem proved : Rows.MtuTellsSaid := over
#print axioms proved
end Go.Proofs.YtiknkhbngadaeaaGreat.mtuTells
