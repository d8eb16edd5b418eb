/-
  The law ShimFull returns true at all arguments, and it writes nothing that was there.
  The frame is written by a program off the print for this function; the walk stands in the texts that are imported.
-/
import Derived.Test.YtgmodbbcnfdpdaaGreatRows
import Derived.WalkKit
import Derived.ProofKit
import Derived.OpenShut
import Derived.ShutString
import Derived.ChangeOld
import Derived.Below
import Derived.Carry
import Derived.Test.YtgmodbbcnfdpdaaGreatNShimFullf
namespace Go.Proofs.YtgmodbbcnfdpdaaGreat.shimFull
open Go.ChangeShapes Go.WideShapes Go.ChangeAt Go.RowKit Go.Vm
set_option linter.unusedVariables false

theorem own : ownKnob Tryz.prog.godebug = none := by kernel_rfl
theorem laidOut : laidOutB Tryz.prog = true := by kernel_rfl

theorem walk (W : World) (x0_0 : Bool) (x1_0 : Bool) (x2_0 : Int) (wx2_0 : (Lit.int .u64 x2_0).wf = true) (x3_0 : Int) (wx3_0 : (Lit.int .u64 x3_0).wf = true) (x4_0 : Int) (wx4_0 : (Lit.int .u8 x4_0).wf = true) :
    Calls Tryz.prog 5 #[.bool x0_0, .bool x1_0, .int .u64 x2_0, .int .u64 x3_0, .int .u8 x4_0] W fun e w' => e = .returned (.bool true) ∧ Below W.heap.size W w' := by
  refine XBd Go.Vm.Code.XaQ (ms := [.v, .v, .v, .v, .v]) (aqs := [.v (.bool x0_0), .v (.bool x1_0), .v (.int .u64 x2_0), .v (.int .u64 x3_0), .v (.int .u8 x4_0)]) (r := true) (.cons ⟨rfl, rfl⟩ (.cons ⟨rfl, rfl⟩ (.cons ⟨rfl, rfl⟩ (.cons ⟨rfl, rfl⟩ (.cons ⟨rfl, rfl⟩ .nil))))) rfl ?_
  have hS : Xar Tryz.prog (XaI (Go.Vm.Code.XMT Go.Vm.Code.XbW Go.Vm.Code.XaL Go.Vm.Code.Xa3 Go.Vm.Code.Xal Go.Vm.Code.Xak Go.Vm.Code.Xaf Go.Vm.Code.XaJ Go.Vm.Code.Xau Go.Vm.Code.Xa5 Go.Vm.Code.XaF Go.Vm.Code.XaV Go.Vm.Code.Xas)) := Xar.Xa6 ⟨Go.Vm.Code.lift7, Go.Vm.Code.lift26, Go.Vm.Code.lift27, Go.Vm.Code.Xsj, Go.Vm.Code.XOT, Go.Vm.Code.XQt, Go.Vm.Code.XTn, trivial⟩
  refine (Go.Vm.Code.leads5 Go.Vm.Code.XbW Go.Vm.Code.XaL Go.Vm.Code.Xa3 Go.Vm.Code.Xal Go.Vm.Code.Xak Go.Vm.Code.Xaf Go.Vm.Code.XaJ Go.Vm.Code.Xau Go.Vm.Code.Xa5 Go.Vm.Code.XaF Go.Vm.Code.XaV Go.Vm.Code.Xas hS x0_0 x1_0 x2_0 x3_0 x4_0 true ?_).mono fun v H t hp => Res.flat rfl rfl hp
  exact Go.Vm.Code.shimFull _ _ _ _ _ ⟨(wf_u64 wx3_0).1, by have := (wf_u64 wx3_0).2; first | omega | (simp only []; omega)⟩ ⟨(wf_u8 wx4_0).1, by have := (wf_u8 wx4_0).2; first | omega | (simp only []; omega)⟩

set_option maxRecDepth 100000 in
theorem lifted (os : Os) (started : os.Started) (H : Type) (enc : TypeId × Value → H) :
    ReturnsInHanded {} Tryz.checked os 5 .any (Rows.shimFullSpec.pre6 enc Tryz.prog Tryz.f5 Rows.shimFullRow.domain false) (Rows.shimFullSpec.post enc Tryz.prog Tryz.f5 false true false false) := by
  refine returnsInHanded_of_change (C := Tryz.checked) own started (by kernel_rfl) Tryz.func5
    (ChangeSpec.witness6 (enc := enc) (C := Tryz.checked) false ⟨#[], #[.bool false, .bool false, .int .u64 0, .int .u64 0, .int .u8 0], []⟩ 8 (by kernel_rfl) (by kernel_rfl) (by kernel_rfl) (by kernel_rfl)) ?_
  intro W base args ds gs before hval0 hW hcnd _
  have hval : ∀ (j : Nat) t v, Tryz.f5.params[j]? = some t → args[j]? = some v → Value.okWide Tryz.prog W .any base t v := hval0
  have hW' := hW
  obtain ⟨p, q, hA0, hV, rfl, hfz, hnd⟩ := hW
  have hA : DataW.TrodAll enc Tryz.prog W 0 (fun _ => true) true Tryz.f5.params.toList args.toList ds p := hA0
  rw [Tryz.params5] at hA hval
  obtain ⟨v0, vs0, d0, ds0, p0, q0, hargs, rfl, rfl, h0, r0⟩ := trodAll_cons hA
  obtain ⟨v1, vs1, d1, ds1, p1, q1, rfl, rfl, rfl, h1, r1⟩ := trodAll_cons r0
  obtain ⟨v2, vs2, d2, ds2, p2, q2, rfl, rfl, rfl, h2, r2⟩ := trodAll_cons r1
  obtain ⟨v3, vs3, d3, ds3, p3, q3, rfl, rfl, rfl, h3, r3⟩ := trodAll_cons r2
  obtain ⟨v4, vs4, d4, ds4, p4, q4, rfl, rfl, rfl, h4, r4⟩ := trodAll_cons r3
  obtain ⟨rfl, rfl, rfl⟩ := trodAll_nil r4
  obtain rfl : args = #[v0, v1, v2, v3, v4] := by cases args; simp_all
  obtain ⟨rfl, rfl⟩ := trodVars_none hV
  have lt0 : ∀ x ∈ p0, x.block < W.heap.size := by obtain ⟨m, hm⟩ := h0; exact DataW.trod_lt m _ _ _ hm
  have lt1 : ∀ x ∈ p1, x.block < W.heap.size := by obtain ⟨m, hm⟩ := h1; exact DataW.trod_lt m _ _ _ hm
  have lt2 : ∀ x ∈ p2, x.block < W.heap.size := by obtain ⟨m, hm⟩ := h2; exact DataW.trod_lt m _ _ _ hm
  have lt3 : ∀ x ∈ p3, x.block < W.heap.size := by obtain ⟨m, hm⟩ := h3; exact DataW.trod_lt m _ _ _ hm
  have lt4 : ∀ x ∈ p4, x.block < W.heap.size := by obtain ⟨m, hm⟩ := h4; exact DataW.trod_lt m _ _ _ hm
  obtain ⟨x0_0, rfl⟩ := okWide_bool Tryz.underlying4 (hval 0 4 v0 rfl rfl)
  obtain ⟨x1_0, rfl⟩ := okWide_bool Tryz.underlying4 (hval 1 4 v1 rfl rfl)
  obtain ⟨x2_0, rfl⟩ := okWide_int Tryz.underlying29 (hval 2 29 v2 rfl rfl)
  have wx2_0 : (Lit.int .u64 x2_0).wf = true := by
    obtain ⟨c2, _⟩ := XTF (n := 8) (ks := [(.int .u64)]) (by kernel_rfl) (hval 2 29 _ rfl rfl) h2
    obtain ⟨_, _, e, ⟨_, e2, hw⟩, _⟩ := c2.inv
    cases e; cases e2; exact hw
  obtain ⟨x3_0, rfl⟩ := okWide_int Tryz.underlying29 (hval 3 29 v3 rfl rfl)
  have wx3_0 : (Lit.int .u64 x3_0).wf = true := by
    obtain ⟨c3, _⟩ := XTF (n := 8) (ks := [(.int .u64)]) (by kernel_rfl) (hval 3 29 _ rfl rfl) h3
    obtain ⟨_, _, e, ⟨_, e2, hw⟩, _⟩ := c3.inv
    cases e; cases e2; exact hw
  obtain ⟨x4_0, rfl⟩ := okWide_int Tryz.underlying5 (hval 4 5 v4 rfl rfl)
  have wx4_0 : (Lit.int .u8 x4_0).wf = true := by
    obtain ⟨c4, _⟩ := XTF (n := 8) (ks := [(.int .u8)]) (by kernel_rfl) (hval 4 5 _ rfl rfl) h4
    obtain ⟨_, _, e, ⟨_, e2, hw⟩, _⟩ := c4.inv
    cases e; cases e2; exact hw
  clear hA0 hval0
  refine (walk W x0_0 x1_0 x2_0 wx2_0 x3_0 wx3_0 x4_0 wx4_0).mono fun e W' ⟨he, bel⟩ => ?_
  subst he
  exact ⟨_, rfl, _, _, _, [], _, [], hW', trodAll_mk1 (shut_bool Tryz.underlying4 _), (trodAll_cons_mk (Below.trod laidOut (by kernel_rfl) (of_decide_eq_true (by kernel_rfl)) h0 bel lt0) (trodAll_cons_mk (Below.trod laidOut (by kernel_rfl) (of_decide_eq_true (by kernel_rfl)) h1 bel lt1) (trodAll_cons_mk (Below.trod laidOut (by kernel_rfl) (of_decide_eq_true (by kernel_rfl)) h2 bel lt2) (trodAll_cons_mk (Below.trod laidOut (by kernel_rfl) (of_decide_eq_true (by kernel_rfl)) h3 bel lt3) (trodAll_cons_mk (Below.trod laidOut (by kernel_rfl) (of_decide_eq_true (by kernel_rfl)) h4 bel lt4) trodAll_mk0))))), rfl, bel.frame _, fun h => by cases h⟩

theorem over : Rows.shimFullRow.holds Tryz.pinned (OpenSpec.ofChange Rows.shimFullSpec) :=
  OpenClaim.holds_of_wide 5 Tryz.f5 rfl rfl rfl rfl rfl rfl rfl ⟨rfl, rfl, rfl, rfl, rfl⟩ rfl rfl rfl rfl rfl (by kernel_rfl) Tryz.func5 (by kernel_rfl)
    (of_decide_eq_true (by kernel_rfl)) (by unfold Func.isWrapper; first | (rw [if_pos (by decide +kernel)]; kernel_rfl) | (rw [if_neg (by decide +kernel)]; exact ⟨rfl, rfl⟩))
    (fun os started H enc _ => lifted os started H enc)

theorem proved : Rows.ShimFullSaid := over
#print axioms proved
end Go.Proofs.YtgmodbbcnfdpdaaGreat.shimFull
