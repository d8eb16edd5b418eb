/-
  The law PacketTells returns true at all arguments, and it writes nothing that was there.
  The frame is written by a program off the print for this function; the walk stands in the texts that are imported.
-/
import Derived.Test.YtdnbalelfakjhaaGreatRows
import Derived.WalkKit
import Derived.ProofKit
import Derived.OpenShut
import Derived.ShutString
import Derived.ChangeOld
import Derived.Below
import Derived.Carry
import Derived.Test.YtdnbalelfakjhaaGreatNPacketTellsf
namespace Go.Proofs.YtdnbalelfakjhaaGreat.packetTells
open Go.ChangeShapes Go.WideShapes Go.ChangeAt Go.RowKit Go.Vm
set_option linter.unusedVariables false

theorem own : ownKnob Tryz.prog.godebug = none := by kernel_rfl
theorem laidOut : laidOutB Tryz.prog = true := by kernel_rfl

theorem walk (W : World) (x0_0 : ByteArray) (wx0_0 : x0_0.size ≤ maxLen) (x1_0 : Int) (wx1_0 : (Lit.int .i64 x1_0).wf = true) (x1_1 : Bool) (x1_2 : Int) (wx1_2 : (Lit.int .u64 x1_2).wf = true) (x1_3 : Int) (wx1_3 : (Lit.int .u64 x1_3).wf = true) (x1_4 : Bool) (x1_5 : Int) (wx1_5 : (Lit.int .u64 x1_5).wf = true) (x1_6 : Int) (wx1_6 : (Lit.int .u64 x1_6).wf = true) (x1_7 : Int) (wx1_7 : (Lit.int .i64 x1_7).wf = true) (x1_8 : Int) (wx1_8 : (Lit.int .i64 x1_8).wf = true) (x2_0 : Int) (wx2_0 : (Lit.int .i64 x2_0).wf = true) (x3_0 : ByteArray) (wx3_0 : x3_0.size ≤ maxLen) (x4_0 : ByteArray) (wx4_0 : x4_0.size ≤ maxLen) :
    Calls Tryz.prog 4 #[.string x0_0, .agg ⟨[.int .i64 x1_0, .bool x1_1, .int .u64 x1_2, .int .u64 x1_3, .bool x1_4, .int .u64 x1_5, .int .u64 x1_6, .int .i64 x1_7, .int .i64 x1_8]⟩, .int .i64 x2_0, .string x3_0, .string x4_0] W fun e w' => e = .returned (.bool true) ∧ Below W.heap.size W w' := by
  refine XwJ Go.Vm.Code.Xao (ms := [.v, .v, .v, .v, .v]) (aqs := [.v (.string x0_0), .v (.agg ⟨[.int .i64 x1_0, .bool x1_1, .int .u64 x1_2, .int .u64 x1_3, .bool x1_4, .int .u64 x1_5, .int .u64 x1_6, .int .i64 x1_7, .int .i64 x1_8]⟩), .v (.int .i64 x2_0), .v (.string x3_0), .v (.string x4_0)]) (r := true) (.cons ⟨rfl, rfl⟩ (.cons ⟨rfl, rfl⟩ (.cons ⟨rfl, rfl⟩ (.cons ⟨rfl, rfl⟩ (.cons ⟨rfl, rfl⟩ .nil))))) rfl ?_
  have hS : Xai Tryz.prog (Xav (Go.Vm.Code.sums4 Go.Vm.Code.Xej Go.Vm.Code.Xcz Go.Vm.Code.Xd3 Go.Vm.Code.XbJ Go.Vm.Code.XcX Go.Vm.Code.Xd6 Go.Vm.Code.XcJ Go.Vm.Code.XbR Go.Vm.Code.Xa9 Go.Vm.Code.XaZ Go.Vm.Code.XaX Go.Vm.Code.XcE)) := Xai.XaW ⟨Go.Vm.Code.lift19, Go.Vm.Code.lift26, Go.Vm.Code.lift12, Go.Vm.Code.XDh, Go.Vm.Code.lift24, Go.Vm.Code.lift17, Go.Vm.Code.lift20, Go.Vm.Code.lift25, Go.Vm.Code.X4O, Go.Vm.Code.XB8, Go.Vm.Code.X0a, Go.Vm.Code.lift22, trivial⟩
  refine (Go.Vm.Code.leads4 Go.Vm.Code.Xej Go.Vm.Code.Xcz Go.Vm.Code.Xd3 Go.Vm.Code.XbJ Go.Vm.Code.XcX Go.Vm.Code.Xd6 Go.Vm.Code.XcJ Go.Vm.Code.XbR Go.Vm.Code.Xa9 Go.Vm.Code.XaZ Go.Vm.Code.XaX Go.Vm.Code.XcE hS x0_0.data.toList (Go.Vm.Code.Xah.mk x1_0 (Go.Vm.Code.Xaa.mk x1_1 x1_2 x1_3) (Go.Vm.Code.Xaa.mk x1_4 x1_5 x1_6) x1_7 x1_8) x2_0 x3_0.data.toList x4_0.data.toList true ?_).mono fun v H t hp => Res.flat rfl rfl hp
  exact Go.Vm.Code.packetTells _ _ _ _ _ ⟨(wf_u64 wx1_2).1, by have := (wf_u64 wx1_2).2; first | omega | (simp only []; omega), (wf_u64 wx1_3).1, by have := (wf_u64 wx1_3).2; first | omega | (simp only []; omega)⟩ ⟨(wf_u64 wx1_5).1, by have := (wf_u64 wx1_5).2; first | omega | (simp only []; omega), (wf_u64 wx1_6).1, by have := (wf_u64 wx1_6).2; first | omega | (simp only []; omega)⟩

set_option maxRecDepth 100000 in
theorem lifted (os : Os) (started : os.Started) (H : Type) (enc : TypeId × Value → H) :
    ReturnsInHanded {} Tryz.checked os 4 .any (Rows.packetTellsSpec.pre6 enc Tryz.prog Tryz.f4 Rows.packetTellsRow.domain false) (Rows.packetTellsSpec.post enc Tryz.prog Tryz.f4 false true false false) := by
  refine returnsInHanded_of_change (C := Tryz.checked) own started (by kernel_rfl) Tryz.func4
    (ChangeSpec.witness6 (enc := enc) (C := Tryz.checked) false ⟨#[], #[.string ⟨#[]⟩, .agg ⟨[.int .i64 0, .bool false, .int .u64 0, .int .u64 0, .bool false, .int .u64 0, .int .u64 0, .int .i64 0, .int .i64 0]⟩, .int .i64 0, .string ⟨#[]⟩, .string ⟨#[]⟩], []⟩ 8 (by kernel_rfl) (by kernel_rfl) (by kernel_rfl) (by kernel_rfl)) ?_
  intro W base args ds gs before hval0 hW hcnd _
  have hval : ∀ (j : Nat) t v, Tryz.f4.params[j]? = some t → args[j]? = some v → Value.okWide Tryz.prog W .any base t v := hval0
  have hW' := hW
  obtain ⟨p, q, hA0, hV, rfl, hfz, hnd⟩ := hW
  have hA : DataW.TrodAll enc Tryz.prog W 0 (fun _ => true) true Tryz.f4.params.toList args.toList ds p := hA0
  rw [Tryz.params4] at hA hval
  obtain ⟨v0, vs0, d0, ds0, p0, q0, hargs, rfl, rfl, h0, r0⟩ := trodAll_cons hA
  obtain ⟨v1, vs1, d1, ds1, p1, q1, rfl, rfl, rfl, h1, r1⟩ := trodAll_cons r0
  obtain ⟨v2, vs2, d2, ds2, p2, q2, rfl, rfl, rfl, h2, r2⟩ := trodAll_cons r1
  obtain ⟨v3, vs3, d3, ds3, p3, q3, rfl, rfl, rfl, h3, r3⟩ := trodAll_cons r2
  obtain ⟨v4, vs4, d4, ds4, p4, q4, rfl, rfl, rfl, h4, r4⟩ := trodAll_cons r3
  obtain ⟨rfl, rfl, rfl⟩ := trodAll_nil r4
  obtain rfl : args = #[v0, v1, v2, v3, v4] := by cases args; simp_all
  obtain ⟨rfl, rfl⟩ := trodVars_none hV
  have lt0 : ∀ x ∈ p0, x.block < W.heap.size := by obtain ⟨m, hm⟩ := h0; exact DataW.trod_lt m _ _ _ hm
  have lt1 : ∀ x ∈ p1, x.block < W.heap.size := by obtain ⟨m, hm⟩ := h1; exact DataW.trod_lt m _ _ _ hm
  have lt2 : ∀ x ∈ p2, x.block < W.heap.size := by obtain ⟨m, hm⟩ := h2; exact DataW.trod_lt m _ _ _ hm
  have lt3 : ∀ x ∈ p3, x.block < W.heap.size := by obtain ⟨m, hm⟩ := h3; exact DataW.trod_lt m _ _ _ hm
  have lt4 : ∀ x ∈ p4, x.block < W.heap.size := by obtain ⟨m, hm⟩ := h4; exact DataW.trod_lt m _ _ _ hm
  obtain ⟨x0_0, rfl⟩ := okWide_string Tryz.underlying9 (hval 0 9 v0 rfl rfl)
  have wx0_0 : x0_0.size ≤ maxLen := by
    obtain ⟨c0, _⟩ := XVQ (n := 8) (ks := [.str]) (by kernel_rfl) (hval 0 9 _ rfl rfl) h0
    obtain ⟨_, _, e, ⟨_, e2, hw⟩, _⟩ := c0.inv
    cases e; cases e2; exact hw
  obtain ⟨c1, b1⟩ := XVQ (n := 8) (ks := [(.int .i64), .bool, (.int .u64), (.int .u64), .bool, (.int .u64), (.int .u64), (.int .i64), (.int .i64)]) (by kernel_rfl) (hval 1 29 v1 rfl rfl) h1
  obtain ⟨-, b1⟩ := b1.resolve_right (by rw [show XdF Tryz.prog 29 = true by kernel_rfl]; exact Bool.noConfusion)
  generalize hcs1 : XaU v1 = cs1 at c1 b1
  clear hcs1
  subst b1
  obtain ⟨_, cs1_0, rfl, ⟨x1_0, rfl, wx1_0⟩, c1_0⟩ := c1.inv
  obtain ⟨_, cs1_1, rfl, ⟨x1_1, rfl⟩, c1_1⟩ := c1_0.inv
  obtain ⟨_, cs1_2, rfl, ⟨x1_2, rfl, wx1_2⟩, c1_2⟩ := c1_1.inv
  obtain ⟨_, cs1_3, rfl, ⟨x1_3, rfl, wx1_3⟩, c1_3⟩ := c1_2.inv
  obtain ⟨_, cs1_4, rfl, ⟨x1_4, rfl⟩, c1_4⟩ := c1_3.inv
  obtain ⟨_, cs1_5, rfl, ⟨x1_5, rfl, wx1_5⟩, c1_5⟩ := c1_4.inv
  obtain ⟨_, cs1_6, rfl, ⟨x1_6, rfl, wx1_6⟩, c1_6⟩ := c1_5.inv
  obtain ⟨_, cs1_7, rfl, ⟨x1_7, rfl, wx1_7⟩, c1_7⟩ := c1_6.inv
  obtain ⟨_, cs1_8, rfl, ⟨x1_8, rfl, wx1_8⟩, c1_8⟩ := c1_7.inv
  obtain rfl := c1_8.inv0
  obtain ⟨x2_0, rfl⟩ := okWide_int Tryz.underlying3 (hval 2 3 v2 rfl rfl)
  have wx2_0 : (Lit.int .i64 x2_0).wf = true := by
    obtain ⟨c2, _⟩ := XVQ (n := 8) (ks := [(.int .i64)]) (by kernel_rfl) (hval 2 3 _ rfl rfl) h2
    obtain ⟨_, _, e, ⟨_, e2, hw⟩, _⟩ := c2.inv
    cases e; cases e2; exact hw
  obtain ⟨x3_0, rfl⟩ := okWide_string Tryz.underlying9 (hval 3 9 v3 rfl rfl)
  have wx3_0 : x3_0.size ≤ maxLen := by
    obtain ⟨c3, _⟩ := XVQ (n := 8) (ks := [.str]) (by kernel_rfl) (hval 3 9 _ rfl rfl) h3
    obtain ⟨_, _, e, ⟨_, e2, hw⟩, _⟩ := c3.inv
    cases e; cases e2; exact hw
  obtain ⟨x4_0, rfl⟩ := okWide_string Tryz.underlying9 (hval 4 9 v4 rfl rfl)
  have wx4_0 : x4_0.size ≤ maxLen := by
    obtain ⟨c4, _⟩ := XVQ (n := 8) (ks := [.str]) (by kernel_rfl) (hval 4 9 _ rfl rfl) h4
    obtain ⟨_, _, e, ⟨_, e2, hw⟩, _⟩ := c4.inv
    cases e; cases e2; exact hw
  clear hA0 hval0
  refine (walk W x0_0 wx0_0 x1_0 wx1_0 x1_1 x1_2 wx1_2 x1_3 wx1_3 x1_4 x1_5 wx1_5 x1_6 wx1_6 x1_7 wx1_7 x1_8 wx1_8 x2_0 wx2_0 x3_0 wx3_0 x4_0 wx4_0).mono fun e W' ⟨he, bel⟩ => ?_
  subst he
  exact ⟨_, rfl, _, _, _, [], _, [], hW', trodAll_mk1 (shut_bool Tryz.underlying4 _), (trodAll_cons_mk (Below.trod laidOut (by kernel_rfl) (of_decide_eq_true (by kernel_rfl)) h0 bel lt0) (trodAll_cons_mk (Below.trod laidOut (by kernel_rfl) (of_decide_eq_true (by kernel_rfl)) h1 bel lt1) (trodAll_cons_mk (Below.trod laidOut (by kernel_rfl) (of_decide_eq_true (by kernel_rfl)) h2 bel lt2) (trodAll_cons_mk (Below.trod laidOut (by kernel_rfl) (of_decide_eq_true (by kernel_rfl)) h3 bel lt3) (trodAll_cons_mk (Below.trod laidOut (by kernel_rfl) (of_decide_eq_true (by kernel_rfl)) h4 bel lt4) trodAll_mk0))))), rfl, bel.frame _, fun h => by cases h⟩

theorem over : Rows.packetTellsRow.holds Tryz.pinned (OpenSpec.ofChange Rows.packetTellsSpec) :=
  OpenClaim.holds_of_wide 4 Tryz.f4 rfl rfl rfl rfl rfl rfl rfl ⟨rfl, rfl, rfl, rfl, rfl⟩ rfl rfl rfl rfl rfl (by kernel_rfl) Tryz.func4 (by kernel_rfl)
    (of_decide_eq_true (by kernel_rfl)) (by unfold Func.isWrapper; first | (rw [if_pos (by decide +kernel)]; kernel_rfl) | (rw [if_neg (by decide +kernel)]; exact ⟨rfl, rfl⟩))
    (fun os started H enc _ => lifted os started H enc)

theorem proved : Rows.PacketTellsSaid := over
#print axioms proved
end Go.Proofs.YtdnbalelfakjhaaGreat.packetTells
