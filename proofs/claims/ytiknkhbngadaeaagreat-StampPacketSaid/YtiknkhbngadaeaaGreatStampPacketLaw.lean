/-
  The law StampPacket returns true at all arguments, and it writes nothing that was there.
  The frame is written by a program off the print for this function; the walk stands in the texts that are imported.
-/
import Derived.Test.YtiknkhbngadaeaaGreatRows
import Derived.WalkKit
import Derived.ProofKit
import Derived.OpenShut
import Derived.ShutString
import Derived.ChangeOld
import Derived.Below
import Derived.Carry
import Derived.Test.YtiknkhbngadaeaaGreatNStampPacketf
namespace Go.Proofs.YtiknkhbngadaeaaGreat.stampPacket
open Go.ChangeShapes Go.WideShapes Go.ChangeAt Go.RowKit Go.Vm
set_option linter.unusedVariables false

theorem own : ownKnob Tryz.prog.godebug = none := by kernel_rfl
theorem laidOut : laidOutB Tryz.prog = true := by kernel_rfl

theorem walk (W : World) (x0_0 : ByteArray) (wx0_0 : x0_0.size ≤ maxLen) (x1_0 : Int) (wx1_0 : (Lit.int .u16 x1_0).wf = true) (x2_0 : Int) (wx2_0 : (Lit.int .u32 x2_0).wf = true) (x3_0 : Int) (wx3_0 : (Lit.int .u64 x3_0).wf = true) :
    Calls Tryz.prog 4 #[.string x0_0, .int .u16 x1_0, .int .u32 x2_0, .int .u64 x3_0] W fun e w' => e = .returned (.bool true) ∧ Below W.heap.size W w' := by
  refine Xwv Go.Vm.Code.Xan (ms := [.v, .v, .v, .v]) (aqs := [.v (.string x0_0), .v (.int .u16 x1_0), .v (.int .u32 x2_0), .v (.int .u64 x3_0)]) (r := true) (.cons ⟨rfl, rfl⟩ (.cons ⟨rfl, rfl⟩ (.cons ⟨rfl, rfl⟩ (.cons ⟨rfl, rfl⟩ .nil)))) rfl ?_
  have hS : Xah Tryz.prog (Xav (Go.Vm.Code.XJn Go.Vm.Code.XbX Go.Vm.Code.Xbb Go.Vm.Code.Xci Go.Vm.Code.Xa5 Go.Vm.Code.Xbo Go.Vm.Code.Xc9 Go.Vm.Code.XbT Go.Vm.Code.Xbs)) := Xah.Xa0 ⟨Go.Vm.Code.XLG, Go.Vm.Code.XJr, Go.Vm.Code.lift20, Go.Vm.Code.lift14, Go.Vm.Code.lift17, Go.Vm.Code.lift18, Go.Vm.Code.lift19, Go.Vm.Code.XIF, trivial⟩
  refine (Go.Vm.Code.leads4 Go.Vm.Code.XbX Go.Vm.Code.Xbb Go.Vm.Code.Xci Go.Vm.Code.Xa5 Go.Vm.Code.Xbo Go.Vm.Code.Xc9 Go.Vm.Code.XbT Go.Vm.Code.Xbs hS x0_0.data.toList x1_0 x2_0 x3_0 true ?_).mono fun v H t hp => Res.flat rfl rfl hp
  exact Go.Vm.Code.stampPacket _ _ _ _ ⟨(wf_u16 wx1_0).1, by have := (wf_u16 wx1_0).2; omega⟩ ⟨(wf_u32 wx2_0).1, by have := (wf_u32 wx2_0).2; omega⟩ (wf_u64 wx3_0).1 (by have := (wf_u64 wx3_0).2; omega)

set_option maxRecDepth 100000 in
theorem lifted (os : Os) (started : os.Started) (H : Type) (enc : TypeId × Value → H) :
    ReturnsInHanded {} Tryz.checked os 4 .any (Rows.stampPacketSpec.pre6 enc Tryz.prog Tryz.f4 Rows.stampPacketRow.domain false) (Rows.stampPacketSpec.post enc Tryz.prog Tryz.f4 false true false false) := by
  refine returnsInHanded_of_change (C := Tryz.checked) own started (by kernel_rfl) Tryz.func4
    (ChangeSpec.witness6 (enc := enc) (C := Tryz.checked) false ⟨#[], #[.string ⟨#[]⟩, .int .u16 0, .int .u32 0, .int .u64 0], []⟩ 8 (by kernel_rfl) (by kernel_rfl) (by kernel_rfl) (by kernel_rfl)) ?_
  intro W base args ds gs before hval0 hW hcnd _
  have hval : ∀ (j : Nat) t v, Tryz.f4.params[j]? = some t → args[j]? = some v → Value.okWide Tryz.prog W .any base t v := hval0
  have hW' := hW
  obtain ⟨p, q, hA0, hV, rfl, hfz, hnd⟩ := hW
  have hA : DataW.TrodAll enc Tryz.prog W 0 (fun _ => true) true Tryz.f4.params.toList args.toList ds p := hA0
  rw [Tryz.params4] at hA hval
  obtain ⟨v0, vs0, d0, ds0, p0, q0, hargs, rfl, rfl, h0, r0⟩ := trodAll_cons hA
  obtain ⟨v1, vs1, d1, ds1, p1, q1, rfl, rfl, rfl, h1, r1⟩ := trodAll_cons r0
  obtain ⟨v2, vs2, d2, ds2, p2, q2, rfl, rfl, rfl, h2, r2⟩ := trodAll_cons r1
  obtain ⟨v3, vs3, d3, ds3, p3, q3, rfl, rfl, rfl, h3, r3⟩ := trodAll_cons r2
  obtain ⟨rfl, rfl, rfl⟩ := trodAll_nil r3
  obtain rfl : args = #[v0, v1, v2, v3] := by cases args; simp_all
  obtain ⟨rfl, rfl⟩ := trodVars_none hV
  have lt0 : ∀ x ∈ p0, x.block < W.heap.size := by obtain ⟨m, hm⟩ := h0; exact DataW.trod_lt m _ _ _ hm
  have lt1 : ∀ x ∈ p1, x.block < W.heap.size := by obtain ⟨m, hm⟩ := h1; exact DataW.trod_lt m _ _ _ hm
  have lt2 : ∀ x ∈ p2, x.block < W.heap.size := by obtain ⟨m, hm⟩ := h2; exact DataW.trod_lt m _ _ _ hm
  have lt3 : ∀ x ∈ p3, x.block < W.heap.size := by obtain ⟨m, hm⟩ := h3; exact DataW.trod_lt m _ _ _ hm
  obtain ⟨x0_0, rfl⟩ := okWide_string Tryz.underlying9 (hval 0 9 v0 rfl rfl)
  have wx0_0 : x0_0.size ≤ maxLen := by
    obtain ⟨c0, _⟩ := XIP (n := 8) (ks := [.str]) (by kernel_rfl) (hval 0 9 _ rfl rfl) h0
    obtain ⟨_, _, e, ⟨_, e2, hw⟩, _⟩ := c0.inv
    cases e; cases e2; exact hw
  obtain ⟨x1_0, rfl⟩ := okWide_int Tryz.underlying32 (hval 1 32 v1 rfl rfl)
  have wx1_0 : (Lit.int .u16 x1_0).wf = true := by
    obtain ⟨c1, _⟩ := XIP (n := 8) (ks := [(.int .u16)]) (by kernel_rfl) (hval 1 32 _ rfl rfl) h1
    obtain ⟨_, _, e, ⟨_, e2, hw⟩, _⟩ := c1.inv
    cases e; cases e2; exact hw
  obtain ⟨x2_0, rfl⟩ := okWide_int Tryz.underlying33 (hval 2 33 v2 rfl rfl)
  have wx2_0 : (Lit.int .u32 x2_0).wf = true := by
    obtain ⟨c2, _⟩ := XIP (n := 8) (ks := [(.int .u32)]) (by kernel_rfl) (hval 2 33 _ rfl rfl) h2
    obtain ⟨_, _, e, ⟨_, e2, hw⟩, _⟩ := c2.inv
    cases e; cases e2; exact hw
  obtain ⟨x3_0, rfl⟩ := okWide_int Tryz.underlying34 (hval 3 34 v3 rfl rfl)
  have wx3_0 : (Lit.int .u64 x3_0).wf = true := by
    obtain ⟨c3, _⟩ := XIP (n := 8) (ks := [(.int .u64)]) (by kernel_rfl) (hval 3 34 _ rfl rfl) h3
    obtain ⟨_, _, e, ⟨_, e2, hw⟩, _⟩ := c3.inv
    cases e; cases e2; exact hw
  clear hA0 hval0
  refine (walk W x0_0 wx0_0 x1_0 wx1_0 x2_0 wx2_0 x3_0 wx3_0).mono fun e W' ⟨he, bel⟩ => ?_
  subst he
  exact ⟨_, rfl, _, _, _, [], _, [], hW', trodAll_mk1 (shut_bool Tryz.underlying4 _), (trodAll_cons_mk (Below.trod laidOut (by kernel_rfl) (of_decide_eq_true (by kernel_rfl)) h0 bel lt0) (trodAll_cons_mk (Below.trod laidOut (by kernel_rfl) (of_decide_eq_true (by kernel_rfl)) h1 bel lt1) (trodAll_cons_mk (Below.trod laidOut (by kernel_rfl) (of_decide_eq_true (by kernel_rfl)) h2 bel lt2) (trodAll_cons_mk (Below.trod laidOut (by kernel_rfl) (of_decide_eq_true (by kernel_rfl)) h3 bel lt3) trodAll_mk0)))), rfl, bel.frame _, fun h => by cases h⟩

theorem over : Rows.stampPacketRow.holds Tryz.pinned (OpenSpec.ofChange Rows.stampPacketSpec) :=
  OpenClaim.holds_of_wide 4 Tryz.f4 rfl rfl rfl rfl rfl rfl rfl ⟨rfl, rfl, rfl, rfl, rfl⟩ rfl rfl rfl rfl rfl (by kernel_rfl) Tryz.func4 (by kernel_rfl)
    (of_decide_eq_true (by kernel_rfl)) (by unfold Func.isWrapper; first | (rw [if_pos (by decide +kernel)]; kernel_rfl) | (rw [if_neg (by decide +kernel)]; exact ⟨rfl, rfl⟩))
    (fun os started H enc _ => lifted os started H enc)

theorem proved : Rows.StampPacketSaid := over
#print axioms proved
end Go.Proofs.YtiknkhbngadaeaaGreat.stampPacket
