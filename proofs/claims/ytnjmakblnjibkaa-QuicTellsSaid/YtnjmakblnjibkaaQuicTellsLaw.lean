/-
  The law QuicTells returns true at all arguments, and it writes nothing that was there.
  The frame is written by a program off the print for this function; the walk stands in the texts that are imported.
-/
import Derived.Test.YtnjmakblnjibkaaRows
import Derived.WalkKit
import Derived.ProofKit
import Derived.OpenShut
import Derived.ShutString
import Derived.ChangeOld
import Derived.Below
import Derived.Carry
import Derived.Test.YtnjmakblnjibkaaVmFrame
import Derived.Test.YtnjmakblnjibkaaMQuicTellsa
namespace Go.Proofs.Ytnjmakblnjibkaa.quicTells
open Go.ChangeShapes Go.WideShapes Go.ChangeAt Go.RowKit Go.Vm
set_option linter.unusedVariables false

theorem own : ownKnob Try.prog.godebug = none := by kernel_rfl
theorem laidOut : laidOutB Try.prog = true := by kernel_rfl

theorem walk (W : World) (x0_0 : Bool) (x0_1 : Int) (wx0_1 : (Lit.int .i64 x0_1).wf = true) (x0_2 : Int) (wx0_2 : (Lit.int .u32 x0_2).wf = true) (x0_3 : ByteArray) (wx0_3 : x0_3.size ≤ maxLen) (x0_4 : ByteArray) (wx0_4 : x0_4.size ≤ maxLen) (x0_5 : ByteArray) (wx0_5 : x0_5.size ≤ maxLen) (x1_0 : ByteArray) (wx1_0 : x1_0.size ≤ maxLen) (x2_0 : ByteArray) (wx2_0 : x2_0.size ≤ maxLen) :
    Calls Try.prog 3 #[.agg ⟨[.bool x0_0, .int .i64 x0_1, .int .u32 x0_2, .string x0_3, .string x0_4, .string x0_5]⟩, .string x1_0, .string x2_0] W fun e w' => e = .returned (.bool true) ∧ Below W.heap.size W w' := by
  refine calls_of_leads Go.Vm.Code.tab_ok (ms := [.v, .v, .v]) (aqs := [.v (.agg ⟨[.bool x0_0, .int .i64 x0_1, .int .u32 x0_2, .string x0_3, .string x0_4, .string x0_5]⟩), .v (.string x1_0), .v (.string x2_0)]) (r := true) (.cons ⟨rfl, rfl⟩ (.cons ⟨rfl, rfl⟩ (.cons ⟨rfl, rfl⟩ .nil))) rfl ?_
  have hS : SumsOK Try.prog (aget (Go.Vm.Code.sums3 Go.Vm.Code.R07_Small Go.Vm.Code.R09_Get Go.Vm.Code.R09_Put Go.Vm.Code.R09_With Go.Vm.Code.law09_awake Go.Vm.Code.law09_back Go.Vm.Code.law09_of Go.Vm.Code.quic_Get Go.Vm.Code.quic_Put Go.Vm.Code.quic_With)) := SumsOK.of_tab ⟨Go.Vm.Code.lift15, Go.Vm.Code.lift21, Go.Vm.Code.lift19, Go.Vm.Code.lift23, Go.Vm.Code.lift16, Go.Vm.Code.lift24, Go.Vm.Code.lift18, Go.Vm.Code.lift20, Go.Vm.Code.lift17, Go.Vm.Code.lift22, trivial⟩
  refine (Go.Vm.Code.leads3 Go.Vm.Code.R07_Small Go.Vm.Code.R09_Get Go.Vm.Code.R09_Put Go.Vm.Code.R09_With Go.Vm.Code.law09_awake Go.Vm.Code.law09_back Go.Vm.Code.law09_of Go.Vm.Code.quic_Get Go.Vm.Code.quic_Put Go.Vm.Code.quic_With hS (Go.Vm.Code.quic_Head.mk x0_0 x0_1 x0_2 x0_3.data.toList x0_4.data.toList x0_5.data.toList) x1_0.data.toList x2_0.data.toList true ?_).mono fun v H t hp => hp
  exact Go.Vm.Code.quicTells _ _ _ ⟨(wf_u32 wx0_2).1, by have := (wf_u32 wx0_2).2; simp only []; omega⟩

set_option maxRecDepth 100000 in
theorem lifted (os : Os) (started : os.Started) (H : Type) (enc : TypeId × Value → H) :
    ReturnsInHanded {} Try.checked os 3 .any (Rows.quicTellsSpec.pre6 enc Try.prog Try.f3 Rows.quicTellsRow.domain false) (Rows.quicTellsSpec.post enc Try.prog Try.f3 false true false false) := by
  refine returnsInHanded_of_change (C := Try.checked) own started (by kernel_rfl) Try.func3
    (ChangeSpec.witness6 (enc := enc) (C := Try.checked) false ⟨#[], #[.agg ⟨[.bool false, .int .i64 0, .int .u32 0, .string ⟨#[]⟩, .string ⟨#[]⟩, .string ⟨#[]⟩]⟩, .string ⟨#[]⟩, .string ⟨#[]⟩], []⟩ 8 (by kernel_rfl) (by kernel_rfl) (by kernel_rfl) (by kernel_rfl)) ?_
  intro W base args ds gs before hval0 hW hcnd _
  have hval : ∀ (j : Nat) t v, Try.f3.params[j]? = some t → args[j]? = some v → Value.okWide Try.prog W .any base t v := hval0
  have hW' := hW
  obtain ⟨p, q, hA0, hV, rfl, hfz, hnd⟩ := hW
  have hA : DataW.TrodAll enc Try.prog W 0 (fun _ => true) true Try.f3.params.toList args.toList ds p := hA0
  rw [Try.params3] at hA hval
  obtain ⟨v0, vs0, d0, ds0, p0, q0, hargs, rfl, rfl, h0, r0⟩ := trodAll_cons hA
  obtain ⟨v1, vs1, d1, ds1, p1, q1, rfl, rfl, rfl, h1, r1⟩ := trodAll_cons r0
  obtain ⟨v2, vs2, d2, ds2, p2, q2, rfl, rfl, rfl, h2, r2⟩ := trodAll_cons r1
  obtain ⟨rfl, rfl, rfl⟩ := trodAll_nil r2
  obtain rfl : args = #[v0, v1, v2] := by cases args; simp_all
  obtain ⟨rfl, rfl⟩ := trodVars_none hV
  have lt0 : ∀ x ∈ p0, x.block < W.heap.size := by obtain ⟨m, hm⟩ := h0; exact DataW.trod_lt m _ _ _ hm
  have lt1 : ∀ x ∈ p1, x.block < W.heap.size := by obtain ⟨m, hm⟩ := h1; exact DataW.trod_lt m _ _ _ hm
  have lt2 : ∀ x ∈ p2, x.block < W.heap.size := by obtain ⟨m, hm⟩ := h2; exact DataW.trod_lt m _ _ _ hm
  obtain ⟨c0, b0⟩ := open_flat (n := 8) (ks := [.bool, (.int .i64), (.int .u32), .str, .str, .str]) (by kernel_rfl) (hval 0 24 v0 rfl rfl) h0
  obtain ⟨-, b0⟩ := b0.resolve_right (by rw [show isAggB Try.prog 24 = true by kernel_rfl]; exact Bool.noConfusion)
  generalize hcs0 : cellsL v0 = cs0 at c0 b0
  clear hcs0
  subst b0
  obtain ⟨_, cs0_0, rfl, ⟨x0_0, rfl⟩, c0_0⟩ := c0.inv
  obtain ⟨_, cs0_1, rfl, ⟨x0_1, rfl, wx0_1⟩, c0_1⟩ := c0_0.inv
  obtain ⟨_, cs0_2, rfl, ⟨x0_2, rfl, wx0_2⟩, c0_2⟩ := c0_1.inv
  obtain ⟨_, cs0_3, rfl, ⟨x0_3, rfl, wx0_3⟩, c0_3⟩ := c0_2.inv
  obtain ⟨_, cs0_4, rfl, ⟨x0_4, rfl, wx0_4⟩, c0_4⟩ := c0_3.inv
  obtain ⟨_, cs0_5, rfl, ⟨x0_5, rfl, wx0_5⟩, c0_5⟩ := c0_4.inv
  obtain rfl := c0_5.inv0
  obtain ⟨x1_0, rfl⟩ := okWide_string Try.underlying9 (hval 1 9 v1 rfl rfl)
  have wx1_0 : x1_0.size ≤ maxLen := by
    obtain ⟨c1, _⟩ := open_flat (n := 8) (ks := [.str]) (by kernel_rfl) (hval 1 9 _ rfl rfl) h1
    obtain ⟨_, _, e, ⟨_, e2, hw⟩, _⟩ := c1.inv
    cases e; cases e2; exact hw
  obtain ⟨x2_0, rfl⟩ := okWide_string Try.underlying9 (hval 2 9 v2 rfl rfl)
  have wx2_0 : x2_0.size ≤ maxLen := by
    obtain ⟨c2, _⟩ := open_flat (n := 8) (ks := [.str]) (by kernel_rfl) (hval 2 9 _ rfl rfl) h2
    obtain ⟨_, _, e, ⟨_, e2, hw⟩, _⟩ := c2.inv
    cases e; cases e2; exact hw
  clear hA0 hval0
  refine (walk W x0_0 x0_1 wx0_1 x0_2 wx0_2 x0_3 wx0_3 x0_4 wx0_4 x0_5 wx0_5 x1_0 wx1_0 x2_0 wx2_0).mono fun e W' ⟨he, bel⟩ => ?_
  subst he
  exact ⟨_, rfl, _, _, _, [], _, [], hW', trodAll_mk1 (shut_bool Try.underlying4 _), (trodAll_cons_mk (Below.trod laidOut (by kernel_rfl) (of_decide_eq_true (by kernel_rfl)) h0 bel lt0) (trodAll_cons_mk (Below.trod laidOut (by kernel_rfl) (of_decide_eq_true (by kernel_rfl)) h1 bel lt1) (trodAll_cons_mk (Below.trod laidOut (by kernel_rfl) (of_decide_eq_true (by kernel_rfl)) h2 bel lt2) trodAll_mk0))), rfl, bel.frame _, fun h => by cases h⟩

theorem over : Rows.quicTellsRow.holds Try.pinned (OpenSpec.ofChange Rows.quicTellsSpec) :=
  OpenClaim.holds_of_wide 3 Try.f3 rfl rfl rfl rfl rfl rfl rfl ⟨rfl, rfl, rfl, rfl, rfl⟩ rfl rfl rfl rfl rfl (by kernel_rfl) Try.func3 (by kernel_rfl)
    (of_decide_eq_true (by kernel_rfl)) (by unfold Func.isWrapper; first | (rw [if_pos (by decide +kernel)]; kernel_rfl) | (rw [if_neg (by decide +kernel)]; exact ⟨rfl, rfl⟩))
    (fun os started H enc _ => lifted os started H enc)

theorem proved : Rows.QuicTellsSaid := over
#print axioms proved
end Go.Proofs.Ytnjmakblnjibkaa.quicTells
