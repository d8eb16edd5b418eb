/-
  The law UdpTells returns true at all arguments, and it writes nothing that was there.
  The frame is written by a program off the print for this function; the walk stands in the texts that are imported.
-/
import Derived.Test.YtdnhoocoofnibaaRows
import Derived.WalkKit
import Derived.ProofKit
import Derived.OpenShut
import Derived.ShutString
import Derived.ChangeOld
import Derived.Below
import Derived.Carry
import Derived.Test.YtdnhoocoofnibaaVmFrame
import Derived.Test.YtdnhoocoofnibaaMUdpTellsb
namespace Go.Proofs.Ytdnhoocoofnibaa.udpTells
open Go.ChangeShapes Go.WideShapes Go.ChangeAt Go.RowKit Go.Vm
set_option linter.unusedVariables false

theorem own : ownKnob Try.prog.godebug = none := by kernel_rfl
theorem laidOut : laidOutB Try.prog = true := by kernel_rfl

theorem walk (W : World) (x0_0 : Int) (wx0_0 : (Lit.int .i64 x0_0).wf = true) (x0_1 : Int) (wx0_1 : (Lit.int .i64 x0_1).wf = true) (x1_0 : Bool) (x1_1 : Int) (wx1_1 : (Lit.int .u64 x1_1).wf = true) (x1_2 : Int) (wx1_2 : (Lit.int .u64 x1_2).wf = true) (x2_0 : Bool) (x2_1 : Int) (wx2_1 : (Lit.int .u64 x2_1).wf = true) (x2_2 : Int) (wx2_2 : (Lit.int .u64 x2_2).wf = true) (x3_0 : ByteArray) (wx3_0 : x3_0.size ≤ maxLen) (x4_0 : ByteArray) (wx4_0 : x4_0.size ≤ maxLen) :
    Calls Try.prog 3 #[.agg ⟨[.int .i64 x0_0, .int .i64 x0_1]⟩, .agg ⟨[.bool x1_0, .int .u64 x1_1, .int .u64 x1_2]⟩, .agg ⟨[.bool x2_0, .int .u64 x2_1, .int .u64 x2_2]⟩, .string x3_0, .string x4_0] W fun e w' => e = .returned (.bool true) ∧ Below W.heap.size W w' := by
  refine calls_of_leads Go.Vm.Code.tab_ok (ms := [.v, .v, .v, .v, .v]) (aqs := [.v (.agg ⟨[.int .i64 x0_0, .int .i64 x0_1]⟩), .v (.agg ⟨[.bool x1_0, .int .u64 x1_1, .int .u64 x1_2]⟩), .v (.agg ⟨[.bool x2_0, .int .u64 x2_1, .int .u64 x2_2]⟩), .v (.string x3_0), .v (.string x4_0)]) (r := true) (.cons ⟨rfl, rfl⟩ (.cons ⟨rfl, rfl⟩ (.cons ⟨rfl, rfl⟩ (.cons ⟨rfl, rfl⟩ (.cons ⟨rfl, rfl⟩ .nil))))) rfl ?_
  have hS : SumsOK Try.prog (aget (Go.Vm.Code.sums3 Go.Vm.Code.R07_Small Go.Vm.Code.R08_Get Go.Vm.Code.R08_Put Go.Vm.Code.law08_awake Go.Vm.Code.udp_Get Go.Vm.Code.udp_Put)) := SumsOK.of_tab ⟨Go.Vm.Code.lift14, Go.Vm.Code.lift19, Go.Vm.Code.lift17, Go.Vm.Code.lift15, Go.Vm.Code.lift18, Go.Vm.Code.lift16, trivial⟩
  refine (Go.Vm.Code.leads3 Go.Vm.Code.R07_Small Go.Vm.Code.R08_Get Go.Vm.Code.R08_Put Go.Vm.Code.law08_awake Go.Vm.Code.udp_Get Go.Vm.Code.udp_Put hS (Go.Vm.Code.udp_Head.mk x0_0 x0_1) (Go.Vm.Code.api_Addr.mk x1_0 x1_1 x1_2) (Go.Vm.Code.api_Addr.mk x2_0 x2_1 x2_2) x3_0.data.toList x4_0.data.toList true ?_).mono fun v H t hp => Res.flat rfl rfl hp
  exact Go.Vm.Code.udpTells _ _ _ _ _ ⟨(wf_u64 wx1_1).1, by have := (wf_u64 wx1_1).2; simp only []; omega, (wf_u64 wx1_2).1, by have := (wf_u64 wx1_2).2; simp only []; omega⟩ ⟨(wf_u64 wx2_1).1, by have := (wf_u64 wx2_1).2; simp only []; omega, (wf_u64 wx2_2).1, by have := (wf_u64 wx2_2).2; simp only []; omega⟩

set_option maxRecDepth 100000 in
theorem lifted (os : Os) (started : os.Started) (H : Type) (enc : TypeId × Value → H) :
    ReturnsInHanded {} Try.checked os 3 .any (Rows.udpTellsSpec.pre6 enc Try.prog Try.f3 Rows.udpTellsRow.domain false) (Rows.udpTellsSpec.post enc Try.prog Try.f3 false true false false) := by
  refine returnsInHanded_of_change (C := Try.checked) own started (by kernel_rfl) Try.func3
    (ChangeSpec.witness6 (enc := enc) (C := Try.checked) false ⟨#[], #[.agg ⟨[.int .i64 0, .int .i64 0]⟩, .agg ⟨[.bool false, .int .u64 0, .int .u64 0]⟩, .agg ⟨[.bool false, .int .u64 0, .int .u64 0]⟩, .string ⟨#[]⟩, .string ⟨#[]⟩], []⟩ 8 (by kernel_rfl) (by kernel_rfl) (by kernel_rfl) (by kernel_rfl)) ?_
  intro W base args ds gs before hval0 hW hcnd _
  have hval : ∀ (j : Nat) t v, Try.f3.params[j]? = some t → args[j]? = some v → Value.okWide Try.prog W .any base t v := hval0
  have hW' := hW
  obtain ⟨p, q, hA0, hV, rfl, hfz, hnd⟩ := hW
  have hA : DataW.TrodAll enc Try.prog W 0 (fun _ => true) true Try.f3.params.toList args.toList ds p := hA0
  rw [Try.params3] at hA hval
  obtain ⟨v0, vs0, d0, ds0, p0, q0, hargs, rfl, rfl, h0, r0⟩ := trodAll_cons hA
  obtain ⟨v1, vs1, d1, ds1, p1, q1, rfl, rfl, rfl, h1, r1⟩ := trodAll_cons r0
  obtain ⟨v2, vs2, d2, ds2, p2, q2, rfl, rfl, rfl, h2, r2⟩ := trodAll_cons r1
  obtain ⟨v3, vs3, d3, ds3, p3, q3, rfl, rfl, rfl, h3, r3⟩ := trodAll_cons r2
  obtain ⟨v4, vs4, d4, ds4, p4, q4, rfl, rfl, rfl, h4, r4⟩ := trodAll_cons r3
  obtain ⟨rfl, rfl, rfl⟩ := trodAll_nil r4
  obtain rfl : args = #[v0, v1, v2, v3, v4] := by cases args; simp_all
  obtain ⟨rfl, rfl⟩ := trodVars_none hV
  have lt0 : ∀ x ∈ p0, x.block < W.heap.size := by obtain ⟨m, hm⟩ := h0; exact DataW.trod_lt m _ _ _ hm
  have lt1 : ∀ x ∈ p1, x.block < W.heap.size := by obtain ⟨m, hm⟩ := h1; exact DataW.trod_lt m _ _ _ hm
  have lt2 : ∀ x ∈ p2, x.block < W.heap.size := by obtain ⟨m, hm⟩ := h2; exact DataW.trod_lt m _ _ _ hm
  have lt3 : ∀ x ∈ p3, x.block < W.heap.size := by obtain ⟨m, hm⟩ := h3; exact DataW.trod_lt m _ _ _ hm
  have lt4 : ∀ x ∈ p4, x.block < W.heap.size := by obtain ⟨m, hm⟩ := h4; exact DataW.trod_lt m _ _ _ hm
  obtain ⟨c0, b0⟩ := open_flat (n := 8) (ks := [(.int .i64), (.int .i64)]) (by kernel_rfl) (hval 0 23 v0 rfl rfl) h0
  obtain ⟨-, b0⟩ := b0.resolve_right (by rw [show isAggB Try.prog 23 = true by kernel_rfl]; exact Bool.noConfusion)
  generalize hcs0 : cellsL v0 = cs0 at c0 b0
  clear hcs0
  subst b0
  obtain ⟨_, cs0_0, rfl, ⟨x0_0, rfl, wx0_0⟩, c0_0⟩ := c0.inv
  obtain ⟨_, cs0_1, rfl, ⟨x0_1, rfl, wx0_1⟩, c0_1⟩ := c0_0.inv
  obtain rfl := c0_1.inv0
  obtain ⟨c1, b1⟩ := open_flat (n := 8) (ks := [.bool, (.int .u64), (.int .u64)]) (by kernel_rfl) (hval 1 26 v1 rfl rfl) h1
  obtain ⟨-, b1⟩ := b1.resolve_right (by rw [show isAggB Try.prog 26 = true by kernel_rfl]; exact Bool.noConfusion)
  generalize hcs1 : cellsL v1 = cs1 at c1 b1
  clear hcs1
  subst b1
  obtain ⟨_, cs1_0, rfl, ⟨x1_0, rfl⟩, c1_0⟩ := c1.inv
  obtain ⟨_, cs1_1, rfl, ⟨x1_1, rfl, wx1_1⟩, c1_1⟩ := c1_0.inv
  obtain ⟨_, cs1_2, rfl, ⟨x1_2, rfl, wx1_2⟩, c1_2⟩ := c1_1.inv
  obtain rfl := c1_2.inv0
  obtain ⟨c2, b2⟩ := open_flat (n := 8) (ks := [.bool, (.int .u64), (.int .u64)]) (by kernel_rfl) (hval 2 26 v2 rfl rfl) h2
  obtain ⟨-, b2⟩ := b2.resolve_right (by rw [show isAggB Try.prog 26 = true by kernel_rfl]; exact Bool.noConfusion)
  generalize hcs2 : cellsL v2 = cs2 at c2 b2
  clear hcs2
  subst b2
  obtain ⟨_, cs2_0, rfl, ⟨x2_0, rfl⟩, c2_0⟩ := c2.inv
  obtain ⟨_, cs2_1, rfl, ⟨x2_1, rfl, wx2_1⟩, c2_1⟩ := c2_0.inv
  obtain ⟨_, cs2_2, rfl, ⟨x2_2, rfl, wx2_2⟩, c2_2⟩ := c2_1.inv
  obtain rfl := c2_2.inv0
  obtain ⟨x3_0, rfl⟩ := okWide_string Try.underlying9 (hval 3 9 v3 rfl rfl)
  have wx3_0 : x3_0.size ≤ maxLen := by
    obtain ⟨c3, _⟩ := open_flat (n := 8) (ks := [.str]) (by kernel_rfl) (hval 3 9 _ rfl rfl) h3
    obtain ⟨_, _, e, ⟨_, e2, hw⟩, _⟩ := c3.inv
    cases e; cases e2; exact hw
  obtain ⟨x4_0, rfl⟩ := okWide_string Try.underlying9 (hval 4 9 v4 rfl rfl)
  have wx4_0 : x4_0.size ≤ maxLen := by
    obtain ⟨c4, _⟩ := open_flat (n := 8) (ks := [.str]) (by kernel_rfl) (hval 4 9 _ rfl rfl) h4
    obtain ⟨_, _, e, ⟨_, e2, hw⟩, _⟩ := c4.inv
    cases e; cases e2; exact hw
  clear hA0 hval0
  refine (walk W x0_0 wx0_0 x0_1 wx0_1 x1_0 x1_1 wx1_1 x1_2 wx1_2 x2_0 x2_1 wx2_1 x2_2 wx2_2 x3_0 wx3_0 x4_0 wx4_0).mono fun e W' ⟨he, bel⟩ => ?_
  subst he
  exact ⟨_, rfl, _, _, _, [], _, [], hW', trodAll_mk1 (shut_bool Try.underlying4 _), (trodAll_cons_mk (Below.trod laidOut (by kernel_rfl) (of_decide_eq_true (by kernel_rfl)) h0 bel lt0) (trodAll_cons_mk (Below.trod laidOut (by kernel_rfl) (of_decide_eq_true (by kernel_rfl)) h1 bel lt1) (trodAll_cons_mk (Below.trod laidOut (by kernel_rfl) (of_decide_eq_true (by kernel_rfl)) h2 bel lt2) (trodAll_cons_mk (Below.trod laidOut (by kernel_rfl) (of_decide_eq_true (by kernel_rfl)) h3 bel lt3) (trodAll_cons_mk (Below.trod laidOut (by kernel_rfl) (of_decide_eq_true (by kernel_rfl)) h4 bel lt4) trodAll_mk0))))), rfl, bel.frame _, fun h => by cases h⟩

theorem over : Rows.udpTellsRow.holds Try.pinned (OpenSpec.ofChange Rows.udpTellsSpec) :=
  OpenClaim.holds_of_wide 3 Try.f3 rfl rfl rfl rfl rfl rfl rfl ⟨rfl, rfl, rfl, rfl, rfl⟩ rfl rfl rfl rfl rfl (by kernel_rfl) Try.func3 (by kernel_rfl)
    (of_decide_eq_true (by kernel_rfl)) (by unfold Func.isWrapper; first | (rw [if_pos (by decide +kernel)]; kernel_rfl) | (rw [if_neg (by decide +kernel)]; exact ⟨rfl, rfl⟩))
    (fun os started H enc _ => lifted os started H enc)

theorem proved : Rows.UdpTellsSaid := over
#print axioms proved
end Go.Proofs.Ytdnhoocoofnibaa.udpTells
