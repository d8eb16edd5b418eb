/-
  The law PacketTurned returns true at all arguments, and it writes nothing that was there.
  The frame is written by a program off the print for this function; the walk stands in the texts that are imported.
-/
import Derived.Test.YtdnbalelfakjhaaRows
import Derived.WalkKit
import Derived.ProofKit
import Derived.OpenShut
import Derived.ShutString
import Derived.ChangeOld
import Derived.Below
import Derived.Carry
import Derived.Test.YtdnbalelfakjhaaNPacketTurnedf
namespace Go.Proofs.Ytdnbalelfakjhaa.packetTurned
open Go.ChangeShapes Go.WideShapes Go.ChangeAt Go.RowKit Go.Vm
set_option linter.unusedVariables false

theorem own : ownKnob Try.prog.godebug = none := by kernel_rfl
theorem laidOut : laidOutB Try.prog = true := by kernel_rfl

theorem walk (W : World) (x0_0 : Int) (wx0_0 : (Lit.int .i64 x0_0).wf = true) (x0_1 : Bool) (x0_2 : Int) (wx0_2 : (Lit.int .u64 x0_2).wf = true) (x0_3 : Int) (wx0_3 : (Lit.int .u64 x0_3).wf = true) (x0_4 : Bool) (x0_5 : Int) (wx0_5 : (Lit.int .u64 x0_5).wf = true) (x0_6 : Int) (wx0_6 : (Lit.int .u64 x0_6).wf = true) (x0_7 : Int) (wx0_7 : (Lit.int .i64 x0_7).wf = true) (x0_8 : Int) (wx0_8 : (Lit.int .i64 x0_8).wf = true) (x1_0 : Int) (wx1_0 : (Lit.int .u8 x1_0).wf = true) (x2_0 : Int) (wx2_0 : (Lit.int .u32 x2_0).wf = true) (x3_0 : Int) (wx3_0 : (Lit.int .u32 x3_0).wf = true) (x4_0 : ByteArray) (wx4_0 : x4_0.size ≤ maxLen) (x5_0 : Int) (wx5_0 : (Lit.int .u16 x5_0).wf = true) :
    Calls Try.prog 4 #[.agg ⟨[.int .i64 x0_0, .bool x0_1, .int .u64 x0_2, .int .u64 x0_3, .bool x0_4, .int .u64 x0_5, .int .u64 x0_6, .int .i64 x0_7, .int .i64 x0_8]⟩, .int .u8 x1_0, .int .u32 x2_0, .int .u32 x3_0, .string x4_0, .int .u16 x5_0] W fun e w' => e = .returned (.bool true) ∧ Below W.heap.size W w' := by
  refine calls_of_leads Go.Vm.Code.tab_ok (ms := [.v, .v, .v, .v, .v, .v]) (aqs := [.v (.agg ⟨[.int .i64 x0_0, .bool x0_1, .int .u64 x0_2, .int .u64 x0_3, .bool x0_4, .int .u64 x0_5, .int .u64 x0_6, .int .i64 x0_7, .int .i64 x0_8]⟩), .v (.int .u8 x1_0), .v (.int .u32 x2_0), .v (.int .u32 x3_0), .v (.string x4_0), .v (.int .u16 x5_0)]) (r := true) (.cons ⟨rfl, rfl⟩ (.cons ⟨rfl, rfl⟩ (.cons ⟨rfl, rfl⟩ (.cons ⟨rfl, rfl⟩ (.cons ⟨rfl, rfl⟩ (.cons ⟨rfl, rfl⟩ .nil)))))) rfl ?_
  have hS : SumsOK Try.prog (aget (Go.Vm.Code.sums4 Go.Vm.Code.R07_Stamped Go.Vm.Code.law11_awake Go.Vm.Code.packet_Parse Go.Vm.Code.packet_Segment)) := SumsOK.of_tab ⟨Go.Vm.Code.lift15, Go.Vm.Code.lift13, Go.Vm.Code.lift16, Go.Vm.Code.lift14, trivial⟩
  refine (Go.Vm.Code.leads4 Go.Vm.Code.R07_Stamped Go.Vm.Code.law11_awake Go.Vm.Code.packet_Parse Go.Vm.Code.packet_Segment hS (Go.Vm.Code.api_Tuple.mk x0_0 (Go.Vm.Code.api_Addr.mk x0_1 x0_2 x0_3) (Go.Vm.Code.api_Addr.mk x0_4 x0_5 x0_6) x0_7 x0_8) x1_0 x2_0 x3_0 x4_0.data.toList x5_0 true ?_).mono fun v H t hp => Res.flat rfl rfl hp
  exact Go.Vm.Code.packetTurned _ _ _ _ _ _ ⟨(wf_u64 wx0_2).1, by have := (wf_u64 wx0_2).2; first | omega | (simp only []; omega), (wf_u64 wx0_3).1, by have := (wf_u64 wx0_3).2; first | omega | (simp only []; omega)⟩ ⟨(wf_u64 wx0_5).1, by have := (wf_u64 wx0_5).2; first | omega | (simp only []; omega), (wf_u64 wx0_6).1, by have := (wf_u64 wx0_6).2; first | omega | (simp only []; omega)⟩ ⟨(wf_u8 wx1_0).1, by have := (wf_u8 wx1_0).2; first | omega | (simp only []; omega)⟩ ⟨(wf_u32 wx2_0).1, by have := (wf_u32 wx2_0).2; first | omega | (simp only []; omega)⟩ ⟨(wf_u32 wx3_0).1, by have := (wf_u32 wx3_0).2; first | omega | (simp only []; omega)⟩ ⟨(wf_u16 wx5_0).1, by have := (wf_u16 wx5_0).2; first | omega | (simp only []; omega)⟩

set_option maxRecDepth 100000 in
theorem lifted (os : Os) (started : os.Started) (H : Type) (enc : TypeId × Value → H) :
    ReturnsInHanded {} Try.checked os 4 .any (Rows.packetTurnedSpec.pre6 enc Try.prog Try.f4 Rows.packetTurnedRow.domain false) (Rows.packetTurnedSpec.post enc Try.prog Try.f4 false true false false) := by
  refine returnsInHanded_of_change (C := Try.checked) own started (by kernel_rfl) Try.func4
    (ChangeSpec.witness6 (enc := enc) (C := Try.checked) false ⟨#[], #[.agg ⟨[.int .i64 0, .bool false, .int .u64 0, .int .u64 0, .bool false, .int .u64 0, .int .u64 0, .int .i64 0, .int .i64 0]⟩, .int .u8 0, .int .u32 0, .int .u32 0, .string ⟨#[]⟩, .int .u16 0], []⟩ 8 (by kernel_rfl) (by kernel_rfl) (by kernel_rfl) (by kernel_rfl)) ?_
  intro W base args ds gs before hval0 hW hcnd _
  have hval : ∀ (j : Nat) t v, Try.f4.params[j]? = some t → args[j]? = some v → Value.okWide Try.prog W .any base t v := hval0
  have hW' := hW
  obtain ⟨p, q, hA0, hV, rfl, hfz, hnd⟩ := hW
  have hA : DataW.TrodAll enc Try.prog W 0 (fun _ => true) true Try.f4.params.toList args.toList ds p := hA0
  rw [Try.params4] at hA hval
  obtain ⟨v0, vs0, d0, ds0, p0, q0, hargs, rfl, rfl, h0, r0⟩ := trodAll_cons hA
  obtain ⟨v1, vs1, d1, ds1, p1, q1, rfl, rfl, rfl, h1, r1⟩ := trodAll_cons r0
  obtain ⟨v2, vs2, d2, ds2, p2, q2, rfl, rfl, rfl, h2, r2⟩ := trodAll_cons r1
  obtain ⟨v3, vs3, d3, ds3, p3, q3, rfl, rfl, rfl, h3, r3⟩ := trodAll_cons r2
  obtain ⟨v4, vs4, d4, ds4, p4, q4, rfl, rfl, rfl, h4, r4⟩ := trodAll_cons r3
  obtain ⟨v5, vs5, d5, ds5, p5, q5, rfl, rfl, rfl, h5, r5⟩ := trodAll_cons r4
  obtain ⟨rfl, rfl, rfl⟩ := trodAll_nil r5
  obtain rfl : args = #[v0, v1, v2, v3, v4, v5] := by cases args; simp_all
  obtain ⟨rfl, rfl⟩ := trodVars_none hV
  have lt0 : ∀ x ∈ p0, x.block < W.heap.size := by obtain ⟨m, hm⟩ := h0; exact DataW.trod_lt m _ _ _ hm
  have lt1 : ∀ x ∈ p1, x.block < W.heap.size := by obtain ⟨m, hm⟩ := h1; exact DataW.trod_lt m _ _ _ hm
  have lt2 : ∀ x ∈ p2, x.block < W.heap.size := by obtain ⟨m, hm⟩ := h2; exact DataW.trod_lt m _ _ _ hm
  have lt3 : ∀ x ∈ p3, x.block < W.heap.size := by obtain ⟨m, hm⟩ := h3; exact DataW.trod_lt m _ _ _ hm
  have lt4 : ∀ x ∈ p4, x.block < W.heap.size := by obtain ⟨m, hm⟩ := h4; exact DataW.trod_lt m _ _ _ hm
  have lt5 : ∀ x ∈ p5, x.block < W.heap.size := by obtain ⟨m, hm⟩ := h5; exact DataW.trod_lt m _ _ _ hm
  obtain ⟨c0, b0⟩ := open_flat (n := 8) (ks := [(.int .i64), .bool, (.int .u64), (.int .u64), .bool, (.int .u64), (.int .u64), (.int .i64), (.int .i64)]) (by kernel_rfl) (hval 0 34 v0 rfl rfl) h0
  obtain ⟨-, b0⟩ := b0.resolve_right (by rw [show isAggB Try.prog 34 = true by kernel_rfl]; exact Bool.noConfusion)
  generalize hcs0 : cellsL v0 = cs0 at c0 b0
  clear hcs0
  subst b0
  obtain ⟨_, cs0_0, rfl, ⟨x0_0, rfl, wx0_0⟩, c0_0⟩ := c0.inv
  obtain ⟨_, cs0_1, rfl, ⟨x0_1, rfl⟩, c0_1⟩ := c0_0.inv
  obtain ⟨_, cs0_2, rfl, ⟨x0_2, rfl, wx0_2⟩, c0_2⟩ := c0_1.inv
  obtain ⟨_, cs0_3, rfl, ⟨x0_3, rfl, wx0_3⟩, c0_3⟩ := c0_2.inv
  obtain ⟨_, cs0_4, rfl, ⟨x0_4, rfl⟩, c0_4⟩ := c0_3.inv
  obtain ⟨_, cs0_5, rfl, ⟨x0_5, rfl, wx0_5⟩, c0_5⟩ := c0_4.inv
  obtain ⟨_, cs0_6, rfl, ⟨x0_6, rfl, wx0_6⟩, c0_6⟩ := c0_5.inv
  obtain ⟨_, cs0_7, rfl, ⟨x0_7, rfl, wx0_7⟩, c0_7⟩ := c0_6.inv
  obtain ⟨_, cs0_8, rfl, ⟨x0_8, rfl, wx0_8⟩, c0_8⟩ := c0_7.inv
  obtain rfl := c0_8.inv0
  obtain ⟨x1_0, rfl⟩ := okWide_int Try.underlying5 (hval 1 5 v1 rfl rfl)
  have wx1_0 : (Lit.int .u8 x1_0).wf = true := by
    obtain ⟨c1, _⟩ := open_flat (n := 8) (ks := [(.int .u8)]) (by kernel_rfl) (hval 1 5 _ rfl rfl) h1
    obtain ⟨_, _, e, ⟨_, e2, hw⟩, _⟩ := c1.inv
    cases e; cases e2; exact hw
  obtain ⟨x2_0, rfl⟩ := okWide_int Try.underlying35 (hval 2 35 v2 rfl rfl)
  have wx2_0 : (Lit.int .u32 x2_0).wf = true := by
    obtain ⟨c2, _⟩ := open_flat (n := 8) (ks := [(.int .u32)]) (by kernel_rfl) (hval 2 35 _ rfl rfl) h2
    obtain ⟨_, _, e, ⟨_, e2, hw⟩, _⟩ := c2.inv
    cases e; cases e2; exact hw
  obtain ⟨x3_0, rfl⟩ := okWide_int Try.underlying35 (hval 3 35 v3 rfl rfl)
  have wx3_0 : (Lit.int .u32 x3_0).wf = true := by
    obtain ⟨c3, _⟩ := open_flat (n := 8) (ks := [(.int .u32)]) (by kernel_rfl) (hval 3 35 _ rfl rfl) h3
    obtain ⟨_, _, e, ⟨_, e2, hw⟩, _⟩ := c3.inv
    cases e; cases e2; exact hw
  obtain ⟨x4_0, rfl⟩ := okWide_string Try.underlying9 (hval 4 9 v4 rfl rfl)
  have wx4_0 : x4_0.size ≤ maxLen := by
    obtain ⟨c4, _⟩ := open_flat (n := 8) (ks := [.str]) (by kernel_rfl) (hval 4 9 _ rfl rfl) h4
    obtain ⟨_, _, e, ⟨_, e2, hw⟩, _⟩ := c4.inv
    cases e; cases e2; exact hw
  obtain ⟨x5_0, rfl⟩ := okWide_int Try.underlying36 (hval 5 36 v5 rfl rfl)
  have wx5_0 : (Lit.int .u16 x5_0).wf = true := by
    obtain ⟨c5, _⟩ := open_flat (n := 8) (ks := [(.int .u16)]) (by kernel_rfl) (hval 5 36 _ rfl rfl) h5
    obtain ⟨_, _, e, ⟨_, e2, hw⟩, _⟩ := c5.inv
    cases e; cases e2; exact hw
  clear hA0 hval0
  refine (walk W x0_0 wx0_0 x0_1 x0_2 wx0_2 x0_3 wx0_3 x0_4 x0_5 wx0_5 x0_6 wx0_6 x0_7 wx0_7 x0_8 wx0_8 x1_0 wx1_0 x2_0 wx2_0 x3_0 wx3_0 x4_0 wx4_0 x5_0 wx5_0).mono fun e W' ⟨he, bel⟩ => ?_
  subst he
  exact ⟨_, rfl, _, _, _, [], _, [], hW', trodAll_mk1 (shut_bool Try.underlying4 _), (trodAll_cons_mk (Below.trod laidOut (by kernel_rfl) (of_decide_eq_true (by kernel_rfl)) h0 bel lt0) (trodAll_cons_mk (Below.trod laidOut (by kernel_rfl) (of_decide_eq_true (by kernel_rfl)) h1 bel lt1) (trodAll_cons_mk (Below.trod laidOut (by kernel_rfl) (of_decide_eq_true (by kernel_rfl)) h2 bel lt2) (trodAll_cons_mk (Below.trod laidOut (by kernel_rfl) (of_decide_eq_true (by kernel_rfl)) h3 bel lt3) (trodAll_cons_mk (Below.trod laidOut (by kernel_rfl) (of_decide_eq_true (by kernel_rfl)) h4 bel lt4) (trodAll_cons_mk (Below.trod laidOut (by kernel_rfl) (of_decide_eq_true (by kernel_rfl)) h5 bel lt5) trodAll_mk0)))))), rfl, bel.frame _, fun h => by cases h⟩

theorem over : Rows.packetTurnedRow.holds Try.pinned (OpenSpec.ofChange Rows.packetTurnedSpec) :=
  OpenClaim.holds_of_wide 4 Try.f4 rfl rfl rfl rfl rfl rfl rfl ⟨rfl, rfl, rfl, rfl, rfl⟩ rfl rfl rfl rfl rfl (by kernel_rfl) Try.func4 (by kernel_rfl)
    (of_decide_eq_true (by kernel_rfl)) (by unfold Func.isWrapper; first | (rw [if_pos (by decide +kernel)]; kernel_rfl) | (rw [if_neg (by decide +kernel)]; exact ⟨rfl, rfl⟩))
    (fun os started H enc _ => lifted os started H enc)

theorem proved : Rows.PacketTurnedSaid := over
#print axioms proved
end Go.Proofs.Ytdnbalelfakjhaa.packetTurned
