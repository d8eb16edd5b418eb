/-
  The law StatelessTells returns true at all arguments, and it writes nothing that was there.
  The frame is written by a program off the print for this function; the walk stands in the texts that are imported.
-/
import Derived.Test.YtadhjooghfdloaaRows
import Derived.WalkKit
import Derived.ProofKit
import Derived.OpenShut
import Derived.ShutString
import Derived.ChangeOld
import Derived.Below
import Derived.Carry
import Derived.Test.YtadhjooghfdloaaNStatelessTellsf
namespace Go.Proofs.Ytadhjooghfdloaa.statelessTells
open Go.ChangeShapes Go.WideShapes Go.ChangeAt Go.RowKit Go.Vm
set_option linter.unusedVariables false

theorem own : ownKnob Try.prog.godebug = none := by kernel_rfl
theorem laidOut : laidOutB Try.prog = true := by kernel_rfl

theorem walk (W : World) (x0_0 : Int) (wx0_0 : (Lit.int .i64 x0_0).wf = true) (x0_1 : Bool) (x0_2 : Int) (wx0_2 : (Lit.int .u64 x0_2).wf = true) (x0_3 : Int) (wx0_3 : (Lit.int .u64 x0_3).wf = true) (x0_4 : Bool) (x0_5 : Int) (wx0_5 : (Lit.int .u64 x0_5).wf = true) (x0_6 : Int) (wx0_6 : (Lit.int .u64 x0_6).wf = true) (x0_7 : Int) (wx0_7 : (Lit.int .i64 x0_7).wf = true) (x0_8 : Int) (wx0_8 : (Lit.int .i64 x0_8).wf = true) (x0_9 : Int) (wx0_9 : (Lit.int .i64 x0_9).wf = true) (x0_10 : Bool) (x0_11 : Int) (wx0_11 : (Lit.int .u32 x0_11).wf = true) (x0_12 : Int) (wx0_12 : (Lit.int .u32 x0_12).wf = true) (x0_13 : Bool) (x0_14 : ByteArray) (wx0_14 : x0_14.size ≤ maxLen) (x0_15 : Int) (wx0_15 : (Lit.int .i64 x0_15).wf = true) (x1_0 : Int) (wx1_0 : (Lit.int .u64 x1_0).wf = true) (x1_1 : Int) (wx1_1 : (Lit.int .u64 x1_1).wf = true) (x2_0 : Int) (wx2_0 : (Lit.int .i64 x2_0).wf = true) (x2_1 : Bool) (x2_2 : Int) (wx2_2 : (Lit.int .u64 x2_2).wf = true) (x2_3 : Int) (wx2_3 : (Lit.int .u64 x2_3).wf = true) (x2_4 : Bool) (x2_5 : Int) (wx2_5 : (Lit.int .u64 x2_5).wf = true) (x2_6 : Int) (wx2_6 : (Lit.int .u64 x2_6).wf = true) (x2_7 : Int) (wx2_7 : (Lit.int .i64 x2_7).wf = true) (x2_8 : Int) (wx2_8 : (Lit.int .i64 x2_8).wf = true) (x3_0 : Int) (wx3_0 : (Lit.int .i64 x3_0).wf = true) (x4_0 : Int) (wx4_0 : (Lit.int .u64 x4_0).wf = true) (a5 : Option Addr) (len5 cap5 : Nat) (z5 : List Value) (row5 : RowN W [(.int .i64), (.int .i64), (.int .i64), .bool, (.int .u64), (.int .u64), .bool] a5 len5 cap5 z5) :
    Calls Try.prog 12 #[.agg ⟨[.int .i64 x0_0, .bool x0_1, .int .u64 x0_2, .int .u64 x0_3, .bool x0_4, .int .u64 x0_5, .int .u64 x0_6, .int .i64 x0_7, .int .i64 x0_8, .int .i64 x0_9, .bool x0_10, .int .u32 x0_11, .int .u32 x0_12, .bool x0_13, .string x0_14, .int .i64 x0_15]⟩, .agg ⟨[.int .u64 x1_0, .int .u64 x1_1]⟩, .agg ⟨[.int .i64 x2_0, .bool x2_1, .int .u64 x2_2, .int .u64 x2_3, .bool x2_4, .int .u64 x2_5, .int .u64 x2_6, .int .i64 x2_7, .int .i64 x2_8]⟩, .int .i64 x3_0, .int .u64 x4_0, .slice a5 len5 cap5] W fun e w' => e = .returned (.bool true) ∧ Below W.heap.size W w' := by
  obtain ⟨A5, Z5, C5, M5⟩ := ArgR.rowN row5 (by decide)
  obtain ⟨xs5, e5, L5, O5⟩ := rows_of (c := Go.Vm.Code.cR23_Step) (ok := fun (x : Go.Vm.Code.R23_Step) => (Lit.int .i64 x.Kind).wf = true ∧ (Lit.int .i64 x.ID).wf = true ∧ (Lit.int .i64 x.N).wf = true ∧ (Lit.int .u64 x.Addr.Hi).wf = true ∧ (Lit.int .u64 x.Addr.Lo).wf = true ∧ True) (fun cs h => by
    obtain ⟨_, cs0, rfl, ⟨y0, rfl, w0⟩, h0⟩ := h.inv
    obtain ⟨_, cs1, rfl, ⟨y1, rfl, w1⟩, h1⟩ := h0.inv
    obtain ⟨_, cs2, rfl, ⟨y2, rfl, w2⟩, h2⟩ := h1.inv
    obtain ⟨_, cs3, rfl, ⟨y3, rfl⟩, h3⟩ := h2.inv
    obtain ⟨_, cs4, rfl, ⟨y4, rfl, w4⟩, h4⟩ := h3.inv
    obtain ⟨_, cs5, rfl, ⟨y5, rfl, w5⟩, h5⟩ := h4.inv
    obtain ⟨_, cs6, rfl, ⟨y6, rfl⟩, h6⟩ := h5.inv
    obtain rfl := h6.inv0
    exact ⟨(Go.Vm.Code.R23_Step.mk y0 y1 y2 (Go.Vm.Code.api_Addr.mk y3 y4 y5) y6), rfl, ⟨w0, w1, w2, w4, w5, trivial⟩⟩) len5 _ Z5 C5
  rw [e5] at A5
  refine calls_of_leads Go.Vm.Code.tab_ok (ms := [.v, .v, .v, .v, .v, .sl 7]) (aqs := [.v (.agg ⟨[.int .i64 x0_0, .bool x0_1, .int .u64 x0_2, .int .u64 x0_3, .bool x0_4, .int .u64 x0_5, .int .u64 x0_6, .int .i64 x0_7, .int .i64 x0_8, .int .i64 x0_9, .bool x0_10, .int .u32 x0_11, .int .u32 x0_12, .bool x0_13, .string x0_14, .int .i64 x0_15]⟩), .v (.agg ⟨[.int .u64 x1_0, .int .u64 x1_1]⟩), .v (.agg ⟨[.int .i64 x2_0, .bool x2_1, .int .u64 x2_2, .int .u64 x2_3, .bool x2_4, .int .u64 x2_5, .int .u64 x2_6, .int .i64 x2_7, .int .i64 x2_8]⟩), .v (.int .i64 x3_0), .v (.int .u64 x4_0), .sl len5 (vT Go.Vm.Code.cR23_Step xs5)]) (r := true) (.cons ⟨rfl, rfl⟩ (.cons ⟨rfl, rfl⟩ (.cons ⟨rfl, rfl⟩ (.cons ⟨rfl, rfl⟩ (.cons ⟨rfl, rfl⟩ (.cons A5 .nil)))))) rfl ?_
  subst L5
  have hS : SumsOK Try.prog (aget (Go.Vm.Code.sums12 Go.Vm.Code.R32_Find Go.Vm.Code.R32_Make Go.Vm.Code.R32_Of Go.Vm.Code.R32_Open Go.Vm.Code.law32_awake Go.Vm.Code.law32_grown Go.Vm.Code.stateless_Find Go.Vm.Code.stateless_Find_nil Go.Vm.Code.stateless_Make Go.Vm.Code.stateless_Of Go.Vm.Code.stateless_Open)) := SumsOK.of_tab ⟨Go.Vm.Code.lift68, Go.Vm.Code.lift38, Go.Vm.Code.lift63, Go.Vm.Code.lift46, Go.Vm.Code.lift61, Go.Vm.Code.lift66, Go.Vm.Code.lift67, Go.Vm.Code.lift64, Go.Vm.Code.lift62, Go.Vm.Code.lift65, trivial⟩
  refine (Go.Vm.Code.leads12 Go.Vm.Code.R32_Find Go.Vm.Code.R32_Make Go.Vm.Code.R32_Of Go.Vm.Code.R32_Open Go.Vm.Code.law32_awake Go.Vm.Code.law32_grown Go.Vm.Code.stateless_Find Go.Vm.Code.stateless_Find_nil Go.Vm.Code.stateless_Make Go.Vm.Code.stateless_Of Go.Vm.Code.stateless_Open hS (Go.Vm.Code.api_Packet.mk (Go.Vm.Code.api_Tuple.mk x0_0 (Go.Vm.Code.api_Addr.mk x0_1 x0_2 x0_3) (Go.Vm.Code.api_Addr.mk x0_4 x0_5 x0_6) x0_7 x0_8) x0_9 x0_10 x0_11 x0_12 x0_13 x0_14.data.toList x0_15) (Go.Vm.Code.api_Key.mk x1_0 x1_1) (Go.Vm.Code.api_Tuple.mk x2_0 (Go.Vm.Code.api_Addr.mk x2_1 x2_2 x2_3) (Go.Vm.Code.api_Addr.mk x2_4 x2_5 x2_6) x2_7 x2_8) x3_0 x4_0 xs5 true ?_).mono fun v H t hp => Res.flat rfl rfl hp
  exact Go.Vm.Code.statelessTells _ _ _ _ _ _ ⟨(wf_u32 wx0_12).1, by have := (wf_u32 wx0_12).2; simp only []; omega⟩ ⟨by have := (wf_i64 wx3_0).1; omega, by have := (wf_i64 wx3_0).2; omega⟩ ⟨(wf_u64 wx4_0).1, by have := (wf_u64 wx4_0).2; omega⟩ ⟨⟨(wf_u64 wx2_2).1, by have := (wf_u64 wx2_2).2; simp only []; omega⟩, (wf_u64 wx2_3).1, by have := (wf_u64 wx2_3).2; simp only []; omega⟩ ⟨⟨(wf_u64 wx2_5).1, by have := (wf_u64 wx2_5).2; simp only []; omega⟩, (wf_u64 wx2_6).1, by have := (wf_u64 wx2_6).2; simp only []; omega⟩

set_option maxRecDepth 100000 in
theorem lifted (os : Os) (started : os.Started) (H : Type) (enc : TypeId × Value → H) :
    ReturnsInHanded {} Try.checked os 12 .any (Rows.statelessTellsSpec.pre6 enc Try.prog Try.f12 Rows.statelessTellsRow.domain false) (Rows.statelessTellsSpec.post enc Try.prog Try.f12 false true false false) := by
  refine returnsInHanded_of_change (C := Try.checked) own started (by kernel_rfl) Try.func12
    (ChangeSpec.witness6 (enc := enc) (C := Try.checked) false ⟨#[], #[.agg ⟨[.int .i64 0, .bool false, .int .u64 0, .int .u64 0, .bool false, .int .u64 0, .int .u64 0, .int .i64 0, .int .i64 0, .int .i64 0, .bool false, .int .u32 0, .int .u32 0, .bool false, .string ⟨#[]⟩, .int .i64 0]⟩, .agg ⟨[.int .u64 0, .int .u64 0]⟩, .agg ⟨[.int .i64 0, .bool false, .int .u64 0, .int .u64 0, .bool false, .int .u64 0, .int .u64 0, .int .i64 0, .int .i64 0]⟩, .int .i64 0, .int .u64 0, .slice none 0 0], []⟩ 8 (by kernel_rfl) (by kernel_rfl) (by kernel_rfl) (by kernel_rfl)) ?_
  intro W base args ds gs before hval0 hW hcnd _
  have hval : ∀ (j : Nat) t v, Try.f12.params[j]? = some t → args[j]? = some v → Value.okWide Try.prog W .any base t v := hval0
  have hW' := hW
  obtain ⟨p, q, hA0, hV, rfl, hfz, hnd⟩ := hW
  have hA : DataW.TrodAll enc Try.prog W 0 (fun _ => true) true Try.f12.params.toList args.toList ds p := hA0
  rw [Try.params12] at hA hval
  obtain ⟨v0, vs0, d0, ds0, p0, q0, hargs, rfl, rfl, h0, r0⟩ := trodAll_cons hA
  obtain ⟨v1, vs1, d1, ds1, p1, q1, rfl, rfl, rfl, h1, r1⟩ := trodAll_cons r0
  obtain ⟨v2, vs2, d2, ds2, p2, q2, rfl, rfl, rfl, h2, r2⟩ := trodAll_cons r1
  obtain ⟨v3, vs3, d3, ds3, p3, q3, rfl, rfl, rfl, h3, r3⟩ := trodAll_cons r2
  obtain ⟨v4, vs4, d4, ds4, p4, q4, rfl, rfl, rfl, h4, r4⟩ := trodAll_cons r3
  obtain ⟨v5, vs5, d5, ds5, p5, q5, rfl, rfl, rfl, h5, r5⟩ := trodAll_cons r4
  obtain ⟨rfl, rfl, rfl⟩ := trodAll_nil r5
  obtain rfl : args = #[v0, v1, v2, v3, v4, v5] := by cases args; simp_all
  obtain ⟨rfl, rfl⟩ := trodVars_none hV
  have lt0 : ∀ x ∈ p0, x.block < W.heap.size := by obtain ⟨m, hm⟩ := h0; exact DataW.trod_lt m _ _ _ hm
  have lt1 : ∀ x ∈ p1, x.block < W.heap.size := by obtain ⟨m, hm⟩ := h1; exact DataW.trod_lt m _ _ _ hm
  have lt2 : ∀ x ∈ p2, x.block < W.heap.size := by obtain ⟨m, hm⟩ := h2; exact DataW.trod_lt m _ _ _ hm
  have lt3 : ∀ x ∈ p3, x.block < W.heap.size := by obtain ⟨m, hm⟩ := h3; exact DataW.trod_lt m _ _ _ hm
  have lt4 : ∀ x ∈ p4, x.block < W.heap.size := by obtain ⟨m, hm⟩ := h4; exact DataW.trod_lt m _ _ _ hm
  have lt5 : ∀ x ∈ p5, x.block < W.heap.size := by obtain ⟨m, hm⟩ := h5; exact DataW.trod_lt m _ _ _ hm
  obtain ⟨c0, b0⟩ := open_flat (n := 8) (ks := [(.int .i64), .bool, (.int .u64), (.int .u64), .bool, (.int .u64), (.int .u64), (.int .i64), (.int .i64), (.int .i64), .bool, (.int .u32), (.int .u32), .bool, .str, (.int .i64)]) (by kernel_rfl) (hval 0 110 v0 rfl rfl) h0
  obtain ⟨-, b0⟩ := b0.resolve_right (by rw [show isAggB Try.prog 110 = true by kernel_rfl]; exact Bool.noConfusion)
  generalize hcs0 : cellsL v0 = cs0 at c0 b0
  clear hcs0
  subst b0
  obtain ⟨_, cs0_0, rfl, ⟨x0_0, rfl, wx0_0⟩, c0_0⟩ := c0.inv
  obtain ⟨_, cs0_1, rfl, ⟨x0_1, rfl⟩, c0_1⟩ := c0_0.inv
  obtain ⟨_, cs0_2, rfl, ⟨x0_2, rfl, wx0_2⟩, c0_2⟩ := c0_1.inv
  obtain ⟨_, cs0_3, rfl, ⟨x0_3, rfl, wx0_3⟩, c0_3⟩ := c0_2.inv
  obtain ⟨_, cs0_4, rfl, ⟨x0_4, rfl⟩, c0_4⟩ := c0_3.inv
  obtain ⟨_, cs0_5, rfl, ⟨x0_5, rfl, wx0_5⟩, c0_5⟩ := c0_4.inv
  obtain ⟨_, cs0_6, rfl, ⟨x0_6, rfl, wx0_6⟩, c0_6⟩ := c0_5.inv
  obtain ⟨_, cs0_7, rfl, ⟨x0_7, rfl, wx0_7⟩, c0_7⟩ := c0_6.inv
  obtain ⟨_, cs0_8, rfl, ⟨x0_8, rfl, wx0_8⟩, c0_8⟩ := c0_7.inv
  obtain ⟨_, cs0_9, rfl, ⟨x0_9, rfl, wx0_9⟩, c0_9⟩ := c0_8.inv
  obtain ⟨_, cs0_10, rfl, ⟨x0_10, rfl⟩, c0_10⟩ := c0_9.inv
  obtain ⟨_, cs0_11, rfl, ⟨x0_11, rfl, wx0_11⟩, c0_11⟩ := c0_10.inv
  obtain ⟨_, cs0_12, rfl, ⟨x0_12, rfl, wx0_12⟩, c0_12⟩ := c0_11.inv
  obtain ⟨_, cs0_13, rfl, ⟨x0_13, rfl⟩, c0_13⟩ := c0_12.inv
  obtain ⟨_, cs0_14, rfl, ⟨x0_14, rfl, wx0_14⟩, c0_14⟩ := c0_13.inv
  obtain ⟨_, cs0_15, rfl, ⟨x0_15, rfl, wx0_15⟩, c0_15⟩ := c0_14.inv
  obtain rfl := c0_15.inv0
  obtain ⟨c1, b1⟩ := open_flat (n := 8) (ks := [(.int .u64), (.int .u64)]) (by kernel_rfl) (hval 1 60 v1 rfl rfl) h1
  obtain ⟨-, b1⟩ := b1.resolve_right (by rw [show isAggB Try.prog 60 = true by kernel_rfl]; exact Bool.noConfusion)
  generalize hcs1 : cellsL v1 = cs1 at c1 b1
  clear hcs1
  subst b1
  obtain ⟨_, cs1_0, rfl, ⟨x1_0, rfl, wx1_0⟩, c1_0⟩ := c1.inv
  obtain ⟨_, cs1_1, rfl, ⟨x1_1, rfl, wx1_1⟩, c1_1⟩ := c1_0.inv
  obtain rfl := c1_1.inv0
  obtain ⟨c2, b2⟩ := open_flat (n := 8) (ks := [(.int .i64), .bool, (.int .u64), (.int .u64), .bool, (.int .u64), (.int .u64), (.int .i64), (.int .i64)]) (by kernel_rfl) (hval 2 69 v2 rfl rfl) h2
  obtain ⟨-, b2⟩ := b2.resolve_right (by rw [show isAggB Try.prog 69 = true by kernel_rfl]; exact Bool.noConfusion)
  generalize hcs2 : cellsL v2 = cs2 at c2 b2
  clear hcs2
  subst b2
  obtain ⟨_, cs2_0, rfl, ⟨x2_0, rfl, wx2_0⟩, c2_0⟩ := c2.inv
  obtain ⟨_, cs2_1, rfl, ⟨x2_1, rfl⟩, c2_1⟩ := c2_0.inv
  obtain ⟨_, cs2_2, rfl, ⟨x2_2, rfl, wx2_2⟩, c2_2⟩ := c2_1.inv
  obtain ⟨_, cs2_3, rfl, ⟨x2_3, rfl, wx2_3⟩, c2_3⟩ := c2_2.inv
  obtain ⟨_, cs2_4, rfl, ⟨x2_4, rfl⟩, c2_4⟩ := c2_3.inv
  obtain ⟨_, cs2_5, rfl, ⟨x2_5, rfl, wx2_5⟩, c2_5⟩ := c2_4.inv
  obtain ⟨_, cs2_6, rfl, ⟨x2_6, rfl, wx2_6⟩, c2_6⟩ := c2_5.inv
  obtain ⟨_, cs2_7, rfl, ⟨x2_7, rfl, wx2_7⟩, c2_7⟩ := c2_6.inv
  obtain ⟨_, cs2_8, rfl, ⟨x2_8, rfl, wx2_8⟩, c2_8⟩ := c2_7.inv
  obtain rfl := c2_8.inv0
  obtain ⟨x3_0, rfl⟩ := okWide_int Try.underlying3 (hval 3 3 v3 rfl rfl)
  have wx3_0 : (Lit.int .i64 x3_0).wf = true := by
    obtain ⟨c3, _⟩ := open_flat (n := 8) (ks := [(.int .i64)]) (by kernel_rfl) (hval 3 3 _ rfl rfl) h3
    obtain ⟨_, _, e, ⟨_, e2, hw⟩, _⟩ := c3.inv
    cases e; cases e2; exact hw
  obtain ⟨x4_0, rfl⟩ := okWide_int Try.underlying33 (hval 4 33 v4 rfl rfl)
  have wx4_0 : (Lit.int .u64 x4_0).wf = true := by
    obtain ⟨c4, _⟩ := open_flat (n := 8) (ks := [(.int .u64)]) (by kernel_rfl) (hval 4 33 _ rfl rfl) h4
    obtain ⟨_, _, e, ⟨_, e2, hw⟩, _⟩ := c4.inv
    cases e; cases e2; exact hw
  obtain ⟨a5, len5, cap5, z5, rfl, row5⟩ := open_rowN Try.underlying24 (by kernel_rfl) (ks := [(.int .i64), (.int .i64), (.int .i64), .bool, (.int .u64), (.int .u64), .bool]) (n := 8) (by kernel_rfl) (hval 5 24 v5 rfl rfl) h5
  clear hA0 hval0
  refine (walk W x0_0 wx0_0 x0_1 x0_2 wx0_2 x0_3 wx0_3 x0_4 x0_5 wx0_5 x0_6 wx0_6 x0_7 wx0_7 x0_8 wx0_8 x0_9 wx0_9 x0_10 x0_11 wx0_11 x0_12 wx0_12 x0_13 x0_14 wx0_14 x0_15 wx0_15 x1_0 wx1_0 x1_1 wx1_1 x2_0 wx2_0 x2_1 x2_2 wx2_2 x2_3 wx2_3 x2_4 x2_5 wx2_5 x2_6 wx2_6 x2_7 wx2_7 x2_8 wx2_8 x3_0 wx3_0 x4_0 wx4_0 a5 len5 cap5 z5 row5).mono fun e W' ⟨he, bel⟩ => ?_
  subst he
  exact ⟨_, rfl, _, _, _, [], _, [], hW', trodAll_mk1 (shut_bool Try.underlying4 _), (trodAll_cons_mk (Below.trod laidOut (by kernel_rfl) (of_decide_eq_true (by kernel_rfl)) h0 bel lt0) (trodAll_cons_mk (Below.trod laidOut (by kernel_rfl) (of_decide_eq_true (by kernel_rfl)) h1 bel lt1) (trodAll_cons_mk (Below.trod laidOut (by kernel_rfl) (of_decide_eq_true (by kernel_rfl)) h2 bel lt2) (trodAll_cons_mk (Below.trod laidOut (by kernel_rfl) (of_decide_eq_true (by kernel_rfl)) h3 bel lt3) (trodAll_cons_mk (Below.trod laidOut (by kernel_rfl) (of_decide_eq_true (by kernel_rfl)) h4 bel lt4) (trodAll_cons_mk (Below.trod laidOut (by kernel_rfl) (of_decide_eq_true (by kernel_rfl)) h5 bel lt5) trodAll_mk0)))))), rfl, bel.frame _, fun h => by cases h⟩

theorem over : Rows.statelessTellsRow.holds Try.pinned (OpenSpec.ofChange Rows.statelessTellsSpec) :=
  OpenClaim.holds_of_wide 12 Try.f12 rfl rfl rfl rfl rfl rfl rfl ⟨rfl, rfl, rfl, rfl, rfl⟩ rfl rfl rfl rfl rfl (by kernel_rfl) Try.func12 (by kernel_rfl)
    (of_decide_eq_true (by kernel_rfl)) (by unfold Func.isWrapper; first | (rw [if_pos (by decide +kernel)]; kernel_rfl) | (rw [if_neg (by decide +kernel)]; exact ⟨rfl, rfl⟩))
    (fun os started H enc _ => lifted os started H enc)

theorem proved : Rows.StatelessTellsSaid := over
#print axioms proved
end Go.Proofs.Ytadhjooghfdloaa.statelessTells
