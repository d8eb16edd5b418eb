/-
  The law StatelessForged returns true at all arguments, and it writes nothing that was there.
  The frame is written by a program off the print for this function; the walk stands in the texts that are imported.
-/
import Derived.Test.YtadhjooghfdloaaRows
import Derived.WalkKit
import Derived.ProofKit
import Derived.OpenShut
import Derived.ShutString
import Derived.ChangeOld
import Derived.Below
import Derived.Carry
import Derived.Test.YtadhjooghfdloaaNStatelessForgedf
namespace Go.Proofs.Ytadhjooghfdloaa.statelessForged
open Go.ChangeShapes Go.WideShapes Go.ChangeAt Go.RowKit Go.Vm
set_option linter.unusedVariables false

theorem own : ownKnob Try.prog.godebug = none := by kernel_rfl
theorem laidOut : laidOutB Try.prog = true := by kernel_rfl

theorem walk (W : World) (x0_0 : Int) (wx0_0 : (Lit.int .u64 x0_0).wf = true) (x0_1 : Int) (wx0_1 : (Lit.int .u64 x0_1).wf = true) (x1_0 : Int) (wx1_0 : (Lit.int .i64 x1_0).wf = true) (x1_1 : Bool) (x1_2 : Int) (wx1_2 : (Lit.int .u64 x1_2).wf = true) (x1_3 : Int) (wx1_3 : (Lit.int .u64 x1_3).wf = true) (x1_4 : Bool) (x1_5 : Int) (wx1_5 : (Lit.int .u64 x1_5).wf = true) (x1_6 : Int) (wx1_6 : (Lit.int .u64 x1_6).wf = true) (x1_7 : Int) (wx1_7 : (Lit.int .i64 x1_7).wf = true) (x1_8 : Int) (wx1_8 : (Lit.int .i64 x1_8).wf = true) (x2_0 : Int) (wx2_0 : (Lit.int .u16 x2_0).wf = true) (x3_0 : Int) (wx3_0 : (Lit.int .u16 x3_0).wf = true) (a4 : Option Addr) (len4 cap4 : Nat) (z4 : List Value) (row4 : RowN W [(.int .i64), (.int .i64), (.int .i64), .bool, (.int .u64), (.int .u64), .bool] a4 len4 cap4 z4) :
    Calls Try.prog 13 #[.agg ⟨[.int .u64 x0_0, .int .u64 x0_1]⟩, .agg ⟨[.int .i64 x1_0, .bool x1_1, .int .u64 x1_2, .int .u64 x1_3, .bool x1_4, .int .u64 x1_5, .int .u64 x1_6, .int .i64 x1_7, .int .i64 x1_8]⟩, .int .u16 x2_0, .int .u16 x3_0, .slice a4 len4 cap4] W fun e w' => e = .returned (.bool true) ∧ Below W.heap.size W w' := by
  obtain ⟨A4, Z4, C4, M4⟩ := ArgR.rowN row4 (by decide)
  obtain ⟨xs4, e4, L4, O4⟩ := rows_of (c := Go.Vm.Code.cR23_Step) (ok := fun (x : Go.Vm.Code.R23_Step) => (Lit.int .i64 x.Kind).wf = true ∧ (Lit.int .i64 x.ID).wf = true ∧ (Lit.int .i64 x.N).wf = true ∧ (Lit.int .u64 x.Addr.Hi).wf = true ∧ (Lit.int .u64 x.Addr.Lo).wf = true ∧ True) (fun cs h => by
    obtain ⟨_, cs0, rfl, ⟨y0, rfl, w0⟩, h0⟩ := h.inv
    obtain ⟨_, cs1, rfl, ⟨y1, rfl, w1⟩, h1⟩ := h0.inv
    obtain ⟨_, cs2, rfl, ⟨y2, rfl, w2⟩, h2⟩ := h1.inv
    obtain ⟨_, cs3, rfl, ⟨y3, rfl⟩, h3⟩ := h2.inv
    obtain ⟨_, cs4, rfl, ⟨y4, rfl, w4⟩, h4⟩ := h3.inv
    obtain ⟨_, cs5, rfl, ⟨y5, rfl, w5⟩, h5⟩ := h4.inv
    obtain ⟨_, cs6, rfl, ⟨y6, rfl⟩, h6⟩ := h5.inv
    obtain rfl := h6.inv0
    exact ⟨(Go.Vm.Code.R23_Step.mk y0 y1 y2 (Go.Vm.Code.api_Addr.mk y3 y4 y5) y6), rfl, ⟨w0, w1, w2, w4, w5, trivial⟩⟩) len4 _ Z4 C4
  rw [e4] at A4
  refine calls_of_leads Go.Vm.Code.tab_ok (ms := [.v, .v, .v, .v, .sl 7]) (aqs := [.v (.agg ⟨[.int .u64 x0_0, .int .u64 x0_1]⟩), .v (.agg ⟨[.int .i64 x1_0, .bool x1_1, .int .u64 x1_2, .int .u64 x1_3, .bool x1_4, .int .u64 x1_5, .int .u64 x1_6, .int .i64 x1_7, .int .i64 x1_8]⟩), .v (.int .u16 x2_0), .v (.int .u16 x3_0), .sl len4 (vT Go.Vm.Code.cR23_Step xs4)]) (r := true) (.cons ⟨rfl, rfl⟩ (.cons ⟨rfl, rfl⟩ (.cons ⟨rfl, rfl⟩ (.cons ⟨rfl, rfl⟩ (.cons A4 .nil))))) rfl ?_
  subst L4
  have hS : SumsOK Try.prog (aget (Go.Vm.Code.sums13 Go.Vm.Code.law32_awake Go.Vm.Code.law32_grown Go.Vm.Code.registry_Registry_Get Go.Vm.Code.registry_Registry_Get_nil Go.Vm.Code.stateless_Find Go.Vm.Code.stateless_Find_nil Go.Vm.Code.stateless_Make Go.Vm.Code.stateless_Open)) := SumsOK.of_tab ⟨Go.Vm.Code.lift61, Go.Vm.Code.lift66, Go.Vm.Code.lift18, Go.Vm.Code.lift67, Go.Vm.Code.lift64, Go.Vm.Code.lift65, trivial⟩
  refine (Go.Vm.Code.leads13 Go.Vm.Code.law32_awake Go.Vm.Code.law32_grown Go.Vm.Code.registry_Registry_Get Go.Vm.Code.registry_Registry_Get_nil Go.Vm.Code.stateless_Find Go.Vm.Code.stateless_Find_nil Go.Vm.Code.stateless_Make Go.Vm.Code.stateless_Open hS (Go.Vm.Code.api_Key.mk x0_0 x0_1) (Go.Vm.Code.api_Tuple.mk x1_0 (Go.Vm.Code.api_Addr.mk x1_1 x1_2 x1_3) (Go.Vm.Code.api_Addr.mk x1_4 x1_5 x1_6) x1_7 x1_8) x2_0 x3_0 xs4 true ?_).mono fun v H t hp => Res.flat rfl rfl hp
  exact Go.Vm.Code.statelessForged _ _ _ _ _ ⟨(wf_u16 wx2_0).1, by have := (wf_u16 wx2_0).2; omega⟩ ⟨(wf_u16 wx3_0).1, by have := (wf_u16 wx3_0).2; omega⟩ ⟨⟨(wf_u64 wx1_2).1, by have := (wf_u64 wx1_2).2; simp only []; omega⟩, (wf_u64 wx1_3).1, by have := (wf_u64 wx1_3).2; simp only []; omega⟩ ⟨⟨(wf_u64 wx1_5).1, by have := (wf_u64 wx1_5).2; simp only []; omega⟩, (wf_u64 wx1_6).1, by have := (wf_u64 wx1_6).2; simp only []; omega⟩

set_option maxRecDepth 100000 in
theorem lifted (os : Os) (started : os.Started) (H : Type) (enc : TypeId × Value → H) :
    ReturnsInHanded {} Try.checked os 13 .any (Rows.statelessForgedSpec.pre6 enc Try.prog Try.f13 Rows.statelessForgedRow.domain false) (Rows.statelessForgedSpec.post enc Try.prog Try.f13 false true false false) := by
  refine returnsInHanded_of_change (C := Try.checked) own started (by kernel_rfl) Try.func13
    (ChangeSpec.witness6 (enc := enc) (C := Try.checked) false ⟨#[], #[.agg ⟨[.int .u64 0, .int .u64 0]⟩, .agg ⟨[.int .i64 0, .bool false, .int .u64 0, .int .u64 0, .bool false, .int .u64 0, .int .u64 0, .int .i64 0, .int .i64 0]⟩, .int .u16 0, .int .u16 0, .slice none 0 0], []⟩ 8 (by kernel_rfl) (by kernel_rfl) (by kernel_rfl) (by kernel_rfl)) ?_
  intro W base args ds gs before hval0 hW hcnd _
  have hval : ∀ (j : Nat) t v, Try.f13.params[j]? = some t → args[j]? = some v → Value.okWide Try.prog W .any base t v := hval0
  have hW' := hW
  obtain ⟨p, q, hA0, hV, rfl, hfz, hnd⟩ := hW
  have hA : DataW.TrodAll enc Try.prog W 0 (fun _ => true) true Try.f13.params.toList args.toList ds p := hA0
  rw [Try.params13] at hA hval
  obtain ⟨v0, vs0, d0, ds0, p0, q0, hargs, rfl, rfl, h0, r0⟩ := trodAll_cons hA
  obtain ⟨v1, vs1, d1, ds1, p1, q1, rfl, rfl, rfl, h1, r1⟩ := trodAll_cons r0
  obtain ⟨v2, vs2, d2, ds2, p2, q2, rfl, rfl, rfl, h2, r2⟩ := trodAll_cons r1
  obtain ⟨v3, vs3, d3, ds3, p3, q3, rfl, rfl, rfl, h3, r3⟩ := trodAll_cons r2
  obtain ⟨v4, vs4, d4, ds4, p4, q4, rfl, rfl, rfl, h4, r4⟩ := trodAll_cons r3
  obtain ⟨rfl, rfl, rfl⟩ := trodAll_nil r4
  obtain rfl : args = #[v0, v1, v2, v3, v4] := by cases args; simp_all
  obtain ⟨rfl, rfl⟩ := trodVars_none hV
  have lt0 : ∀ x ∈ p0, x.block < W.heap.size := by obtain ⟨m, hm⟩ := h0; exact DataW.trod_lt m _ _ _ hm
  have lt1 : ∀ x ∈ p1, x.block < W.heap.size := by obtain ⟨m, hm⟩ := h1; exact DataW.trod_lt m _ _ _ hm
  have lt2 : ∀ x ∈ p2, x.block < W.heap.size := by obtain ⟨m, hm⟩ := h2; exact DataW.trod_lt m _ _ _ hm
  have lt3 : ∀ x ∈ p3, x.block < W.heap.size := by obtain ⟨m, hm⟩ := h3; exact DataW.trod_lt m _ _ _ hm
  have lt4 : ∀ x ∈ p4, x.block < W.heap.size := by obtain ⟨m, hm⟩ := h4; exact DataW.trod_lt m _ _ _ hm
  obtain ⟨c0, b0⟩ := open_flat (n := 8) (ks := [(.int .u64), (.int .u64)]) (by kernel_rfl) (hval 0 60 v0 rfl rfl) h0
  obtain ⟨-, b0⟩ := b0.resolve_right (by rw [show isAggB Try.prog 60 = true by kernel_rfl]; exact Bool.noConfusion)
  generalize hcs0 : cellsL v0 = cs0 at c0 b0
  clear hcs0
  subst b0
  obtain ⟨_, cs0_0, rfl, ⟨x0_0, rfl, wx0_0⟩, c0_0⟩ := c0.inv
  obtain ⟨_, cs0_1, rfl, ⟨x0_1, rfl, wx0_1⟩, c0_1⟩ := c0_0.inv
  obtain rfl := c0_1.inv0
  obtain ⟨c1, b1⟩ := open_flat (n := 8) (ks := [(.int .i64), .bool, (.int .u64), (.int .u64), .bool, (.int .u64), (.int .u64), (.int .i64), (.int .i64)]) (by kernel_rfl) (hval 1 69 v1 rfl rfl) h1
  obtain ⟨-, b1⟩ := b1.resolve_right (by rw [show isAggB Try.prog 69 = true by kernel_rfl]; exact Bool.noConfusion)
  generalize hcs1 : cellsL v1 = cs1 at c1 b1
  clear hcs1
  subst b1
  obtain ⟨_, cs1_0, rfl, ⟨x1_0, rfl, wx1_0⟩, c1_0⟩ := c1.inv
  obtain ⟨_, cs1_1, rfl, ⟨x1_1, rfl⟩, c1_1⟩ := c1_0.inv
  obtain ⟨_, cs1_2, rfl, ⟨x1_2, rfl, wx1_2⟩, c1_2⟩ := c1_1.inv
  obtain ⟨_, cs1_3, rfl, ⟨x1_3, rfl, wx1_3⟩, c1_3⟩ := c1_2.inv
  obtain ⟨_, cs1_4, rfl, ⟨x1_4, rfl⟩, c1_4⟩ := c1_3.inv
  obtain ⟨_, cs1_5, rfl, ⟨x1_5, rfl, wx1_5⟩, c1_5⟩ := c1_4.inv
  obtain ⟨_, cs1_6, rfl, ⟨x1_6, rfl, wx1_6⟩, c1_6⟩ := c1_5.inv
  obtain ⟨_, cs1_7, rfl, ⟨x1_7, rfl, wx1_7⟩, c1_7⟩ := c1_6.inv
  obtain ⟨_, cs1_8, rfl, ⟨x1_8, rfl, wx1_8⟩, c1_8⟩ := c1_7.inv
  obtain rfl := c1_8.inv0
  obtain ⟨x2_0, rfl⟩ := okWide_int Try.underlying81 (hval 2 81 v2 rfl rfl)
  have wx2_0 : (Lit.int .u16 x2_0).wf = true := by
    obtain ⟨c2, _⟩ := open_flat (n := 8) (ks := [(.int .u16)]) (by kernel_rfl) (hval 2 81 _ rfl rfl) h2
    obtain ⟨_, _, e, ⟨_, e2, hw⟩, _⟩ := c2.inv
    cases e; cases e2; exact hw
  obtain ⟨x3_0, rfl⟩ := okWide_int Try.underlying81 (hval 3 81 v3 rfl rfl)
  have wx3_0 : (Lit.int .u16 x3_0).wf = true := by
    obtain ⟨c3, _⟩ := open_flat (n := 8) (ks := [(.int .u16)]) (by kernel_rfl) (hval 3 81 _ rfl rfl) h3
    obtain ⟨_, _, e, ⟨_, e2, hw⟩, _⟩ := c3.inv
    cases e; cases e2; exact hw
  obtain ⟨a4, len4, cap4, z4, rfl, row4⟩ := open_rowN Try.underlying24 (by kernel_rfl) (ks := [(.int .i64), (.int .i64), (.int .i64), .bool, (.int .u64), (.int .u64), .bool]) (n := 8) (by kernel_rfl) (hval 4 24 v4 rfl rfl) h4
  clear hA0 hval0
  refine (walk W x0_0 wx0_0 x0_1 wx0_1 x1_0 wx1_0 x1_1 x1_2 wx1_2 x1_3 wx1_3 x1_4 x1_5 wx1_5 x1_6 wx1_6 x1_7 wx1_7 x1_8 wx1_8 x2_0 wx2_0 x3_0 wx3_0 a4 len4 cap4 z4 row4).mono fun e W' ⟨he, bel⟩ => ?_
  subst he
  exact ⟨_, rfl, _, _, _, [], _, [], hW', trodAll_mk1 (shut_bool Try.underlying4 _), (trodAll_cons_mk (Below.trod laidOut (by kernel_rfl) (of_decide_eq_true (by kernel_rfl)) h0 bel lt0) (trodAll_cons_mk (Below.trod laidOut (by kernel_rfl) (of_decide_eq_true (by kernel_rfl)) h1 bel lt1) (trodAll_cons_mk (Below.trod laidOut (by kernel_rfl) (of_decide_eq_true (by kernel_rfl)) h2 bel lt2) (trodAll_cons_mk (Below.trod laidOut (by kernel_rfl) (of_decide_eq_true (by kernel_rfl)) h3 bel lt3) (trodAll_cons_mk (Below.trod laidOut (by kernel_rfl) (of_decide_eq_true (by kernel_rfl)) h4 bel lt4) trodAll_mk0))))), rfl, bel.frame _, fun h => by cases h⟩

theorem over : Rows.statelessForgedRow.holds Try.pinned (OpenSpec.ofChange Rows.statelessForgedSpec) :=
  OpenClaim.holds_of_wide 13 Try.f13 rfl rfl rfl rfl rfl rfl rfl ⟨rfl, rfl, rfl, rfl, rfl⟩ rfl rfl rfl rfl rfl (by kernel_rfl) Try.func13 (by kernel_rfl)
    (of_decide_eq_true (by kernel_rfl)) (by unfold Func.isWrapper; first | (rw [if_pos (by decide +kernel)]; kernel_rfl) | (rw [if_neg (by decide +kernel)]; exact ⟨rfl, rfl⟩))
    (fun os started H enc _ => lifted os started H enc)

theorem proved : Rows.StatelessForgedSaid := over
#print axioms proved
end Go.Proofs.Ytadhjooghfdloaa.statelessForged
