/-
  The law RekeyPlays returns true at all arguments, and it writes nothing that was there.
  The frame is written by a program off the print for this function; the walk stands in the texts that are imported.
-/
import Derived.Test.YtadhjooghfdloaaRows
import Derived.WalkKit
import Derived.ProofKit
import Derived.OpenShut
import Derived.ShutString
import Derived.ChangeOld
import Derived.Below
import Derived.Carry
import Derived.Test.YtadhjooghfdloaaNRekeyPlayse
namespace Go.Proofs.Ytadhjooghfdloaa.rekeyPlays
open Go.ChangeShapes Go.WideShapes Go.ChangeAt Go.RowKit Go.Vm
set_option linter.unusedVariables false

theorem own : ownKnob Try.prog.godebug = none := by kernel_rfl
theorem laidOut : laidOutB Try.prog = true := by kernel_rfl

theorem walk (W : World) (x0_0 : Int) (wx0_0 : (Lit.int .u64 x0_0).wf = true) (x0_1 : Int) (wx0_1 : (Lit.int .u64 x0_1).wf = true) (a1 : Option Addr) (len1 cap1 : Nat) (z1 : List Value) (row1 : RowN W [(.int .i64), (.int .i64), (.int .i64), .bool, (.int .u64), (.int .u64), .bool, (.int .u64), (.int .u64), (.int .i64), (.int .i64), (.int .u64), (.int .i64)] a1 len1 cap1 z1) :
    Calls Try.prog 6 #[.agg ⟨[.int .u64 x0_0, .int .u64 x0_1]⟩, .slice a1 len1 cap1] W fun e w' => e = .returned (.bool true) ∧ Below W.heap.size W w' := by
  obtain ⟨A1, Z1, C1, M1⟩ := ArgR.rowN row1 (by decide)
  obtain ⟨xs1, e1, L1, O1⟩ := rows_of (c := Go.Vm.Code.cR54_Step) (ok := fun (x : Go.Vm.Code.R54_Step) => (Lit.int .i64 x.Kind).wf = true ∧ (Lit.int .i64 x.N).wf = true ∧ (Lit.int .i64 x.T.Proto).wf = true ∧ (Lit.int .u64 x.T.Src.Hi).wf = true ∧ (Lit.int .u64 x.T.Src.Lo).wf = true ∧ (Lit.int .u64 x.T.Dst.Hi).wf = true ∧ (Lit.int .u64 x.T.Dst.Lo).wf = true ∧ (Lit.int .i64 x.T.SPort).wf = true ∧ (Lit.int .i64 x.T.DPort).wf = true ∧ (Lit.int .u64 x.Cookie).wf = true ∧ (Lit.int .i64 x.Pick).wf = true ∧ True) (fun cs h => by
    obtain ⟨_, cs0, rfl, ⟨y0, rfl, w0⟩, h0⟩ := h.inv
    obtain ⟨_, cs1, rfl, ⟨y1, rfl, w1⟩, h1⟩ := h0.inv
    obtain ⟨_, cs2, rfl, ⟨y2, rfl, w2⟩, h2⟩ := h1.inv
    obtain ⟨_, cs3, rfl, ⟨y3, rfl⟩, h3⟩ := h2.inv
    obtain ⟨_, cs4, rfl, ⟨y4, rfl, w4⟩, h4⟩ := h3.inv
    obtain ⟨_, cs5, rfl, ⟨y5, rfl, w5⟩, h5⟩ := h4.inv
    obtain ⟨_, cs6, rfl, ⟨y6, rfl⟩, h6⟩ := h5.inv
    obtain ⟨_, cs7, rfl, ⟨y7, rfl, w7⟩, h7⟩ := h6.inv
    obtain ⟨_, cs8, rfl, ⟨y8, rfl, w8⟩, h8⟩ := h7.inv
    obtain ⟨_, cs9, rfl, ⟨y9, rfl, w9⟩, h9⟩ := h8.inv
    obtain ⟨_, cs10, rfl, ⟨y10, rfl, w10⟩, h10⟩ := h9.inv
    obtain ⟨_, cs11, rfl, ⟨y11, rfl, w11⟩, h11⟩ := h10.inv
    obtain ⟨_, cs12, rfl, ⟨y12, rfl, w12⟩, h12⟩ := h11.inv
    obtain rfl := h12.inv0
    exact ⟨(Go.Vm.Code.R54_Step.mk y0 y1 (Go.Vm.Code.api_Tuple.mk y2 (Go.Vm.Code.api_Addr.mk y3 y4 y5) (Go.Vm.Code.api_Addr.mk y6 y7 y8) y9 y10) y11 y12), rfl, ⟨w0, w1, w2, w4, w5, w7, w8, w9, w10, w11, w12, trivial⟩⟩) len1 _ Z1 C1
  rw [e1] at A1
  refine calls_of_leads Go.Vm.Code.tab_ok (ms := [.v, .sl 13]) (aqs := [.v (.agg ⟨[.int .u64 x0_0, .int .u64 x0_1]⟩), .sl len1 (vT Go.Vm.Code.cR54_Step xs1)]) (r := true) (.cons ⟨rfl, rfl⟩ (.cons A1 .nil)) rfl ?_
  subst L1
  have hS : SumsOK Try.prog (aget (Go.Vm.Code.sums6 Go.Vm.Code.R32_Make Go.Vm.Code.R54_Keys_Go Go.Vm.Code.R54_Keys_Open Go.Vm.Code.R54_Keys_Turn Go.Vm.Code.R54_Next Go.Vm.Code.law54_awake Go.Vm.Code.rekey_Keys_Go Go.Vm.Code.rekey_Keys_Key Go.Vm.Code.rekey_Keys_Key_nil Go.Vm.Code.rekey_Keys_Make Go.Vm.Code.rekey_Keys_Old Go.Vm.Code.rekey_Keys_Open Go.Vm.Code.rekey_Keys_Open_nil Go.Vm.Code.rekey_Keys_Turn Go.Vm.Code.rekey_Keys_Turn_nil Go.Vm.Code.rekey_New Go.Vm.Code.rekey_Next)) := SumsOK.of_tab ⟨Go.Vm.Code.lift38, Go.Vm.Code.lift37, Go.Vm.Code.lift41, Go.Vm.Code.lift35, Go.Vm.Code.lift45, Go.Vm.Code.lift32, Go.Vm.Code.lift36, Go.Vm.Code.lift43, Go.Vm.Code.lift39, Go.Vm.Code.lift42, Go.Vm.Code.lift40, Go.Vm.Code.lift34, Go.Vm.Code.lift33, Go.Vm.Code.lift44, trivial⟩
  refine (Go.Vm.Code.leads6 Go.Vm.Code.R32_Make Go.Vm.Code.R54_Keys_Go Go.Vm.Code.R54_Keys_Open Go.Vm.Code.R54_Keys_Turn Go.Vm.Code.R54_Next Go.Vm.Code.law54_awake Go.Vm.Code.rekey_Keys_Go Go.Vm.Code.rekey_Keys_Key Go.Vm.Code.rekey_Keys_Key_nil Go.Vm.Code.rekey_Keys_Make Go.Vm.Code.rekey_Keys_Old Go.Vm.Code.rekey_Keys_Open Go.Vm.Code.rekey_Keys_Open_nil Go.Vm.Code.rekey_Keys_Turn Go.Vm.Code.rekey_Keys_Turn_nil Go.Vm.Code.rekey_New Go.Vm.Code.rekey_Next hS (Go.Vm.Code.api_Key.mk x0_0 x0_1) xs1 true ?_).mono fun v H t hp => Res.flat rfl rfl hp
  exact Go.Vm.Code.rekeyPlays _ _ (fun s hs => by
    obtain ⟨-, w1, -, w3, w4, w5, w6, -, -, w9, -, -⟩ := O1 s hs
    have a1 := wf_i64 w1; have a3 := wf_u64 w3; have a4 := wf_u64 w4; have a5 := wf_u64 w5; have a6 := wf_u64 w6; have a9 := wf_u64 w9
    exact ⟨⟨by omega, by omega⟩, ⟨by omega, by omega⟩, ⟨⟨by omega, by omega⟩, by omega, by omega⟩, ⟨by omega, by omega⟩, by omega, by omega⟩)

set_option maxRecDepth 100000 in
theorem lifted (os : Os) (started : os.Started) (H : Type) (enc : TypeId × Value → H) :
    ReturnsInHanded {} Try.checked os 6 .any (Rows.rekeyPlaysSpec.pre6 enc Try.prog Try.f6 Rows.rekeyPlaysRow.domain false) (Rows.rekeyPlaysSpec.post enc Try.prog Try.f6 false true false false) := by
  refine returnsInHanded_of_change (C := Try.checked) own started (by kernel_rfl) Try.func6
    (ChangeSpec.witness6 (enc := enc) (C := Try.checked) false ⟨#[], #[.agg ⟨[.int .u64 0, .int .u64 0]⟩, .slice none 0 0], []⟩ 8 (by kernel_rfl) (by kernel_rfl) (by kernel_rfl) (by kernel_rfl)) ?_
  intro W base args ds gs before hval0 hW hcnd _
  have hval : ∀ (j : Nat) t v, Try.f6.params[j]? = some t → args[j]? = some v → Value.okWide Try.prog W .any base t v := hval0
  have hW' := hW
  obtain ⟨p, q, hA0, hV, rfl, hfz, hnd⟩ := hW
  have hA : DataW.TrodAll enc Try.prog W 0 (fun _ => true) true Try.f6.params.toList args.toList ds p := hA0
  rw [Try.params6] at hA hval
  obtain ⟨v0, vs0, d0, ds0, p0, q0, hargs, rfl, rfl, h0, r0⟩ := trodAll_cons hA
  obtain ⟨v1, vs1, d1, ds1, p1, q1, rfl, rfl, rfl, h1, r1⟩ := trodAll_cons r0
  obtain ⟨rfl, rfl, rfl⟩ := trodAll_nil r1
  obtain rfl : args = #[v0, v1] := by cases args; simp_all
  obtain ⟨rfl, rfl⟩ := trodVars_none hV
  have lt0 : ∀ x ∈ p0, x.block < W.heap.size := by obtain ⟨m, hm⟩ := h0; exact DataW.trod_lt m _ _ _ hm
  have lt1 : ∀ x ∈ p1, x.block < W.heap.size := by obtain ⟨m, hm⟩ := h1; exact DataW.trod_lt m _ _ _ hm
  obtain ⟨c0, b0⟩ := open_flat (n := 8) (ks := [(.int .u64), (.int .u64)]) (by kernel_rfl) (hval 0 60 v0 rfl rfl) h0
  obtain ⟨-, b0⟩ := b0.resolve_right (by rw [show isAggB Try.prog 60 = true by kernel_rfl]; exact Bool.noConfusion)
  generalize hcs0 : cellsL v0 = cs0 at c0 b0
  clear hcs0
  subst b0
  obtain ⟨_, cs0_0, rfl, ⟨x0_0, rfl, wx0_0⟩, c0_0⟩ := c0.inv
  obtain ⟨_, cs0_1, rfl, ⟨x0_1, rfl, wx0_1⟩, c0_1⟩ := c0_0.inv
  obtain rfl := c0_1.inv0
  obtain ⟨a1, len1, cap1, z1, rfl, row1⟩ := open_rowN Try.underlying61 (by kernel_rfl) (ks := [(.int .i64), (.int .i64), (.int .i64), .bool, (.int .u64), (.int .u64), .bool, (.int .u64), (.int .u64), (.int .i64), (.int .i64), (.int .u64), (.int .i64)]) (n := 8) (by kernel_rfl) (hval 1 61 v1 rfl rfl) h1
  clear hA0 hval0
  refine (walk W x0_0 wx0_0 x0_1 wx0_1 a1 len1 cap1 z1 row1).mono fun e W' ⟨he, bel⟩ => ?_
  subst he
  exact ⟨_, rfl, _, _, _, [], _, [], hW', trodAll_mk1 (shut_bool Try.underlying4 _), (trodAll_cons_mk (Below.trod laidOut (by kernel_rfl) (of_decide_eq_true (by kernel_rfl)) h0 bel lt0) (trodAll_cons_mk (Below.trod laidOut (by kernel_rfl) (of_decide_eq_true (by kernel_rfl)) h1 bel lt1) trodAll_mk0)), rfl, bel.frame _, fun h => by cases h⟩

theorem over : Rows.rekeyPlaysRow.holds Try.pinned (OpenSpec.ofChange Rows.rekeyPlaysSpec) :=
  OpenClaim.holds_of_wide 6 Try.f6 rfl rfl rfl rfl rfl rfl rfl ⟨rfl, rfl, rfl, rfl, rfl⟩ rfl rfl rfl rfl rfl (by kernel_rfl) Try.func6 (by kernel_rfl)
    (of_decide_eq_true (by kernel_rfl)) (by unfold Func.isWrapper; first | (rw [if_pos (by decide +kernel)]; kernel_rfl) | (rw [if_neg (by decide +kernel)]; exact ⟨rfl, rfl⟩))
    (fun os started H enc _ => lifted os started H enc)

theorem proved : Rows.RekeyPlaysSaid := over
#print axioms proved
end Go.Proofs.Ytadhjooghfdloaa.rekeyPlays
