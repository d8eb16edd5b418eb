/-
  The law ClientNames returns true at all arguments, and it writes nothing that was there.
  The frame is written by a program off the print for this function; the walk stands in the texts that are imported.
-/
import Derived.Test.YtddaijhjflfdmaaGreatRows
import Derived.WalkKit
import Derived.ProofKit
import Derived.OpenShut
import Derived.ShutString
import Derived.ChangeOld
import Derived.Below
import Derived.Carry
import Derived.Test.YtddaijhjflfdmaaGreatNClientNamesf
namespace Go.Proofs.YtddaijhjflfdmaaGreat.clientNames
open Go.ChangeShapes Go.WideShapes Go.ChangeAt Go.RowKit Go.Vm
set_option linter.unusedVariables false

theorem own : ownKnob Tryz.prog.godebug = none := by kernel_rfl
theorem laidOut : laidOutB Tryz.prog = true := by kernel_rfl

theorem walk (W : World) (x0_0 : Int) (wx0_0 : (Lit.int .i64 x0_0).wf = true) (x0_1 : Bool) (x0_2 : Int) (wx0_2 : (Lit.int .u64 x0_2).wf = true) (x0_3 : Int) (wx0_3 : (Lit.int .u64 x0_3).wf = true) (x0_4 : Bool) (x0_5 : Int) (wx0_5 : (Lit.int .u64 x0_5).wf = true) (x0_6 : Int) (wx0_6 : (Lit.int .u64 x0_6).wf = true) (x0_7 : Int) (wx0_7 : (Lit.int .i64 x0_7).wf = true) (x0_8 : Int) (wx0_8 : (Lit.int .i64 x0_8).wf = true) (a1 : Option Addr) (len1 cap1 : Nat) (z1 : List Value) (row1 : RowR W .str a1 len1 cap1 z1) (x2_0 : ByteArray) (wx2_0 : x2_0.size ≤ maxLen) :
    Calls Tryz.prog 8 #[.agg ⟨[.int .i64 x0_0, .bool x0_1, .int .u64 x0_2, .int .u64 x0_3, .bool x0_4, .int .u64 x0_5, .int .u64 x0_6, .int .i64 x0_7, .int .i64 x0_8]⟩, .slice a1 len1 cap1, .string x2_0] W fun e w' => e = .returned (.bool true) ∧ Below W.heap.size W w' := by
  obtain ⟨A1, L1, K1, M1⟩ := ArgR.row row1
  obtain ⟨xs1, e1, w1⟩ := XyX K1
  rw [e1] at A1 L1
  rw [List.length_map] at L1
  refine XBK Go.Vm.Code.XaE (ms := [.v, .sl 1, .v]) (aqs := [.v (.agg ⟨[.int .i64 x0_0, .bool x0_1, .int .u64 x0_2, .int .u64 x0_3, .bool x0_4, .int .u64 x0_5, .int .u64 x0_6, .int .i64 x0_7, .int .i64 x0_8]⟩), .sl len1 (xs1.map Value.string), .v (.string x2_0)]) (r := true) (.cons ⟨rfl, rfl⟩ (.cons A1 (.cons ⟨rfl, rfl⟩ .nil))) rfl ?_
  subst L1
  rw [vS_of xs1, show xs1.length = (xs1.map fun s => s.data.toList).length from (List.length_map _).symm]
  have hS : Xak Tryz.prog (XaD (Go.Vm.Code.XQE Go.Vm.Code.Xey Go.Vm.Code.XbF Go.Vm.Code.XbT Go.Vm.Code.Xes Go.Vm.Code.Xfi Go.Vm.Code.Xav Go.Vm.Code.Xau Go.Vm.Code.Xas Go.Vm.Code.XaF Go.Vm.Code.Xax Go.Vm.Code.Xay Go.Vm.Code.Xb3 Go.Vm.Code.strings_Repeat Go.Vm.Code.XbS)) := Xak.XaM ⟨Go.Vm.Code.lift43, Go.Vm.Code.lift44, Go.Vm.Code.XVu, Go.Vm.Code.lift27, Go.Vm.Code.lift23, Go.Vm.Code.XSV, Go.Vm.Code.XUJ, Go.Vm.Code.XWm, Go.Vm.Code.XSn, Go.Vm.Code.lift32, Go.Vm.Code.XH3, Go.Vm.Code.XUI, trivial⟩
  refine (Go.Vm.Code.leads8 Go.Vm.Code.Xey Go.Vm.Code.XbF Go.Vm.Code.XbT Go.Vm.Code.Xes Go.Vm.Code.Xfi Go.Vm.Code.Xav Go.Vm.Code.Xau Go.Vm.Code.Xas Go.Vm.Code.XaF Go.Vm.Code.Xax Go.Vm.Code.Xay Go.Vm.Code.Xb3 Go.Vm.Code.strings_Repeat Go.Vm.Code.XbS hS (Go.Vm.Code.Xag.mk x0_0 (Go.Vm.Code.Xaa.mk x0_1 x0_2 x0_3) (Go.Vm.Code.Xaa.mk x0_4 x0_5 x0_6) x0_7 x0_8) (xs1.map fun s => s.data.toList) x2_0.data.toList true ?_).mono fun v H t hp => Res.flat rfl rfl hp
  exact Go.Vm.Code.clientNames _ _ _ ⟨(wf_u64 wx0_2).1, by have := (wf_u64 wx0_2).2; first | omega | (simp only []; omega), (wf_u64 wx0_3).1, by have := (wf_u64 wx0_3).2; first | omega | (simp only []; omega)⟩ ⟨(wf_u64 wx0_5).1, by have := (wf_u64 wx0_5).2; first | omega | (simp only []; omega), (wf_u64 wx0_6).1, by have := (wf_u64 wx0_6).2; first | omega | (simp only []; omega)⟩

set_option maxRecDepth 100000 in
theorem lifted (os : Os) (started : os.Started) (H : Type) (enc : TypeId × Value → H) :
    ReturnsInHanded {} Tryz.checked os 8 .any (Rows.clientNamesSpec.pre6 enc Tryz.prog Tryz.f8 Rows.clientNamesRow.domain false) (Rows.clientNamesSpec.post enc Tryz.prog Tryz.f8 false true false false) := by
  refine returnsInHanded_of_change (C := Tryz.checked) own started (by kernel_rfl) Tryz.func8
    (ChangeSpec.witness6 (enc := enc) (C := Tryz.checked) false ⟨#[], #[.agg ⟨[.int .i64 0, .bool false, .int .u64 0, .int .u64 0, .bool false, .int .u64 0, .int .u64 0, .int .i64 0, .int .i64 0]⟩, .slice none 0 0, .string ⟨#[]⟩], []⟩ 8 (by kernel_rfl) (by kernel_rfl) (by kernel_rfl) (by kernel_rfl)) ?_
  intro W base args ds gs before hval0 hW hcnd _
  have hval : ∀ (j : Nat) t v, Tryz.f8.params[j]? = some t → args[j]? = some v → Value.okWide Tryz.prog W .any base t v := hval0
  have hW' := hW
  obtain ⟨p, q, hA0, hV, rfl, hfz, hnd⟩ := hW
  have hA : DataW.TrodAll enc Tryz.prog W 0 (fun _ => true) true Tryz.f8.params.toList args.toList ds p := hA0
  rw [Tryz.params8] at hA hval
  obtain ⟨v0, vs0, d0, ds0, p0, q0, hargs, rfl, rfl, h0, r0⟩ := trodAll_cons hA
  obtain ⟨v1, vs1, d1, ds1, p1, q1, rfl, rfl, rfl, h1, r1⟩ := trodAll_cons r0
  obtain ⟨v2, vs2, d2, ds2, p2, q2, rfl, rfl, rfl, h2, r2⟩ := trodAll_cons r1
  obtain ⟨rfl, rfl, rfl⟩ := trodAll_nil r2
  obtain rfl : args = #[v0, v1, v2] := by cases args; simp_all
  obtain ⟨rfl, rfl⟩ := trodVars_none hV
  have lt0 : ∀ x ∈ p0, x.block < W.heap.size := by obtain ⟨m, hm⟩ := h0; exact DataW.trod_lt m _ _ _ hm
  have lt1 : ∀ x ∈ p1, x.block < W.heap.size := by obtain ⟨m, hm⟩ := h1; exact DataW.trod_lt m _ _ _ hm
  have lt2 : ∀ x ∈ p2, x.block < W.heap.size := by obtain ⟨m, hm⟩ := h2; exact DataW.trod_lt m _ _ _ hm
  obtain ⟨c0, b0⟩ := XQ9 (n := 8) (ks := [(.int .i64), .bool, (.int .u64), (.int .u64), .bool, (.int .u64), (.int .u64), (.int .i64), (.int .i64)]) (by kernel_rfl) (hval 0 33 v0 rfl rfl) h0
  obtain ⟨-, b0⟩ := b0.resolve_right (by rw [show Xgb Tryz.prog 33 = true by kernel_rfl]; exact Bool.noConfusion)
  generalize hcs0 : XaX v0 = cs0 at c0 b0
  clear hcs0
  subst b0
  obtain ⟨_, cs0_0, rfl, ⟨x0_0, rfl, wx0_0⟩, c0_0⟩ := c0.inv
  obtain ⟨_, cs0_1, rfl, ⟨x0_1, rfl⟩, c0_1⟩ := c0_0.inv
  obtain ⟨_, cs0_2, rfl, ⟨x0_2, rfl, wx0_2⟩, c0_2⟩ := c0_1.inv
  obtain ⟨_, cs0_3, rfl, ⟨x0_3, rfl, wx0_3⟩, c0_3⟩ := c0_2.inv
  obtain ⟨_, cs0_4, rfl, ⟨x0_4, rfl⟩, c0_4⟩ := c0_3.inv
  obtain ⟨_, cs0_5, rfl, ⟨x0_5, rfl, wx0_5⟩, c0_5⟩ := c0_4.inv
  obtain ⟨_, cs0_6, rfl, ⟨x0_6, rfl, wx0_6⟩, c0_6⟩ := c0_5.inv
  obtain ⟨_, cs0_7, rfl, ⟨x0_7, rfl, wx0_7⟩, c0_7⟩ := c0_6.inv
  obtain ⟨_, cs0_8, rfl, ⟨x0_8, rfl, wx0_8⟩, c0_8⟩ := c0_7.inv
  obtain rfl := c0_8.inv0
  obtain ⟨a1, len1, cap1, z1, rfl, row1⟩ := open_row Tryz.underlying85 (by kernel_rfl) (k := .str) (n := 8) (by kernel_rfl) (hval 1 85 v1 rfl rfl) h1
  obtain ⟨x2_0, rfl⟩ := okWide_string Tryz.underlying9 (hval 2 9 v2 rfl rfl)
  have wx2_0 : x2_0.size ≤ maxLen := by
    obtain ⟨c2, _⟩ := XQ9 (n := 8) (ks := [.str]) (by kernel_rfl) (hval 2 9 _ rfl rfl) h2
    obtain ⟨_, _, e, ⟨_, e2, hw⟩, _⟩ := c2.inv
    cases e; cases e2; exact hw
  clear hA0 hval0
  refine (walk W x0_0 wx0_0 x0_1 x0_2 wx0_2 x0_3 wx0_3 x0_4 x0_5 wx0_5 x0_6 wx0_6 x0_7 wx0_7 x0_8 wx0_8 a1 len1 cap1 z1 row1 x2_0 wx2_0).mono fun e W' ⟨he, bel⟩ => ?_
  subst he
  exact ⟨_, rfl, _, _, _, [], _, [], hW', trodAll_mk1 (shut_bool Tryz.underlying4 _), (trodAll_cons_mk (Below.trod laidOut (by kernel_rfl) (of_decide_eq_true (by kernel_rfl)) h0 bel lt0) (trodAll_cons_mk (Below.trod laidOut (by kernel_rfl) (of_decide_eq_true (by kernel_rfl)) h1 bel lt1) (trodAll_cons_mk (Below.trod laidOut (by kernel_rfl) (of_decide_eq_true (by kernel_rfl)) h2 bel lt2) trodAll_mk0))), rfl, bel.frame _, fun h => by cases h⟩

theorem over : Rows.clientNamesRow.holds Tryz.pinned (OpenSpec.ofChange Rows.clientNamesSpec) :=
  OpenClaim.holds_of_wide 8 Tryz.f8 rfl rfl rfl rfl rfl rfl rfl ⟨rfl, rfl, rfl, rfl, rfl⟩ rfl rfl rfl rfl rfl (by kernel_rfl) Tryz.func8 (by kernel_rfl)
    (of_decide_eq_true (by kernel_rfl)) (by unfold Func.isWrapper; first | (rw [if_pos (by decide +kernel)]; kernel_rfl) | (rw [if_neg (by decide +kernel)]; exact ⟨rfl, rfl⟩))
    (fun os started H enc _ => lifted os started H enc)

theorem proved : Rows.ClientNamesSaid := over
#print axioms proved
end Go.Proofs.YtddaijhjflfdmaaGreat.clientNames
