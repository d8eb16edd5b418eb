/-
  The law ShimPlays returns true at all arguments, and it writes nothing that was there.
  The frame is written by a program off the print for this function; the walk stands in the texts that are imported.
-/
import Derived.Test.YtgmodbbcnfdpdaaGreatRows
import Derived.WalkKit
import Derived.ProofKit
import Derived.OpenShut
import Derived.ShutString
import Derived.ChangeOld
import Derived.Below
import Derived.Carry
import Derived.Test.YtgmodbbcnfdpdaaGreatNShimPlaysf
namespace Go.Proofs.YtgmodbbcnfdpdaaGreat.shimPlays
open Go.ChangeShapes Go.WideShapes Go.ChangeAt Go.RowKit Go.Vm
set_option linter.unusedVariables false

theorem own : ownKnob Tryz.prog.godebug = none := by kernel_rfl
theorem laidOut : laidOutB Tryz.prog = true := by kernel_rfl

theorem walk (W : World) (x0_0 : Int) (wx0_0 : (Lit.int .i64 x0_0).wf = true) (a1 : Option Addr) (len1 cap1 : Nat) (z1 : List Value) (row1 : RowN W [(.int .i64), .str, (.int .i64), .bool, (.int .u64), (.int .u64), .bool, (.int .u64), (.int .u64), (.int .i64), (.int .i64), (.int .u32)] a1 len1 cap1 z1) :
    Calls Tryz.prog 3 #[.int .i64 x0_0, .slice a1 len1 cap1] W fun e w' => e = .returned (.bool true) ∧ Below W.heap.size W w' := by
  obtain ⟨A1, Z1, C1, M1⟩ := XRp.rowN row1 (by decide)
  obtain ⟨xs1, e1, L1, O1⟩ := XId (c := Go.Vm.Code.Xd7) (ok := fun (x : Go.Vm.Code.Xcv) => (Lit.int .i64 x.Kind).wf = true ∧ x.S.length ≤ maxLen ∧ (Lit.int .i64 x.T.Proto).wf = true ∧ (Lit.int .u64 x.T.Src.Hi).wf = true ∧ (Lit.int .u64 x.T.Src.Lo).wf = true ∧ (Lit.int .u64 x.T.Dst.Hi).wf = true ∧ (Lit.int .u64 x.T.Dst.Lo).wf = true ∧ (Lit.int .i64 x.T.SPort).wf = true ∧ (Lit.int .i64 x.T.DPort).wf = true ∧ (Lit.int .u32 x.Clock).wf = true ∧ True) (fun cs h => by
    obtain ⟨_, cs0, rfl, ⟨y0, rfl, w0⟩, h0⟩ := h.inv
    obtain ⟨_, cs1, rfl, ⟨y1, rfl, w1⟩, h1⟩ := h0.inv
    obtain ⟨_, cs2, rfl, ⟨y2, rfl, w2⟩, h2⟩ := h1.inv
    obtain ⟨_, cs3, rfl, ⟨y3, rfl⟩, h3⟩ := h2.inv
    obtain ⟨_, cs4, rfl, ⟨y4, rfl, w4⟩, h4⟩ := h3.inv
    obtain ⟨_, cs5, rfl, ⟨y5, rfl, w5⟩, h5⟩ := h4.inv
    obtain ⟨_, cs6, rfl, ⟨y6, rfl⟩, h6⟩ := h5.inv
    obtain ⟨_, cs7, rfl, ⟨y7, rfl, w7⟩, h7⟩ := h6.inv
    obtain ⟨_, cs8, rfl, ⟨y8, rfl, w8⟩, h8⟩ := h7.inv
    obtain ⟨_, cs9, rfl, ⟨y9, rfl, w9⟩, h9⟩ := h8.inv
    obtain ⟨_, cs10, rfl, ⟨y10, rfl, w10⟩, h10⟩ := h9.inv
    obtain ⟨_, cs11, rfl, ⟨y11, rfl, w11⟩, h11⟩ := h10.inv
    obtain rfl := h11.inv0
    exact ⟨(Go.Vm.Code.Xcv.mk y0 y1.data.toList (Go.Vm.Code.Xag.mk y2 (Go.Vm.Code.Xae.mk y3 y4 y5) (Go.Vm.Code.Xae.mk y6 y7 y8) y9 y10) y11), rfl, ⟨w0, w1, w2, w4, w5, w7, w8, w9, w10, w11, trivial⟩⟩) len1 _ Z1 C1
  rw [e1] at A1
  refine XBv Go.Vm.Code.XaP (ms := [.v, .sl 12]) (aqs := [.v (.int .i64 x0_0), .sl len1 (vT Go.Vm.Code.Xd7 xs1)]) (r := true) (.cons ⟨rfl, rfl⟩ (.cons A1 .nil)) rfl ?_
  subst L1
  have hS : Xaq Tryz.prog (XaL (Go.Vm.Code.XMv Go.Vm.Code.XaI Go.Vm.Code.XaQ Go.Vm.Code.XbL Go.Vm.Code.XbN Go.Vm.Code.Xbt Go.Vm.Code.Xd9 Go.Vm.Code.Xan Go.Vm.Code.Xal Go.Vm.Code.Xai Go.Vm.Code.XaS Go.Vm.Code.XaE Go.Vm.Code.Xbo Go.Vm.Code.Xa0 Go.Vm.Code.Xbi Go.Vm.Code.XaO Go.Vm.Code.Xa5 Go.Vm.Code.XaJ Go.Vm.Code.Xa4 Go.Vm.Code.XaK)) := Xaq.XaY ⟨Go.Vm.Code.XSl, Go.Vm.Code.XP0, Go.Vm.Code.lift13, Go.Vm.Code.lift11, Go.Vm.Code.lift7, Go.Vm.Code.lift6, Go.Vm.Code.Xte, Go.Vm.Code.XRu, Go.Vm.Code.XOe, Go.Vm.Code.XSA, Go.Vm.Code.XRh, Go.Vm.Code.XQ6, trivial⟩
  refine (Go.Vm.Code.leads3 Go.Vm.Code.XaI Go.Vm.Code.XaQ Go.Vm.Code.XbL Go.Vm.Code.XbN Go.Vm.Code.Xbt Go.Vm.Code.Xd9 Go.Vm.Code.Xan Go.Vm.Code.Xal Go.Vm.Code.Xai Go.Vm.Code.XaS Go.Vm.Code.XaE Go.Vm.Code.Xbo Go.Vm.Code.Xa0 Go.Vm.Code.Xbi Go.Vm.Code.XaO Go.Vm.Code.Xa5 Go.Vm.Code.XaJ Go.Vm.Code.Xa4 Go.Vm.Code.XaK hS x0_0 xs1 true ?_).mono fun v H t hp => Res.flat rfl rfl hp
  exact Go.Vm.Code.shimPlays _ _ fun e he => by
    obtain ⟨-, -, -, -, -, -, -, -, -, w, -⟩ := O1 e he
    have a := wf_u32 w
    exact ⟨a.1, by have := a.2; omega⟩

set_option maxRecDepth 100000 in
theorem lifted (os : Os) (started : os.Started) (H : Type) (enc : TypeId × Value → H) :
    ReturnsInHanded {} Tryz.checked os 3 .any (Rows.shimPlaysSpec.pre6 enc Tryz.prog Tryz.f3 Rows.shimPlaysRow.domain false) (Rows.shimPlaysSpec.post enc Tryz.prog Tryz.f3 false true false false) := by
  refine returnsInHanded_of_change (C := Tryz.checked) own started (by kernel_rfl) Tryz.func3
    (ChangeSpec.witness6 (enc := enc) (C := Tryz.checked) false ⟨#[], #[.int .i64 0, .slice none 0 0], []⟩ 8 (by kernel_rfl) (by kernel_rfl) (by kernel_rfl) (by kernel_rfl)) ?_
  intro W base args ds gs before hval0 hW hcnd _
  have hval : ∀ (j : Nat) t v, Tryz.f3.params[j]? = some t → args[j]? = some v → Value.okWide Tryz.prog W .any base t v := hval0
  have hW' := hW
  obtain ⟨p, q, hA0, hV, rfl, hfz, hnd⟩ := hW
  have hA : DataW.TrodAll enc Tryz.prog W 0 (fun _ => true) true Tryz.f3.params.toList args.toList ds p := hA0
  rw [Tryz.params3] at hA hval
  obtain ⟨v0, vs0, d0, ds0, p0, q0, hargs, rfl, rfl, h0, r0⟩ := trodAll_cons hA
  obtain ⟨v1, vs1, d1, ds1, p1, q1, rfl, rfl, rfl, h1, r1⟩ := trodAll_cons r0
  obtain ⟨rfl, rfl, rfl⟩ := trodAll_nil r1
  obtain rfl : args = #[v0, v1] := by cases args; simp_all
  obtain ⟨rfl, rfl⟩ := trodVars_none hV
  have lt0 : ∀ x ∈ p0, x.block < W.heap.size := by obtain ⟨m, hm⟩ := h0; exact DataW.trod_lt m _ _ _ hm
  have lt1 : ∀ x ∈ p1, x.block < W.heap.size := by obtain ⟨m, hm⟩ := h1; exact DataW.trod_lt m _ _ _ hm
  obtain ⟨x0_0, rfl⟩ := okWide_int Tryz.underlying3 (hval 0 3 v0 rfl rfl)
  have wx0_0 : (Lit.int .i64 x0_0).wf = true := by
    obtain ⟨c0, _⟩ := XSi (n := 8) (ks := [(.int .i64)]) (by kernel_rfl) (hval 0 3 _ rfl rfl) h0
    obtain ⟨_, _, e, ⟨_, e2, hw⟩, _⟩ := c0.inv
    cases e; cases e2; exact hw
  obtain ⟨a1, len1, cap1, z1, rfl, row1⟩ := XPV Tryz.underlying22 (by kernel_rfl) (ks := [(.int .i64), .str, (.int .i64), .bool, (.int .u64), (.int .u64), .bool, (.int .u64), (.int .u64), (.int .i64), (.int .i64), (.int .u32)]) (n := 8) (by kernel_rfl) (hval 1 22 v1 rfl rfl) h1
  clear hA0 hval0
  refine (walk W x0_0 wx0_0 a1 len1 cap1 z1 row1).mono fun e W' ⟨he, bel⟩ => ?_
  subst he
  exact ⟨_, rfl, _, _, _, [], _, [], hW', trodAll_mk1 (shut_bool Tryz.underlying4 _), (trodAll_cons_mk (Below.trod laidOut (by kernel_rfl) (of_decide_eq_true (by kernel_rfl)) h0 bel lt0) (trodAll_cons_mk (Below.trod laidOut (by kernel_rfl) (of_decide_eq_true (by kernel_rfl)) h1 bel lt1) trodAll_mk0)), rfl, bel.frame _, fun h => by cases h⟩

theorem over : Rows.shimPlaysRow.holds Tryz.pinned (OpenSpec.ofChange Rows.shimPlaysSpec) :=
  OpenClaim.holds_of_wide 3 Tryz.f3 rfl rfl rfl rfl rfl rfl rfl ⟨rfl, rfl, rfl, rfl, rfl⟩ rfl rfl rfl rfl rfl (by kernel_rfl) Tryz.func3 (by kernel_rfl)
    (of_decide_eq_true (by kernel_rfl)) (by unfold Func.isWrapper; first | (rw [if_pos (by decide +kernel)]; kernel_rfl) | (rw [if_neg (by decide +kernel)]; exact ⟨rfl, rfl⟩))
    (fun os started H enc _ => lifted os started H enc)

theorem proved : Rows.ShimPlaysSaid := over
#print axioms proved
end Go.Proofs.YtgmodbbcnfdpdaaGreat.shimPlays
