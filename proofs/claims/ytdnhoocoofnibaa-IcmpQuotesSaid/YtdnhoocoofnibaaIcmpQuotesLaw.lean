/-
  The law IcmpQuotes returns true at all arguments, and it writes nothing that was there.
  The frame is written by a program off the print for this function; the walk stands in the texts that are imported.
-/
import Derived.Test.YtdnhoocoofnibaaRows
import Derived.WalkKit
import Derived.ProofKit
import Derived.OpenShut
import Derived.ShutString
import Derived.ChangeOld
import Derived.Below
import Derived.Carry
import Derived.Test.YtdnhoocoofnibaaVmFrame
import Derived.Test.YtdnhoocoofnibaaMIcmpQuotesb
namespace Go.Proofs.Ytdnhoocoofnibaa.icmpQuotes
open Go.ChangeShapes Go.WideShapes Go.ChangeAt Go.RowKit Go.Vm
set_option linter.unusedVariables false

theorem own : ownKnob Try.prog.godebug = none := by kernel_rfl
theorem laidOut : laidOutB Try.prog = true := by kernel_rfl

theorem walk (W : World) (x0_0 : Int) (wx0_0 : (Lit.int .i64 x0_0).wf = true) (x0_1 : Int) (wx0_1 : (Lit.int .i64 x0_1).wf = true) (x0_2 : Int) (wx0_2 : (Lit.int .i64 x0_2).wf = true) (x0_3 : ByteArray) (wx0_3 : x0_3.size ≤ maxLen) :
    Calls Try.prog 9 #[.agg ⟨[.int .i64 x0_0, .int .i64 x0_1, .int .i64 x0_2, .string x0_3]⟩] W fun e w' => e = .returned (.bool true) ∧ Below W.heap.size W w' := by
  refine calls_of_leads Go.Vm.Code.tab_ok (ms := [.v]) (aqs := [.v (.agg ⟨[.int .i64 x0_0, .int .i64 x0_1, .int .i64 x0_2, .string x0_3]⟩)]) (r := true) (.cons ⟨rfl, rfl⟩ .nil) rfl ?_
  have hS : SumsOK Try.prog (aget (Go.Vm.Code.sums9 Go.Vm.Code.R53_About Go.Vm.Code.R53_Quoted Go.Vm.Code.icmp_About Go.Vm.Code.icmp_Quoted Go.Vm.Code.law53_awake Go.Vm.Code.law53_of)) := SumsOK.of_tab ⟨Go.Vm.Code.lift42, Go.Vm.Code.lift40, Go.Vm.Code.lift41, Go.Vm.Code.lift39, Go.Vm.Code.lift30, Go.Vm.Code.lift32, trivial⟩
  refine (Go.Vm.Code.leads9 Go.Vm.Code.R53_About Go.Vm.Code.R53_Quoted Go.Vm.Code.icmp_About Go.Vm.Code.icmp_Quoted Go.Vm.Code.law53_awake Go.Vm.Code.law53_of hS (Go.Vm.Code.icmp_Message.mk x0_0 x0_1 x0_2 x0_3.data.toList) true ?_).mono fun v H t hp => Res.flat rfl rfl hp
  exact Go.Vm.Code.icmpQuotes _

set_option maxRecDepth 100000 in
theorem lifted (os : Os) (started : os.Started) (H : Type) (enc : TypeId × Value → H) :
    ReturnsInHanded {} Try.checked os 9 .any (Rows.icmpQuotesSpec.pre6 enc Try.prog Try.f9 Rows.icmpQuotesRow.domain false) (Rows.icmpQuotesSpec.post enc Try.prog Try.f9 false true false false) := by
  refine returnsInHanded_of_change (C := Try.checked) own started (by kernel_rfl) Try.func9
    (ChangeSpec.witness6 (enc := enc) (C := Try.checked) false ⟨#[], #[.agg ⟨[.int .i64 0, .int .i64 0, .int .i64 0, .string ⟨#[]⟩]⟩], []⟩ 8 (by kernel_rfl) (by kernel_rfl) (by kernel_rfl) (by kernel_rfl)) ?_
  intro W base args ds gs before hval0 hW hcnd _
  have hval : ∀ (j : Nat) t v, Try.f9.params[j]? = some t → args[j]? = some v → Value.okWide Try.prog W .any base t v := hval0
  have hW' := hW
  obtain ⟨p, q, hA0, hV, rfl, hfz, hnd⟩ := hW
  have hA : DataW.TrodAll enc Try.prog W 0 (fun _ => true) true Try.f9.params.toList args.toList ds p := hA0
  rw [Try.params9] at hA hval
  obtain ⟨v0, vs0, d0, ds0, p0, q0, hargs, rfl, rfl, h0, r0⟩ := trodAll_cons hA
  obtain ⟨rfl, rfl, rfl⟩ := trodAll_nil r0
  obtain rfl : args = #[v0] := by cases args; simp_all
  obtain ⟨rfl, rfl⟩ := trodVars_none hV
  have lt0 : ∀ x ∈ p0, x.block < W.heap.size := by obtain ⟨m, hm⟩ := h0; exact DataW.trod_lt m _ _ _ hm
  obtain ⟨c0, b0⟩ := open_flat (n := 8) (ks := [(.int .i64), (.int .i64), (.int .i64), .str]) (by kernel_rfl) (hval 0 59 v0 rfl rfl) h0
  obtain ⟨-, b0⟩ := b0.resolve_right (by rw [show isAggB Try.prog 59 = true by kernel_rfl]; exact Bool.noConfusion)
  generalize hcs0 : cellsL v0 = cs0 at c0 b0
  clear hcs0
  subst b0
  obtain ⟨_, cs0_0, rfl, ⟨x0_0, rfl, wx0_0⟩, c0_0⟩ := c0.inv
  obtain ⟨_, cs0_1, rfl, ⟨x0_1, rfl, wx0_1⟩, c0_1⟩ := c0_0.inv
  obtain ⟨_, cs0_2, rfl, ⟨x0_2, rfl, wx0_2⟩, c0_2⟩ := c0_1.inv
  obtain ⟨_, cs0_3, rfl, ⟨x0_3, rfl, wx0_3⟩, c0_3⟩ := c0_2.inv
  obtain rfl := c0_3.inv0
  clear hA0 hval0
  refine (walk W x0_0 wx0_0 x0_1 wx0_1 x0_2 wx0_2 x0_3 wx0_3).mono fun e W' ⟨he, bel⟩ => ?_
  subst he
  exact ⟨_, rfl, _, _, _, [], _, [], hW', trodAll_mk1 (shut_bool Try.underlying4 _), (trodAll_cons_mk (Below.trod laidOut (by kernel_rfl) (of_decide_eq_true (by kernel_rfl)) h0 bel lt0) trodAll_mk0), rfl, bel.frame _, fun h => by cases h⟩

theorem over : Rows.icmpQuotesRow.holds Try.pinned (OpenSpec.ofChange Rows.icmpQuotesSpec) :=
  OpenClaim.holds_of_wide 9 Try.f9 rfl rfl rfl rfl rfl rfl rfl ⟨rfl, rfl, rfl, rfl, rfl⟩ rfl rfl rfl rfl rfl (by kernel_rfl) Try.func9 (by kernel_rfl)
    (of_decide_eq_true (by kernel_rfl)) (by unfold Func.isWrapper; first | (rw [if_pos (by decide +kernel)]; kernel_rfl) | (rw [if_neg (by decide +kernel)]; exact ⟨rfl, rfl⟩))
    (fun os started H enc _ => lifted os started H enc)

theorem proved : Rows.IcmpQuotesSaid := over
#print axioms proved
end Go.Proofs.Ytdnhoocoofnibaa.icmpQuotes
