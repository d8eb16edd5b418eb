/-
  The law OctetReads returns true at all arguments, and it writes nothing that was there.
  The frame is written by a program off the print for this function; the walk stands in the texts that are imported.
-/
import Derived.Test.YtjgbmnhijmkejaaRows
import Derived.WalkKit
import Derived.ProofKit
import Derived.OpenShut
import Derived.ShutString
import Derived.ChangeOld
import Derived.Below
import Derived.Carry
import Derived.Test.YtjgbmnhijmkejaaNOctetReadsd
namespace Go.Proofs.Ytjgbmnhijmkejaa.octetReads
open Go.ChangeShapes Go.WideShapes Go.ChangeAt Go.RowKit Go.Vm
set_option linter.unusedVariables false

theorem own : ownKnob Try.prog.godebug = none := by kernel_rfl
theorem laidOut : laidOutB Try.prog = true := by kernel_rfl

theorem walk (W : World) (x0_0 : ByteArray) (wx0_0 : x0_0.size ≤ maxLen) (a1 : Option Addr) (len1 cap1 : Nat) (z1 : List Value) (row1 : RowN W [(.int .i64), (.int .i64)] a1 len1 cap1 z1) :
    Calls Try.prog 7 #[.string x0_0, .slice a1 len1 cap1] W fun e w' => e = .returned (.bool true) ∧ Below W.heap.size W w' := by
  obtain ⟨A1, Z1, C1, M1⟩ := ArgR.rowN row1 (by decide)
  obtain ⟨xs1, e1, L1, O1⟩ := rows_of (c := Go.Vm.Code.cR02_Step) (ok := fun (x : Go.Vm.Code.R02_Step) => (Lit.int .i64 x.Kind).wf = true ∧ (Lit.int .i64 x.N).wf = true ∧ True) (fun cs h => by
    obtain ⟨_, cs0, rfl, ⟨y0, rfl, w0⟩, h0⟩ := h.inv
    obtain ⟨_, cs1, rfl, ⟨y1, rfl, w1⟩, h1⟩ := h0.inv
    obtain rfl := h1.inv0
    exact ⟨(Go.Vm.Code.R02_Step.mk y0 y1), rfl, ⟨w0, w1, trivial⟩⟩) len1 _ Z1 C1
  rw [e1] at A1
  refine calls_of_leads Go.Vm.Code.tab_ok (ms := [.v, .sl 2]) (aqs := [.v (.string x0_0), .sl len1 (vT Go.Vm.Code.cR02_Step xs1)]) (r := true) (.cons ⟨rfl, rfl⟩ (.cons A1 .nil)) rfl ?_
  subst L1
  have hS : SumsOK Try.prog (aget (Go.Vm.Code.sums7 Go.Vm.Code.R02_Reader_Num Go.Vm.Code.R02_Reader_Rest Go.Vm.Code.R02_Reader_Text Go.Vm.Code.law02_awake Go.Vm.Code.octet_New Go.Vm.Code.octet_Reader_Bad Go.Vm.Code.octet_Reader_Bad_nil Go.Vm.Code.octet_Reader_Num Go.Vm.Code.octet_Reader_Num_nil Go.Vm.Code.octet_Reader_Rest Go.Vm.Code.octet_Reader_Rest_nil Go.Vm.Code.octet_Reader_Text Go.Vm.Code.octet_Reader_Text_nil)) := SumsOK.of_tab ⟨Go.Vm.Code.lift32, Go.Vm.Code.lift36, Go.Vm.Code.lift34, Go.Vm.Code.lift21, Go.Vm.Code.lift30, Go.Vm.Code.lift37, Go.Vm.Code.lift31, Go.Vm.Code.lift35, Go.Vm.Code.lift33, trivial⟩
  refine (Go.Vm.Code.leads7 Go.Vm.Code.R02_Reader_Num Go.Vm.Code.R02_Reader_Rest Go.Vm.Code.R02_Reader_Text Go.Vm.Code.law02_awake Go.Vm.Code.octet_New Go.Vm.Code.octet_Reader_Bad Go.Vm.Code.octet_Reader_Bad_nil Go.Vm.Code.octet_Reader_Num Go.Vm.Code.octet_Reader_Num_nil Go.Vm.Code.octet_Reader_Rest Go.Vm.Code.octet_Reader_Rest_nil Go.Vm.Code.octet_Reader_Text Go.Vm.Code.octet_Reader_Text_nil hS x0_0.data.toList xs1 true ?_).mono fun v H t hp => Res.flat rfl rfl hp
  exact Go.Vm.Code.octetReads _ _

set_option maxRecDepth 100000 in
theorem lifted (os : Os) (started : os.Started) (H : Type) (enc : TypeId × Value → H) :
    ReturnsInHanded {} Try.checked os 7 .any (Rows.octetReadsSpec.pre6 enc Try.prog Try.f7 Rows.octetReadsRow.domain false) (Rows.octetReadsSpec.post enc Try.prog Try.f7 false true false false) := by
  refine returnsInHanded_of_change (C := Try.checked) own started (by kernel_rfl) Try.func7
    (ChangeSpec.witness6 (enc := enc) (C := Try.checked) false ⟨#[], #[.string ⟨#[]⟩, .slice none 0 0], []⟩ 8 (by kernel_rfl) (by kernel_rfl) (by kernel_rfl) (by kernel_rfl)) ?_
  intro W base args ds gs before hval0 hW hcnd _
  have hval : ∀ (j : Nat) t v, Try.f7.params[j]? = some t → args[j]? = some v → Value.okWide Try.prog W .any base t v := hval0
  have hW' := hW
  obtain ⟨p, q, hA0, hV, rfl, hfz, hnd⟩ := hW
  have hA : DataW.TrodAll enc Try.prog W 0 (fun _ => true) true Try.f7.params.toList args.toList ds p := hA0
  rw [Try.params7] at hA hval
  obtain ⟨v0, vs0, d0, ds0, p0, q0, hargs, rfl, rfl, h0, r0⟩ := trodAll_cons hA
  obtain ⟨v1, vs1, d1, ds1, p1, q1, rfl, rfl, rfl, h1, r1⟩ := trodAll_cons r0
  obtain ⟨rfl, rfl, rfl⟩ := trodAll_nil r1
  obtain rfl : args = #[v0, v1] := by cases args; simp_all
  obtain ⟨rfl, rfl⟩ := trodVars_none hV
  have lt0 : ∀ x ∈ p0, x.block < W.heap.size := by obtain ⟨m, hm⟩ := h0; exact DataW.trod_lt m _ _ _ hm
  have lt1 : ∀ x ∈ p1, x.block < W.heap.size := by obtain ⟨m, hm⟩ := h1; exact DataW.trod_lt m _ _ _ hm
  obtain ⟨x0_0, rfl⟩ := okWide_string Try.underlying9 (hval 0 9 v0 rfl rfl)
  have wx0_0 : x0_0.size ≤ maxLen := by
    obtain ⟨c0, _⟩ := open_flat (n := 8) (ks := [.str]) (by kernel_rfl) (hval 0 9 _ rfl rfl) h0
    obtain ⟨_, _, e, ⟨_, e2, hw⟩, _⟩ := c0.inv
    cases e; cases e2; exact hw
  obtain ⟨a1, len1, cap1, z1, rfl, row1⟩ := open_rowN Try.underlying52 (by kernel_rfl) (ks := [(.int .i64), (.int .i64)]) (n := 8) (by kernel_rfl) (hval 1 52 v1 rfl rfl) h1
  clear hA0 hval0
  refine (walk W x0_0 wx0_0 a1 len1 cap1 z1 row1).mono fun e W' ⟨he, bel⟩ => ?_
  subst he
  exact ⟨_, rfl, _, _, _, [], _, [], hW', trodAll_mk1 (shut_bool Try.underlying4 _), (trodAll_cons_mk (Below.trod laidOut (by kernel_rfl) (of_decide_eq_true (by kernel_rfl)) h0 bel lt0) (trodAll_cons_mk (Below.trod laidOut (by kernel_rfl) (of_decide_eq_true (by kernel_rfl)) h1 bel lt1) trodAll_mk0)), rfl, bel.frame _, fun h => by cases h⟩

theorem over : Rows.octetReadsRow.holds Try.pinned (OpenSpec.ofChange Rows.octetReadsSpec) :=
  OpenClaim.holds_of_wide 7 Try.f7 rfl rfl rfl rfl rfl rfl rfl ⟨rfl, rfl, rfl, rfl, rfl⟩ rfl rfl rfl rfl rfl (by kernel_rfl) Try.func7 (by kernel_rfl)
    (of_decide_eq_true (by kernel_rfl)) (by unfold Func.isWrapper; first | (rw [if_pos (by decide +kernel)]; kernel_rfl) | (rw [if_neg (by decide +kernel)]; exact ⟨rfl, rfl⟩))
    (fun os started H enc _ => lifted os started H enc)

theorem proved : Rows.OctetReadsSaid := over
#print axioms proved
end Go.Proofs.Ytjgbmnhijmkejaa.octetReads
