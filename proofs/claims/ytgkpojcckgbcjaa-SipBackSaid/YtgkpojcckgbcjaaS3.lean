import Derived.Test.YtgkpojcckgbcjaaS2
namespace Go.Vm.Code
open Go Go.Vm Go.Proofs
set_option maxRecDepth 20000
set_option maxHeartbeats 1000000

def rounds : Nat → Q → Q
  | 0, q => q
  | n + 1, q => rounds n (roundI q)
def sumsB : List (Nat × Summ) := (93, sRound) :: (67, sFlat 4 gRound) :: sumsA
theorem sumsB_ok : SumsOK Try.prog (aget sumsB) := SumsOK.of_tab ⟨round_ok, rround_ok, rot_ok, turn_ok, trivial⟩

/-- as many rounds as are asked for, up to 64 -/
def cntI (n : Int) : Int := if (if 64 < n then 64 else n) > 0 then (if 64 < n then 64 else n) else 0
theorem cntI_b (n : Int) : 0 ≤ cntI n ∧ cntI n ≤ 64 := by unfold cntI; split <;> split <;> omega
def head65 (n i : Nat) (q : Q) : VM :=
  ⟨⟨65, 12, [(7, .int .i64 i), (6, .int .i64 n), (0, .pointer (some ⟨0, 0, none⟩))], [.code k65_8, .inLoop k65_8, .inBlock 0], [], false, none⟩, [], [(0, .cells (qcells q))], 1⟩
theorem loop65 (n : Nat) (hn : n ≤ 64) : ∀ (k i : Nat) (q : Q), i + k = n →
    Leads Try.prog 65 1 (head65 n i q) (fun v H _ => v = .tuple ⟨[]⟩ ∧ aget H 0 = some (.cells (qcells (rounds k q)))) := by
  intro k
  induction k with
  | zero =>
    intro i q hi
    refine ev_ok tab_ok sumsB_ok true 500 ?_
    conv => whnf
    refine br.neg (by simp; omega) ?_
    conv => whnf
    exact ⟨rfl, rfl⟩
  | succ k ih =>
    intro i q hi
    have hw : IntKind.wrap .i64 ((i : Int) + 1) = ((i + 1 : Nat) : Int) := by rw [wrap64 _ (by omega)]; omega
    refine ev_ok tab_ok sumsB_ok true 500 ?_
    conv => whnf
    refine br.pos (by simp; omega) ?_
    conv => whnf
    rw [hw]
    refine Leads.re (ih (i + 1) (roundI q) (by omega)) [(0, 0)] rfl ?_ ?_
    · repeat' first | exact trivial | refine ⟨⟨_, rfl, rfl⟩, ?_⟩
    · exact ⟨⟨_, _, rfl, rfl, .cells rfl⟩, trivial⟩
/-- rounds, as many as are asked for; the walks above it are shown for any function in its place, so that it is never computed there -/
def mixF (n : Int) (q : Q) : Q := rounds (cntI n).toNat q
def rMix (F : Int → Q → Q) : List SArg → Option SRes
  | [.pt [.int .u64 a, .int .u64 b, .int .u64 c, .int .u64 d], .v (.int .i64 n)] => some ⟨.tuple ⟨[]⟩, [], [qcells (F n ⟨a, b, c, d⟩)]⟩
  | _ => none
def sMix (F : Int → Q → Q) : Summ := ⟨[.pt 4, .v], rMix F⟩
theorem mix_ok : SumOK Try.prog 65 (sMix mixF) := by
  refine SumOK.of_leads tab_ok (fun ar r ha hr => ?_) ⟨Try.f65, rfl, by decide, rfl⟩
  simp only [sMix] at ha hr
  unfold rMix at hr
  split at hr <;> cases hr
  rename_i a b c d n
  refine ⟨_, rfl, ?_⟩
  have hc := cntI_b n
  have hN : ((cntI n).toNat : Int) = cntI n := Int.toNat_of_nonneg hc.1
  refine ev_ok tab_ok sumsB_ok true 500 ?_
  conv => whnf
  refine Leads.mono (R := fun v H _ => v = .tuple ⟨[]⟩ ∧ aget H 0 = some (.cells (qcells (rounds (cntI n).toNat ⟨a, b, c, d⟩)))) ?_ (fun v H t h => by obtain ⟨rfl, h⟩ := h; exact Res.val rfl ⟨h, rfl, trivial⟩)
  refine Leads.re (loop65 (cntI n).toNat (by omega) (cntI n).toNat 0 ⟨a, b, c, d⟩ (by omega)) [(0, 0)] rfl ?_ ?_
  · exact ⟨⟨_, rfl, rfl⟩, ⟨_, rfl, by rw [hN]; rfl⟩, ⟨_, rfl, rfl⟩, trivial⟩
  · exact ⟨⟨_, _, rfl, rfl, .cells rfl⟩, trivial⟩
end Go.Vm.Code
