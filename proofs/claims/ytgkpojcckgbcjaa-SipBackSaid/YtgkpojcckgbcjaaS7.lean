import Derived.Test.YtgkpojcckgbcjaaS6
namespace Go.Vm.Code
open Go Go.Vm Go.Proofs
set_option maxRecDepth 20000
set_option maxHeartbeats 1000000
/-- a byte more -/
def writeB (T : Q → Int → Q) (h : HQ) (c : UInt8) : HQ :=
  let last := orI h.last (IntKind.wrap .u64 (IntKind.wrap .u64 c.toNat * 2 ^ (min (8 * (h.count.tmod 8)).toNat 64)))
  if (h.count + 1).tmod 8 = 0 then ⟨T h.q last, 0, h.count + 1⟩ else ⟨h.q, last, h.count + 1⟩
def head32 (l : List UInt8) (i : Nat) (h : HQ) : VM :=
  ⟨⟨32, 63, [(18, .int .i64 i), (17, .int .i64 l.length), (16, .slice (some ⟨1, 0, none⟩) l.length 1), (0, .pointer (some ⟨0, 0, none⟩))],
    [.code k32_22, .inLoop k32_22, .inBlock 0], [], false, none⟩, [], [(0, .cells (hcells h)), (1, .row true (ofBytes l))], 2⟩
theorem loop32 (F : Int → Q → Q) (T : Q → Int → Q) (hS : SumsOK Try.prog (aget (sumsD F T))) (l : List UInt8) : ∀ (k i : Nat) (h : HQ), i + k = l.length → 0 ≤ h.count → h.count + k < 2 ^ 62 → l.length < 2 ^ 62 →
    Leads Try.prog 32 1 (head32 l i h) (fun v H _ => v = .tuple ⟨[]⟩ ∧ aget H 0 = some (.cells (hcells ((l.drop i).foldl (writeB T) h)))) := by
  intro k
  induction k with
  | zero =>
    intro i h hi h0 hc hl
    refine ev_ok tab_ok hS true 500 ?_
    conv => whnf
    refine br.neg (by simp; omega) ?_
    conv => whnf
    rw [List.drop_eq_nil_of_le (by omega)]
    exact ⟨rfl, rfl⟩
  | succ k ih =>
    intro i h hi h0 hc hl
    have hlt : i < l.length := by omega
    have hw : IntKind.wrap .i64 ((i : Int) + 1) = ((i + 1 : Nat) : Int) := by rw [wrap64 _ (by omega)]; omega
    have hw2 : IntKind.wrap .i64 (h.count + 1) = h.count + 1 := wrap64 _ (by omega)
    have ht := Int.tmod_nonneg 8 h0
    have ht2 := Int.tmod_lt_of_pos h.count (show (0 : Int) < 8 by decide)
    have hw3 : IntKind.wrap .i64 (8 * h.count.tmod 8) = 8 * h.count.tmod 8 := wrap64 _ (by omega)
    rw [List.drop_eq_getElem_cons hlt, List.foldl_cons]
    refine ev_ok tab_ok hS true 500 ?_
    conv => whnf
    refine br.pos (by simp; omega) ?_
    conv => whnf
    refine req.intro (by simp; omega) ?_
    conv => whnf
    refine rd.intro (v := .int .u8 l[i].toNat) (by simp [ofBytes, hlt]) ?_
    conv => whnf
    refine req.intro (by rw [hw3]; simp; omega) ?_
    conv => whnf
    have e1 : (h.count + 1).tmod 8 = 0 → writeB T h l[i] = ⟨T h.q (orI h.last (IntKind.wrap .u64 (IntKind.wrap .u64 (l[i].toNat : Int) * 2 ^ (min (8 * (h.count.tmod 8)).toNat 64)))), 0, h.count + 1⟩ := fun e => by simp only [writeB, if_pos e]
    have e2 : ¬ (h.count + 1).tmod 8 = 0 → writeB T h l[i] = ⟨h.q, orI h.last (IntKind.wrap .u64 (IntKind.wrap .u64 (l[i].toNat : Int) * 2 ^ (min (8 * (h.count.tmod 8)).toNat 64))), h.count + 1⟩ := fun e => by simp only [writeB, if_neg e]
    refine br.intro (fun hb => ?_) (fun hb => ?_) <;> conv => whnf
    · rw [hw2] at hb
      rw [e1 (by simpa using hb), hw, hw2, hw3]
      refine Leads.re (ih (i + 1) _ (by omega) (by simp only; omega) (by simp only; omega) hl) [(0, 0), (1, 1)] rfl ?_ ?_
      · repeat' first | exact trivial | refine ⟨⟨_, rfl, rfl⟩, ?_⟩
      · exact ⟨⟨_, _, rfl, rfl, .cells rfl⟩, ⟨_, _, rfl, rfl, .rowF (flatL_map (fun _ => rfl) l) id⟩, trivial⟩
    · rw [hw2] at hb
      rw [e2 (by simpa using hb), hw, hw2, hw3]
      refine Leads.re (ih (i + 1) _ (by omega) (by simp only; omega) (by simp only; omega) hl) [(0, 0), (1, 1)] rfl ?_ ?_
      · repeat' first | exact trivial | refine ⟨⟨_, rfl, rfl⟩, ?_⟩
      · exact ⟨⟨_, _, rfl, rfl, .cells rfl⟩, ⟨_, _, rfl, rfl, .rowF (flatL_map (fun _ => rfl) l) id⟩, trivial⟩
end Go.Vm.Code
