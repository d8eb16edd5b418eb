import Derived.Test.YtgkpojcckgbcjaaH3
namespace Go.Vm.Code
open Go Go.Vm Go.Proofs
set_option maxRecDepth 20000
set_option maxHeartbeats 1000000

def head4 (a b : Int) (u : Bool) (n : Int) (len i : Nat) (xs : List Bool) : VM :=
  ⟨⟨4, 119, [(13, .int .i64 i), (8, .pointer (some ⟨4, 0, none⟩)), (7, .pointer (some ⟨3, 0, none⟩)), (4, .pointer (some ⟨2, 0, none⟩)), (3, .pointer (some ⟨1, 0, none⟩)), (2, .slice (some ⟨0, 0, none⟩) len 1)],
    [.code k4_30, .inLoop k4_30, .inBlock 0, .code k4_35], [], false, none⟩, [],
    [(1, .cells [.int .i64 a, .int .i64 b]), (2, .cells [.bool u, .int .i64 n]), (3, .cells [.int .i64 a, .int .i64 b]), (4, .cells [.bool u, .int .i64 n]), (0, .row false (bools xs))], 5⟩

theorem loop4 (a b : Int) (u : Bool) (n : Int) (xs : List Bool) (len : Nat) (hl : xs.length = len) (hb : len ≤ 40) : ∀ (k i : Nat), i + k = len →
    Leads Try.prog 4 1 (head4 a b u n len i xs) (fun v _ _ => v = .bool true) := by
  intro k
  induction k with
  | zero =>
    intro i hi
    refine ev_ok tab_ok sums8_ok true 500 ?_
    conv => whnf
    refine br.neg (by simp; omega) ?_
    conv => whnf
  | succ k ih =>
    intro i hi
    have hlt : i < xs.length := by omega
    have hw : IntKind.wrap .i64 ((i : Int) + 1) = ((i + 1 : Nat) : Int) := by rw [wrap64 _ (by omega)]; omega
    refine ev_ok tab_ok sums8_ok true 500 ?_
    conv => whnf
    refine br.pos (by simp; omega) ?_
    conv => whnf
    refine req.intro (by simp; omega) ?_
    conv => whnf
    refine rd.intro (v := .bool xs[i]) (by simp [bools, hlt]) ?_
    conv => whnf
    refine req.intro (by simp; omega) ?_
    conv => whnf
    refine rd.intro (v := .bool xs[i]) (by simp [bools, hlt]) ?_
    conv => whnf
    refine br.neg (by simp) ?_
    conv => whnf
    refine br.neg (by simp) ?_
    conv => whnf
    refine br.neg (by simp) ?_
    conv => whnf
    rw [hw]
    refine Leads.re (ih (i + 1) (by omega)) [(0, 0), (1, 1), (2, 2), (3, 3), (4, 4)] rfl ?_ ?_
    · repeat' first | exact trivial | refine ⟨⟨_, rfl, rfl⟩, ?_⟩
    · repeat' first | exact trivial | refine ⟨⟨_, _, rfl, rfl, .cells rfl⟩, ?_⟩ | refine ⟨⟨_, _, rfl, rfl, .rowF (flat_bools xs) id⟩, ?_⟩

theorem law4 (a b : Int) (u : Bool) (n : Int) (xs : List Bool) (len : Nat) (hl : xs.length = len) :
    Leads Try.prog 4 1 ⟨⟨4, 119, [(0, .agg ⟨[.int .i64 a, .int .i64 b]⟩), (1, .agg ⟨[.bool u, .int .i64 n]⟩), (2, .slice (some ⟨0, 0, none⟩) len 1)], [.code k4_42], [], false, none⟩, [], [(0, .row false (bools xs))], 1⟩
      (fun v _ _ => v = .bool true) := by
  refine ev_ok tab_ok sums8_ok true 500 ?_
  conv => whnf
  refine br.intro (fun h => ?_) (fun h => ?_) <;> conv => whnf
  simp only [decide_eq_false_iff_not] at h
  have h3 : 0 + len ≤ (bools xs).length := by rw [bools_len]; omega
  have h4 : ((bools xs).drop 0).take len = bools xs := by rw [List.drop_zero]; exact List.take_of_length_le (by rw [bools_len]; omega)
  refine sumK.intro (run_sum a b u n (xs := xs) rfl rfl h3 h4 (by omega)) ?_
  conv => whnf
  refine sumK.intro (run_sum a b u n (xs := xs) rfl rfl h3 h4 (by omega)) ?_
  conv => whnf
  refine br.neg (by simp) ?_
  conv => whnf
  refine br.neg (by simp) ?_
  conv => whnf
  refine br.neg (by simp) ?_
  conv => whnf
  refine br.neg (by simp) ?_
  conv => whnf
  refine br.neg (by simp) ?_
  conv => whnf
  refine Leads.re (loop4 a b u n xs len hl (by omega) len 0 (by omega)) [(0, 0), (1, 1), (2, 2), (3, 3), (4, 4)] rfl ?_ ?_
  · repeat' first | exact trivial | refine ⟨⟨_, rfl, rfl⟩, ?_⟩
  · repeat' first | exact trivial | refine ⟨⟨_, _, rfl, rfl, .cells rfl⟩, ?_⟩ | refine ⟨⟨_, _, rfl, rfl, .rowF (flat_bools xs) id⟩, ?_⟩
end Go.Vm.Code
