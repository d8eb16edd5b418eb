import Derived.Test.YtgkpojcckgbcjaaCodeMtu
import Derived.Laws.BitsLemmas
namespace Go.Vm.Code
open Go Go.Vm Go.Proofs
theorem learn (a b : Int) :
    Leads Try.prog 16 0 ⟨⟨16, 10, [(0, .int .i64 a), (1, .int .i64 b)], [.code k16_9], [], false, none⟩, [], [], 0⟩ (fun v _ _ => v = .int .i64 (if 576 ≤ b ∧ b ≤ a then b else a)) := by
  refine ev_ok tab_ok SumsOK.none true 500 ?_
  conv => whnf
  refine br.intro (fun h1 => ?_) (fun h1 => ?_) <;> conv => whnf
  · refine br.intro (fun h2 => ?_) (fun h2 => ?_) <;> conv => whnf
    · simp_all
    · simp_all; omega
  · simp_all; omega
end Go.Vm.Code
namespace Go.Vm.Code
open Go Go.Vm Go.Proofs
def ints (xs : List Int) : List Value := xs.map fun n => .int .i64 n
def lrn (a b : Int) : Int := if 576 ≤ b ∧ b ≤ a then b else a
def leastHead (n i : Nat) (m : Int) (H : Hp) : VM :=
  ⟨⟨17, 17, [(8, .int .i64 i), (7, .int .i64 n), (6, .slice (some ⟨0, 0, none⟩) n 1), (3, .int .i64 m)], [.code k17_12, .inLoop k17_12, .inBlock 0, .code k17_17], [], false, none⟩, [], H, 1⟩
theorem wrap64 (n : Int) (h : 0 ≤ n ∧ n < 2 ^ 63) : IntKind.wrap .i64 n = n := by
  rw [IntKind.wrap_i64]; omega
theorem least_loop (xs : List Int) (n : Nat) (hn : xs.length = n) (hb : n < 2 ^ 60) : ∀ (k i : Nat) (m : Int), i + k = n →
    Leads Try.prog 17 1 (leastHead n i m [(0, .row false (ints xs))]) (fun v _ _ => v = .int .i64 ((xs.drop i).foldl lrn m)) := by
  intro k
  induction k with
  | zero =>
    intro i m hi
    refine ev_ok tab_ok SumsOK.none true 500 ?_
    conv => whnf
    refine br.neg (by simp; omega) ?_
    conv => whnf
    rw [List.drop_eq_nil_of_le (by omega)]; rfl
  | succ k ih =>
    intro i m hi
    have hlt : i < xs.length := by omega
    have hd : xs.drop i = xs[i] :: xs.drop (i + 1) := List.drop_eq_getElem_cons hlt
    rw [hd, List.foldl_cons]
    refine ev_ok tab_ok SumsOK.none true 500 ?_
    conv => whnf
    refine br.pos (by simp; omega) ?_
    conv => whnf
    refine req.intro (by simp; omega) ?_
    conv => whnf
    refine rd.intro (v := .int .i64 xs[i]) (by simp [ints, hlt]) ?_
    conv => whnf
    have key : ∀ m', m' = lrn m xs[i] → Leads Try.prog 17 1 (leastHead n (i + 1) m' [(0, .row false (ints xs))]) (fun v _ _ => v = .int .i64 ((xs.drop (i + 1)).foldl lrn (lrn m xs[i]))) := fun m' e => e ▸ ih (i + 1) _ (by omega)
    have hw : IntKind.wrap .i64 ((i : Int) + 1) = ((i + 1 : Nat) : Int) := by rw [wrap64 _ (by omega)]; omega
    refine br.intro (fun h1 => ?_) (fun h1 => ?_) <;> conv => whnf
    · refine br.intro (fun h2 => ?_) (fun h2 => ?_) <;> conv => whnf
      · refine Leads.env (key _ ?_) ⟨congrArg (fun n => some (Value.int .i64 n)) hw, rfl, rfl, rfl, trivial⟩
        simp at h1 h2; rw [lrn, if_pos (by omega)]
      · refine Leads.env (key _ ?_) ⟨congrArg (fun n => some (Value.int .i64 n)) hw, rfl, rfl, rfl, trivial⟩
        simp at h1 h2; rw [lrn, if_neg (by omega)]
    · refine Leads.env (key _ ?_) ⟨congrArg (fun n => some (Value.int .i64 n)) hw, rfl, rfl, rfl, trivial⟩
      simp at h1; rw [lrn, if_neg (by omega)]

theorem least (xs : List Int) (n : Nat) (hn : xs.length = n) (hb : n < 2 ^ 60) :
    Leads Try.prog 17 1 ⟨⟨17, 17, [(0, .slice (some ⟨0, 0, none⟩) n 1)], [.code k17_20], [], false, none⟩, [], [(0, .row false (ints xs))], 1⟩ (fun v _ _ => v = .int .i64 (xs.foldl lrn 9000)) := by
  refine ev_ok tab_ok SumsOK.none true 500 ?_
  conv => whnf
  exact Leads.env (least_loop xs n hn hb n 0 9000 (by omega)) ⟨rfl, rfl, rfl, rfl, trivial⟩
end Go.Vm.Code
