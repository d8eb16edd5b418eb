import Derived.Test.YtgkpojcckgbcjaaCodeHealth
namespace Go.Vm.Code
open Go Go.Vm Go.Proofs
set_option maxRecDepth 20000

def within (n a b : Int) : Bool := decide (a ≤ n) && decide (n ≤ b)
def gWithin : List Value → Option Value
  | [.int .i64 n, .int .i64 a, .int .i64 b] => some (.bool (within n a b))
  | _ => none
theorem within_ok : SumOK Try.prog 60 (sFlat 3 gWithin) := by
  refine SumOK.of_flat tab_ok (fun vs v hl hg => ?_) ⟨Try.f60, rfl, by decide, rfl⟩
  unfold gWithin at hg
  split at hg <;> cases hg
  refine ⟨_, rfl, ?_⟩
  refine ev_ok tab_ok SumsOK.none true 500 ?_
  conv => whnf
  repeat' (refine br.intro (fun h => ?_) (fun h => ?_) <;> conv => whnf)
  all_goals (simp_all [within] <;> omega)

def right (a b : Int) : Bool := within a 1 100 && within b 1 100
def gRight : List Value → Option Value
  | [.agg ⟨[.int .i64 a, .int .i64 b]⟩] => some (.bool (right a b))
  | _ => none
def sums1 : List (Nat × Summ) := [(60, sFlat 3 gWithin)]
theorem sums1_ok : SumsOK Try.prog (aget sums1) := SumsOK.of_tab ⟨within_ok, trivial⟩
theorem right_ok : SumOK Try.prog 22 (sFlat 1 gRight) := by
  refine SumOK.of_flat tab_ok (fun vs v hl hg => ?_) ⟨Try.f22, rfl, by decide, rfl⟩
  unfold gRight at hg
  split at hg <;> cases hg
  refine ⟨_, rfl, ?_⟩
  refine ev_ok tab_ok sums1_ok true 500 ?_
  conv => whnf
  repeat' (refine br.intro (fun h => ?_) (fun h => ?_) <;> conv => whnf)
  all_goals simp_all [right]

theorem within_iff (n a b : Int) : within n a b = true ↔ a ≤ n ∧ n ≤ b := by simp [within]
theorem right_iff (a b : Int) : right a b = true ↔ (1 ≤ a ∧ a ≤ 100) ∧ 1 ≤ b ∧ b ≤ 100 := by simp [right, within]
def may (a b n : Int) : Bool := right a b && within n 0 1048576
theorem may_iff (a b n : Int) : may a b n = true ↔ ((1 ≤ a ∧ a ≤ 100) ∧ 1 ≤ b ∧ b ≤ 100) ∧ 0 ≤ n ∧ n ≤ 1048576 := by simp [may, right, within]
def need (a b : Int) (u : Bool) (n : Int) : Int := if may a b n then max 1 ((if u then b else a) - n) else 0
def gNeed : List Value → Option Value
  | [.agg ⟨[.int .i64 a, .int .i64 b]⟩, .agg ⟨[.bool u, .int .i64 n]⟩] => some (.int .i64 (need a b u n))
  | _ => none
def sums2 : List (Nat × Summ) := (22, sFlat 1 gRight) :: sums1
theorem sums2_ok : SumsOK Try.prog (aget sums2) := SumsOK.of_tab ⟨right_ok, within_ok, trivial⟩
theorem mx (x n y : Int) (hx : 1 ≤ x ∧ x ≤ 100) (hn : 0 ≤ n ∧ n ≤ 1048576) (hy : y = IntKind.wrap .i64 (x - n)) : (if y > 1 then y else 1) = max 1 (x - n) := by
  rw [wrap64 _ (by omega)] at hy; subst hy; split <;> omega
theorem need_no {a b n : Int} (u : Bool) (h : may a b n = false) : need a b u n = 0 := by simp [need, h]
theorem need_up {a b n : Int} (h : may a b n = true) : need a b true n = max 1 (b - n) := by simp [need, h]
theorem need_dn {a b n : Int} (h : may a b n = true) : need a b false n = max 1 (a - n) := by simp [need, h]
theorem need_ok : SumOK Try.prog 24 (sFlat 2 gNeed) := by
  refine SumOK.of_flat tab_ok (fun vs v hl hg => ?_) ⟨Try.f24, rfl, by decide, rfl⟩
  unfold gNeed at hg
  split at hg <;> cases hg
  rename_i a b u n
  refine ⟨_, rfl, ?_⟩
  cases u
  all_goals
    refine ev_ok tab_ok sums2_ok true 500 ?_
    conv => whnf
    refine br.intro (fun h => ?_) (fun h => ?_) <;> conv => whnf
    · rw [need_no _ (by simp only [may]; simp_all)]
    · refine br.intro (fun h2 => ?_) (fun h2 => ?_) <;> conv => whnf
      · rw [need_no _ (by simp only [may]; simp_all)]
      · have hm : may a b n = true := by simp only [may]; simp_all
        have hm' := (may_iff a b n).1 hm
        first | rw [need_up hm] | rw [need_dn hm]
        first | exact congrArg _ (mx b n _ hm'.1.2 hm'.2 rfl) | exact congrArg _ (mx a n _ hm'.1.1 hm'.2 rfl)

/-! the reference's -/
def sums3 : List (Nat × Summ) := (24, sFlat 2 gNeed) :: sums2
theorem sums3_ok : SumsOK Try.prog (aget sums3) := SumsOK.of_tab ⟨need_ok, right_ok, within_ok, trivial⟩
theorem rright_ok : SumOK Try.prog 23 (sFlat 1 gRight) := by
  refine SumOK.of_flat tab_ok (fun vs v hl hg => ?_) ⟨Try.f23, rfl, by decide, rfl⟩
  unfold gRight at hg
  split at hg <;> cases hg
  rename_i a b
  refine ⟨_, rfl, ?_⟩
  have hr := right_iff a b
  refine ev_ok tab_ok SumsOK.none true 500 ?_
  conv => whnf
  repeat' (refine br.intro (fun h => ?_) (fun h => ?_) <;> conv => whnf)
  all_goals
    refine congrArg Value.bool ?_
    rw [Bool.eq_iff_iff, hr]
    clear hr hl
    simp only [Bool.eq_false_iff, ne_eq, ge_iff_le, decide_eq_true_eq, Bool.false_eq_true, false_iff, true_iff] at *
    omega

def gMay : List Value → Option Value
  | [.agg ⟨[.int .i64 a, .int .i64 b]⟩, .agg ⟨[.bool u, .int .i64 n]⟩] => some (.bool (may a b n))
  | _ => none
def sums4 : List (Nat × Summ) := (23, sFlat 1 gRight) :: sums3
theorem sums4_ok : SumsOK Try.prog (aget sums4) := SumsOK.of_tab ⟨rright_ok, need_ok, right_ok, within_ok, trivial⟩
theorem may_ok : SumOK Try.prog 61 (sFlat 2 gMay) := by
  refine SumOK.of_flat tab_ok (fun vs v hl hg => ?_) ⟨Try.f61, rfl, by decide, rfl⟩
  unfold gMay at hg
  split at hg <;> cases hg
  rename_i a b u n
  refine ⟨_, rfl, ?_⟩
  have hr := may_iff a b n
  have hq := right_iff a b
  refine ev_ok tab_ok sums4_ok true 500 ?_
  conv => whnf
  repeat' (refine br.intro (fun h => ?_) (fun h => ?_) <;> conv => whnf)
  all_goals
    refine congrArg Value.bool ?_
    rw [Bool.eq_iff_iff, hr]
    clear hr hl
    simp only [Bool.eq_false_iff, ne_eq, ge_iff_le, decide_eq_true_eq, Bool.false_eq_true, false_iff, true_iff, hq] at *
    omega
def sums5 : List (Nat × Summ) := (61, sFlat 2 gMay) :: sums4
theorem sums5_ok : SumsOK Try.prog (aget sums5) := SumsOK.of_tab ⟨may_ok, rright_ok, need_ok, right_ok, within_ok, trivial⟩
theorem rneed_ok : SumOK Try.prog 25 (sFlat 2 gNeed) := by
  refine SumOK.of_flat tab_ok (fun vs v hl hg => ?_) ⟨Try.f25, rfl, by decide, rfl⟩
  unfold gNeed at hg
  split at hg <;> cases hg
  rename_i a b u n
  refine ⟨_, rfl, ?_⟩
  cases u
  all_goals
    refine ev_ok tab_ok sums5_ok true 500 ?_
    conv => whnf
    refine br.intro (fun h => ?_) (fun h => ?_) <;> conv => whnf
    · rw [need_no _ (by simp_all)]
    · have hm : may a b n = true := by simp_all
      have hm' := (may_iff a b n).1 hm
      first | rw [need_up hm] | rw [need_dn hm]
      first | exact congrArg _ (mx b n _ hm'.1.2 hm'.2 rfl) | exact congrArg _ (mx a n _ hm'.1.1 hm'.2 rfl)

/-! a result -/
def put (a b : Int) (u : Bool) (n : Int) (g : Bool) : (Bool × Int) × Bool :=
  if may a b n then
    (if g = u then ((u, 0), false) else if (if u then b else a) ≤ n + 1 then ((g, 0), true) else ((u, n + 1), false))
  else ((u, n), false)
def gPut : List Value → Option Value
  | [.agg ⟨[.int .i64 a, .int .i64 b]⟩, .agg ⟨[.bool u, .int .i64 n]⟩, .bool g] => some (.tuple ⟨[.agg ⟨[.bool (put a b u n g).1.1, .int .i64 (put a b u n g).1.2]⟩, .bool (put a b u n g).2]⟩)
  | _ => none
theorem need_val (a b : Int) (u : Bool) (n : Int) : (need a b u n = 0 ∧ may a b n = false) ∨ (may a b n = true ∧ need a b u n = max 1 ((if u then b else a) - n)) := by
  unfold need
  cases may a b n <;> simp
theorem put_eq {a b : Int} {u : Bool} {n : Int} {g : Bool} {x : Bool} {y : Int} {z : Bool} (h : put a b u n g = ((x, y), z)) :
    Value.tuple ⟨[.agg ⟨[.bool x, .int .i64 y]⟩, .bool z]⟩ = .tuple ⟨[.agg ⟨[.bool (put a b u n g).1.1, .int .i64 (put a b u n g).1.2]⟩, .bool (put a b u n g).2]⟩ := by rw [h]
theorem put_ok : SumOK Try.prog 26 (sFlat 3 gPut) := by
  refine SumOK.of_flat tab_ok (fun vs v hl hg => ?_) ⟨Try.f26, rfl, by decide, rfl⟩
  unfold gPut at hg
  split at hg <;> cases hg
  rename_i a b u n g
  refine ⟨_, rfl, ?_⟩
  have hn := need_val a b u n
  have hm := may_iff a b n
  cases u <;> cases g
  all_goals
    refine ev_ok tab_ok sums5_ok true 500 ?_
    conv => whnf
    refine br.intro (fun h => ?_) (fun h => ?_) <;> conv => whnf
    · simp only [beq_iff_eq] at h
      refine put_eq ?_
      rcases hn with hn | hn
      · simp [put, hn.2]
      · omega
    · refine br.intro (fun h2 => ?_) (fun h2 => ?_) <;> conv => whnf
      · simp only [beq_iff_eq, beq_eq_false_iff_ne] at h h2
        refine put_eq ?_
        rcases hn with hn | hn
        · omega
        · simp [put, hn.1] at *
          try omega
      · simp only [beq_iff_eq, beq_eq_false_iff_ne] at h h2
        refine put_eq ?_
        rcases hn with hn | hn
        · omega
        · have hw : IntKind.wrap .i64 (n + 1) = n + 1 := wrap64 _ (by have := hm.1 hn.1; omega)
          simp [put, hn.1, hw] at *
          try omega
theorem rput_ok : SumOK Try.prog 27 (sFlat 3 gPut) := by
  refine SumOK.of_flat tab_ok (fun vs v hl hg => ?_) ⟨Try.f27, rfl, by decide, rfl⟩
  unfold gPut at hg
  split at hg <;> cases hg
  rename_i a b u n g
  refine ⟨_, rfl, ?_⟩
  have hm := may_iff a b n
  cases u <;> cases g
  all_goals
    refine ev_ok tab_ok sums5_ok true 500 ?_
    conv => whnf
    refine br.intro (fun h => ?_) (fun h => ?_) <;> conv => whnf
    · refine put_eq ?_
      simp at h
      simp [put, h]
    · have hy : may a b n = true := by simpa using h
      have hw : IntKind.wrap .i64 (n + 1) = n + 1 := wrap64 _ (by have := hm.1 hy; omega)
      first
      | (refine put_eq ?_
         simp [put, hy]; done)
      | (refine br.intro (fun h2 => ?_) (fun h2 => ?_) <;> conv => whnf
         all_goals
           refine put_eq ?_
           simp [put, hy, hw] at *
           try omega)
end Go.Vm.Code
