import Derived.Test.YtgkpojcckgbcjaaH3
namespace Go.Vm.Code
open Go Go.Vm Go.Proofs
set_option maxRecDepth 20000
set_option maxHeartbeats 1000000

/-! plain facts -/
def must (a b : Int) (u : Bool) : Int := if u then b else a
structure HInv (a b : Int) (u0 : Bool) (i : Int) (s : HS) : Prop where
  c0 : 0 ≤ s.c
  n0 : 0 ≤ s.n
  nm : s.n < must a b s.u
  par : (s.u = u0) ↔ s.c % 2 = 0
  len : s.c * min a b + s.n ≤ i
theorem hstep_inv {a b : Int} {u0 : Bool} {i : Int} {s : HS} (hr : (1 ≤ a ∧ a ≤ 100) ∧ 1 ≤ b ∧ b ≤ 100) (h : HInv a b u0 i s) (g : Bool) : HInv a b u0 (i + 1) (hstep a b s g) := by
  obtain ⟨h1, h2, h3, h4, h5⟩ := h
  have hb : s.n ≤ 1048576 := by unfold must at h3; split at h3 <;> omega
  have hm : may a b s.n = true := (may_iff a b s.n).2 ⟨hr, h2, hb⟩
  have hmul : (s.c + 1) * min a b = s.c * min a b + min a b := by rw [Int.add_mul, Int.one_mul]
  unfold hstep put
  rw [if_pos hm]
  by_cases hg : g = s.u
  · simp only [if_pos hg]
    refine ⟨h1, by simp, ?_, by simpa using h4, ?_⟩
    · unfold must; simp only; split <;> omega
    · simp only [Bool.false_eq_true, if_false]; omega
  · simp only [if_neg hg]
    by_cases ht : (if s.u = true then b else a) ≤ s.n + 1
    · simp only [if_pos ht, if_true]
      refine ⟨by simp only; omega, by simp, ?_, ?_, ?_⟩
      · unfold must; simp only; split <;> omega
      · simp only
        constructor
        · intro e
          have : ¬ s.u = u0 := fun e' => hg (e.trans e'.symm)
          rw [h4] at this; omega
        · intro e
          have : ¬ s.u = u0 := by rw [h4]; omega
          cases g <;> cases hsu : s.u <;> cases u0 <;> simp_all
      · simp only [hmul]
        have : min a b ≤ (if s.u = true then b else a) := by split <;> omega
        omega
    · simp only [if_neg ht]
      refine ⟨by simpa using h1, by simp only; omega, ?_, by simpa using h4, ?_⟩
      · unfold must; simp only; omega
      · simp only [Bool.false_eq_true, if_false]; omega
theorem fold_inv {a b : Int} {u0 : Bool} (hr : (1 ≤ a ∧ a ≤ 100) ∧ 1 ≤ b ∧ b ≤ 100) : ∀ (xs : List Bool) {i : Int} {s : HS}, HInv a b u0 i s → HInv a b u0 (i + xs.length) (xs.foldl (hstep a b) s)
  | [], i, s, h => by simpa using h
  | x :: xs, i, s, h => by
    have := fold_inv hr xs (hstep_inv hr h x)
    rw [List.foldl_cons, List.length_cons]
    rwa [show i + 1 + (xs.length : Int) = i + ((xs.length + 1 : Nat) : Int) by omega] at this
theorem fold_count (a b : Int) : ∀ (xs : List Bool) (s : HS) (d : Int), xs.foldl (hstep a b) ⟨s.u, s.n, s.c + d⟩ = ⟨(xs.foldl (hstep a b) s).u, (xs.foldl (hstep a b) s).n, (xs.foldl (hstep a b) s).c + d⟩
  | [], s, d => rfl
  | x :: xs, s, d => by
    rw [List.foldl_cons, List.foldl_cons]
    have : hstep a b ⟨s.u, s.n, s.c + d⟩ x = ⟨(hstep a b s x).u, (hstep a b s x).n, (hstep a b s x).c + d⟩ := by
      unfold hstep; simp only; congr 1; split <;> omega
    rw [this, fold_count a b xs]
theorem fold_split (a b : Int) (u : Bool) (xs : List Bool) (k : Nat) :
    let y := (xs.take k).foldl (hstep a b) ⟨u, 0, 0⟩
    let z := (xs.drop k).foldl (hstep a b) ⟨y.u, y.n, 0⟩
    let s := xs.foldl (hstep a b) ⟨u, 0, 0⟩
    z.u = s.u ∧ z.n = s.n ∧ y.c + z.c = s.c := by
  intro y z s
  have h1 : s = (xs.drop k).foldl (hstep a b) y := by
    show xs.foldl (hstep a b) ⟨u, 0, 0⟩ = _
    rw [← List.foldl_append, List.take_append_drop]
  have h2 := fold_count a b (xs.drop k) ⟨y.u, y.n, 0⟩ y.c
  rw [show (⟨y.u, y.n, 0 + y.c⟩ : HS) = y by simp] at h2
  rw [h1, h2]
  exact ⟨rfl, rfl, by show y.c + z.c = z.c + y.c; omega⟩

theorem law6 (a b : Int) (u : Bool) (n : Int) (xs : List Bool) (len : Nat) (hl : xs.length = len) (hn : 0 ≤ n ∧ n < 256) :
    Leads Try.prog 6 1 ⟨⟨6, 132, [(0, .agg ⟨[.int .i64 a, .int .i64 b]⟩), (1, .bool u), (2, .slice (some ⟨0, 0, none⟩) len 1), (3, .int .u8 n)], [.code k6_26], [], false, none⟩, [], [(0, .row false (bools xs))], 1⟩
      (fun v _ _ => v = .bool true) := by
  refine ev_ok tab_ok sums8_ok true 500 ?_
  conv => whnf
  refine br.intro (fun h => ?_) (fun h => ?_) <;> conv => whnf
  refine br.intro (fun h' => ?_) (fun h' => ?_) <;> conv => whnf
  have hr := (right_iff a b).1 (by simpa using h)
  have hlen : (len : Int) ≤ 60 := by simpa using h'
  have hw1 : IntKind.wrap .i64 n = n := wrap64 _ (by omega)
  have hw2 : IntKind.wrap .i64 ((len : Int) + 1) = (len : Int) + 1 := wrap64 _ (by omega)
  have hk0 := Int.tmod_nonneg ((len : Int) + 1) hn.1
  have hk1 := Int.tmod_lt_of_pos n (show 0 < (len : Int) + 1 by omega)
  obtain ⟨k, hk⟩ : ∃ k : Nat, n.tmod ((len : Int) + 1) = k := ⟨_, (Int.toNat_of_nonneg hk0).symm⟩
  refine req.intro (by rw [hw2]; simp; omega) ?_
  conv => whnf
  rw [hw1, hw2, hk]
  have hkl : k ≤ len := by omega
  have h3 : 0 + len ≤ (bools xs).length := by rw [bools_len]; omega
  have h4 : ((bools xs).drop 0).take len = bools xs := by rw [List.drop_zero]; exact List.take_of_length_le (by rw [bools_len]; omega)
  refine sumK.intro (run_sum a b u 0 (xs := xs) rfl rfl h3 h4 (by omega)) ?_
  conv => whnf
  refine req.intro (by simp; omega) ?_
  conv => whnf
  have h5 : ∀ m, m = len - k → ((bools xs).drop k).take m = bools (xs.drop k) := by
    intro m hm
    rw [List.take_of_length_le (by simp [bools_len]; omega)]; simp [bools, List.map_drop]
  refine sumK.intro (run_sum a b u 0 (xs := xs.take k) rfl rfl (by simp [bools_len]; omega) (by simp [bools, List.map_take]) (by simp; omega)) ?_
  conv => whnf
  refine req.intro (by simp; omega) ?_
  conv => whnf
  have hs := fold_split a b u xs k
  have hinv := fold_inv (a := a) (b := b) (u0 := u) hr xs (i := 0) (s := ⟨u, 0, 0⟩) ⟨by simp, by simp, by unfold must; simp only; split <;> omega, by simp, by simp⟩
  generalize (xs.take k).foldl (hstep a b) ⟨u, 0, 0⟩ = y at *
  refine sumK.intro (run_sum a b y.u y.n (xs := xs.drop k) rfl rfl (by simp [bools_len]; omega) (by simp; exact h5 _ rfl) (by simp; omega)) ?_
  conv => whnf
  obtain ⟨s1, s2, s3⟩ := hs
  generalize (xs.drop k).foldl (hstep a b) ⟨y.u, y.n, 0⟩ = z at *
  generalize xs.foldl (hstep a b) ⟨u, 0, 0⟩ = s at *
  obtain ⟨su, sn, sc⟩ := s
  obtain ⟨zu, zn, zc⟩ := z
  obtain ⟨yu, yn, yc⟩ := y
  obtain ⟨i1, i2, i3, i4, i5⟩ := hinv
  simp only at s1 s2 s3 i1 i2 i3 i4 i5
  subst s1 s2 s3
  have hb : zn ≤ 1048576 := by unfold must at i3; split at i3 <;> omega
  have hm : may a b zn = true := (may_iff a b zn).2 ⟨hr, i2, hb⟩
  have i5' : (yc + zc) * min a b ≤ 60 := by omega
  have hc60 : yc + zc ≤ 60 := by
    have h1 : (yc + zc) * 1 ≤ (yc + zc) * min a b := Int.mul_le_mul_of_nonneg_left (by omega) i1
    omega
  have w1 : IntKind.wrap .i64 (yc + zc) = yc + zc := wrap64 _ (by omega)
  have w2 : IntKind.wrap .i64 ((yc + zc) * min a b) = (yc + zc) * min a b := wrap64 _ (by have := Int.mul_nonneg i1 (show 0 ≤ min a b by omega); omega)
  have hmin : (if b < a then b else a) = min a b := by split <;> omega
  have hpar : ((zu == u) == ((yc + zc).tmod 2 == 0)) = true := by
    rw [Int.tmod_eq_emod_of_nonneg i1]
    rw [beq_iff_eq, Bool.eq_iff_iff, beq_iff_eq, beq_iff_eq]; exact i4
  cases zu
  all_goals
    conv => whnf
    refine br.pos (by simp) ?_
    conv => whnf
    refine br.pos (by simp [w1]) ?_
    conv => whnf
    refine br.pos (by simp; omega) ?_
    conv => whnf
    refine br.pos hpar ?_
    conv => whnf
    refine br.pos (by simp only [hmin, w2]; simp; omega) ?_
    conv => whnf
    refine br.pos (by simp; omega) ?_
    conv => whnf
    refine br.pos (by simp [must] at i3 ⊢; omega) ?_
    conv => whnf
    simp only [must, if_true, Bool.false_eq_true, if_false] at i3
    first
    | (refine br.pos (show (need a b false zn == IntKind.wrap .i64 (a - zn)) = true by rw [need_dn hm, wrap64 _ (by omega), beq_iff_eq]; omega) ?_
       conv => whnf)
    | (refine br.pos (show (need a b true zn == IntKind.wrap .i64 (b - zn)) = true by rw [need_up hm, wrap64 _ (by omega), beq_iff_eq]; omega) ?_
       conv => whnf)
end Go.Vm.Code
