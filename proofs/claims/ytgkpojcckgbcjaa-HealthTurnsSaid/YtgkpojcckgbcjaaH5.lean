import Derived.Test.YtgkpojcckgbcjaaH6
namespace Go.Vm.Code
open Go Go.Vm Go.Proofs
set_option maxRecDepth 20000
set_option maxHeartbeats 1000000

/-! plain facts -/
theorem rep_fold {a b : Int} {u : Bool} (hr : (1 ≤ a ∧ a ≤ 100) ∧ 1 ≤ b ∧ b ≤ 100) : ∀ (k : Nat) (j c : Int), 0 ≤ j → j + k < must a b u → (List.replicate k (!u)).foldl (hstep a b) ⟨u, j, c⟩ = ⟨u, j + k, c⟩
  | 0, j, c, _, _ => by simp
  | k + 1, j, c, h0, hk => by
    have hb : j ≤ 1048576 := by unfold must at hk; split at hk <;> omega
    have hm : may a b j = true := (may_iff a b j).2 ⟨hr, h0, hb⟩
    rw [List.replicate_succ, List.foldl_cons]
    have : hstep a b ⟨u, j, c⟩ (!u) = ⟨u, j + 1, c⟩ := by
      unfold hstep put
      simp only [if_pos hm]
      rw [if_neg (by cases u <;> simp)]
      rw [if_neg (by unfold must at hk; omega)]
      simp
    rw [this, rep_fold hr k (j + 1) c (by omega) (by omega)]
    congr 1; omega
theorem same_step {a b : Int} {u : Bool} {j c : Int} (hm : may a b j = true) : hstep a b ⟨u, j, c⟩ u = ⟨u, 0, c⟩ := by
  unfold hstep put; simp [hm]
theorem turn_step {a b : Int} {u : Bool} {j c : Int} (hm : may a b j = true) (hj : must a b u ≤ j + 1) : hstep a b ⟨u, j, c⟩ (!u) = ⟨!u, 0, c + 1⟩ := by
  unfold hstep put
  simp only [if_pos hm]
  rw [if_neg (by cases u <;> simp), if_pos (by unfold must at hj; exact hj)]
  simp
theorem rep_bools (n : Nat) (x : Bool) : bools (List.replicate n x) = List.replicate n (.bool x) := by simp [bools]

theorem rowEq {s : Nat → Option Nat} {own : Bool} {cs cs' : List Value} (e : cs = cs') (h : flatV.flatL cs' = true) : OSub s (.row own cs) (.row own cs') := by
  subst e; exact .rowF h id
theorem bools_app (j : Nat) (x : Bool) : bools (List.replicate j x) ++ [.bool x] = bools (List.replicate (j + 1) x) := by
  rw [rep_bools, rep_bools, ← List.replicate_succ']

/-- the second loop's head, and what comes behind -/
def head5b (a b : Int) (u : Bool) (k m i j : Nat) : VM :=
  ⟨⟨5, 140, [(18, .int .i64 i), (17, .slice (some ⟨2, 0, none⟩) j 1), (15, .pointer (some ⟨1, 0, none⟩)), (12, .int .i64 k), (11, .int .i64 m), (9, .pointer (some ⟨0, 0, none⟩)), (1, .bool u)],
    [.code k5_47, .inLoop k5_47, .inBlock 2, .code k5_56], [], false, none⟩, [],
    [(0, .cells [.int .i64 a, .int .i64 b]), (1, .cells [.bool u, .int .i64 k]), (2, .row true (bools (List.replicate j (!u))))], 3⟩
theorem loop5b (a b : Int) (u : Bool) (k m : Nat) (hr : (1 ≤ a ∧ a ≤ 100) ∧ 1 ≤ b ∧ b ≤ 100) (hm : (m : Int) = must a b u) (hkm : k < m) : ∀ (d i j : Nat), i + d = m → i = k + j → 1 ≤ j →
    Leads Try.prog 5 0 (head5b a b u k m i j) (fun v _ _ => v = .bool true) := by
  have hm100 : m ≤ 100 := by unfold must at hm; split at hm <;> omega
  intro d
  induction d with
  | zero =>
    intro i j hi hj h1
    refine ev_ok tab_ok sums8_ok true 500 ?_
    conv => whnf
    refine br.neg (by simp; omega) ?_
    conv => whnf
    obtain ⟨j', rfl⟩ : ∃ j', j = j' + 1 := ⟨j - 1, by omega⟩
    have hlen : (bools (List.replicate (j' + 1) (!u))).length = j' + 1 := by rw [bools_len, List.length_replicate]
    refine sumK.intro (run_sum a b u k (xs := List.replicate (j' + 1) (!u)) rfl rfl (by rw [hlen]; omega) (by rw [List.drop_zero]; exact List.take_of_length_le (by rw [hlen]; omega)) (by omega)) ?_
    have hmay : may a b ((k : Int) + j') = true := (may_iff _ _ _).2 ⟨hr, by omega, by omega⟩
    have f1 : (List.replicate (j' + 1) (!u)).foldl (hstep a b) ⟨u, k, 0⟩ = ⟨!u, 0, 1⟩ := by
      rw [List.replicate_succ', List.foldl_append, rep_fold hr j' k 0 (by omega) (by omega)]
      exact turn_step hmay (by omega)
    have f2 : (List.replicate j' (!u)).foldl (hstep a b) ⟨u, k, 0⟩ = ⟨u, (k : Int) + j', 0⟩ := rep_fold hr j' k 0 (by omega) (by omega)
    rw [f1]
    conv => whnf
    refine req.intro (by simp; omega) ?_
    conv => whnf
    refine sumK.intro (run_sum a b u k (xs := List.replicate j' (!u)) rfl rfl (by rw [hlen]; simp; omega) (by simp [rep_bools]) (by simp; omega)) ?_
    rw [f2]
    cases u
    all_goals
      conv => whnf
      repeat (refine br.pos (by simp) ?_; conv => whnf)
  | succ d ih =>
    intro i j hi hj h1
    have hw : IntKind.wrap .i64 ((i : Int) + 1) = ((i + 1 : Nat) : Int) := by rw [wrap64 _ (by omega)]; omega
    cases u
    all_goals
      refine ev_ok tab_ok sums8_ok true 500 ?_
      conv => whnf
      refine br.pos (by simp; omega) ?_
      conv => whnf
      refine req.intro (by rw [Bool.and_eq_true, Bool.and_eq_true, decide_eq_true_eq]; exact ⟨⟨⟨by omega, by rw [bools_len, List.length_replicate]; omega, rfl, rfl⟩, rfl⟩, rfl⟩) ?_
      conv => whnf
      rw [hw]
      refine Leads.re (ih (i + 1) (j + 1) (by omega) (by omega) (by omega)) [(0, 0), (1, 1), (2, 4)] rfl ?_ ?_
      · repeat' first | exact trivial | refine ⟨⟨_, rfl, rfl⟩, ?_⟩
      · refine ⟨⟨_, _, rfl, rfl, .cells rfl⟩, ⟨_, _, rfl, rfl, .cells rfl⟩, ⟨_, _, rfl, rfl, rowEq ?_ (flat_bools _)⟩, trivial⟩
        rw [List.drop_zero, List.take_of_length_le (by rw [bools_len, List.length_replicate]; omega)]
        exact bools_app j _

theorem run_nil (a b : Int) (u : Bool) (n : Int) (H : Hp) (top : Nat) :
    sumRun sRun [.agg ⟨[.int .i64 a, .int .i64 b]⟩, .agg ⟨[.bool u, .int .i64 n]⟩, .slice none 0 0] H top = some (hval ⟨u, n, 0⟩, H, top) := rfl

def start5b (a b : Int) (u : Bool) (k m : Nat) : VM :=
  ⟨⟨5, 140, [(18, .int .i64 k), (17, .slice none 0 0), (15, .pointer (some ⟨1, 0, none⟩)), (12, .int .i64 k), (11, .int .i64 m), (9, .pointer (some ⟨0, 0, none⟩)), (1, .bool u)],
    [.code k5_47, .inLoop k5_47, .inBlock 2, .code k5_56], [], false, none⟩, [],
    [(0, .cells [.int .i64 a, .int .i64 b]), (1, .cells [.bool u, .int .i64 k])], 2⟩
theorem begin5b (a b : Int) (u : Bool) (k m : Nat) (hr : (1 ≤ a ∧ a ≤ 100) ∧ 1 ≤ b ∧ b ≤ 100) (hm : (m : Int) = must a b u) (hkm : k < m) : Leads Try.prog 5 0 (start5b a b u k m) (fun v _ _ => v = .bool true) := by
  have hm100 : m ≤ 100 := by unfold must at hm; split at hm <;> omega
  have hw : IntKind.wrap .i64 ((k : Int) + 1) = ((k + 1 : Nat) : Int) := by rw [wrap64 _ (by omega)]; omega
  cases u
  all_goals
    refine ev_ok tab_ok sums8_ok true 500 ?_
    conv => whnf
    refine br.pos (by simp; omega) ?_
    conv => whnf
    rw [hw]
    refine Leads.re (loop5b a b _ k m hr hm hkm (m - k - 1) (k + 1) 1 (by omega) (by omega) (by omega)) [(0, 0), (1, 1), (2, 3)] rfl ?_ ?_
    · repeat' first | exact trivial | refine ⟨⟨_, rfl, rfl⟩, ?_⟩
    · exact ⟨⟨_, _, rfl, rfl, .cells rfl⟩, ⟨_, _, rfl, rfl, .cells rfl⟩, ⟨_, _, rfl, rfl, rowEq rfl (flat_bools _)⟩, trivial⟩

theorem need_must {a b : Int} {u : Bool} {k m : Nat} (hr : (1 ≤ a ∧ a ≤ 100) ∧ 1 ≤ b ∧ b ≤ 100) (hm : (m : Int) = must a b u) (hkm : k < m) : (need a b u k != IntKind.wrap .i64 ((m : Int) - k)) = false := by
  have hm100 : m ≤ 100 := by unfold must at hm; split at hm <;> omega
  have hmay : may a b k = true := (may_iff _ _ _).2 ⟨hr, by omega, by omega⟩
  rw [wrap64 _ (by omega)]
  unfold must at hm
  simp only [need, hmay, if_true, bne_eq_false_iff_eq]
  omega

/-- the first loop's head -/
def head5a (a b : Int) (u bk : Bool) (k m i : Nat) : VM :=
  ⟨⟨5, 140, [(14, .int .i64 i), (13, .slice (some ⟨2, 0, none⟩) i 1), (12, .int .i64 k), (11, .int .i64 m), (10, .pointer (some ⟨1, 0, none⟩)), (9, .pointer (some ⟨0, 0, none⟩)), (1, .bool u), (3, .bool bk)],
    [.code k5_22, .inLoop k5_22, .inBlock 0, .code k5_61], [], false, none⟩, [],
    [(0, .cells [.int .i64 a, .int .i64 b]), (1, .cells [.bool u, .int .i64 0]), (2, .row true (bools (List.replicate i (!u))))], 3⟩
theorem loop5a (a b : Int) (u bk : Bool) (k m : Nat) (hr : (1 ≤ a ∧ a ≤ 100) ∧ 1 ≤ b ∧ b ≤ 100) (hm : (m : Int) = must a b u) (hkm : k < m) : ∀ (d i : Nat), i + d = k → 1 ≤ i →
    Leads Try.prog 5 0 (head5a a b u bk k m i) (fun v _ _ => v = .bool true) := by
  have hm100 : m ≤ 100 := by unfold must at hm; split at hm <;> omega
  intro d
  induction d with
  | zero =>
    intro i hi h1
    have hik : i = k := by omega
    subst hik
    have hlen : (bools (List.replicate i (!u))).length = i := by rw [bools_len, List.length_replicate]
    refine ev_ok tab_ok sums8_ok true 500 ?_
    conv => whnf
    refine br.neg (by simp) ?_
    conv => whnf
    cases bk
    · conv => whnf
      refine sumK.intro (run_sum a b u 0 (xs := List.replicate i (!u)) rfl rfl (by rw [hlen]; omega) (by rw [List.drop_zero]; exact List.take_of_length_le (by rw [hlen]; omega)) (by omega)) ?_
      rw [rep_fold hr i 0 0 (by omega) (by omega), Int.zero_add]
      cases u
      all_goals
        conv => whnf
        repeat (first | refine br.neg (need_must hr hm hkm) ?_ | refine br.neg (by simp) ?_); conv => whnf
        refine Leads.re (begin5b a b _ i m hr hm hkm) [(0, 0), (1, 3)] rfl ?_ ?_
        · repeat' first | exact trivial | refine ⟨⟨_, rfl, rfl⟩, ?_⟩
        · exact ⟨⟨_, _, rfl, rfl, .cells rfl⟩, ⟨_, _, rfl, rfl, .cells rfl⟩, trivial⟩
    · have f0 : (List.replicate i (!u) ++ [u]).foldl (hstep a b) ⟨u, 0, 0⟩ = ⟨u, 0, 0⟩ := by
        rw [List.foldl_append, rep_fold hr i 0 0 (by omega) (by omega)]
        exact same_step ((may_iff _ _ _).2 ⟨hr, by omega, by omega⟩)
      cases u
      all_goals
        conv => whnf
        refine req.intro (by rw [Bool.and_eq_true, Bool.and_eq_true, decide_eq_true_eq]; exact ⟨⟨⟨by omega, by rw [bools_len, List.length_replicate]; omega, rfl, rfl⟩, rfl⟩, rfl⟩) ?_
        conv => whnf
        have key : ∀ (v : Bool) X, X = bools (List.replicate i (!v)) ++ [.bool v] → 0 + (i + 1) ≤ X.length ∧ (X.drop 0).take (i + 1) = bools (List.replicate i (!v) ++ [v]) := fun v X hX => by
          have hl : X.length = i + 1 := by rw [hX, List.length_append, bools_len, List.length_replicate]; rfl
          refine ⟨by omega, ?_⟩
          rw [List.drop_zero, List.take_of_length_le (by omega), hX]; simp [bools]
        have hX : ∀ v : Bool, List.take (i * 1) (List.drop 0 (bools (List.replicate i (!v)))) ++ [Value.bool v] = bools (List.replicate i (!v)) ++ [.bool v] := fun v => by
          rw [List.drop_zero, List.take_of_length_le (by rw [bools_len, List.length_replicate]; omega)]
        first
        | refine sumK.intro (run_sum a b false 0 (xs := List.replicate i (!false) ++ [false]) rfl rfl (key _ _ (hX false)).1 (key _ _ (hX false)).2 (by omega)) ?_
        | refine sumK.intro (run_sum a b true 0 (xs := List.replicate i (!true) ++ [true]) rfl rfl (key _ _ (hX true)).1 (key _ _ (hX true)).2 (by omega)) ?_
        rw [f0]
        conv => whnf
        repeat (first | refine br.neg (need_must (k := 0) hr hm (by omega)) ?_ | refine br.neg (by simp) ?_); conv => whnf
        refine Leads.re (begin5b a b _ 0 m hr hm (by omega)) [(0, 0), (1, 5)] rfl ?_ ?_
        · repeat' first | exact trivial | refine ⟨⟨_, rfl, rfl⟩, ?_⟩
        · exact ⟨⟨_, _, rfl, rfl, .cells rfl⟩, ⟨_, _, rfl, rfl, .cells rfl⟩, trivial⟩
  | succ d ih =>
    intro i hi h1
    have hw : IntKind.wrap .i64 ((i : Int) + 1) = ((i + 1 : Nat) : Int) := by rw [wrap64 _ (by omega)]; omega
    cases u
    all_goals
      refine ev_ok tab_ok sums8_ok true 500 ?_
      conv => whnf
      refine br.pos (by simp; omega) ?_
      conv => whnf
      refine req.intro (by rw [Bool.and_eq_true, Bool.and_eq_true, decide_eq_true_eq]; exact ⟨⟨⟨by omega, by rw [bools_len, List.length_replicate]; omega, rfl, rfl⟩, rfl⟩, rfl⟩) ?_
      conv => whnf
      rw [hw]
      refine Leads.re (ih (i + 1) (by omega) (by omega)) [(0, 0), (1, 1), (2, 4)] rfl ?_ ?_
      · repeat' first | exact trivial | refine ⟨⟨_, rfl, rfl⟩, ?_⟩
      · refine ⟨⟨_, _, rfl, rfl, .cells rfl⟩, ⟨_, _, rfl, rfl, .cells rfl⟩, ⟨_, _, rfl, rfl, rowEq ?_ (flat_bools _)⟩, trivial⟩
        rw [List.drop_zero, List.take_of_length_le (by rw [bools_len, List.length_replicate]; omega)]
        exact bools_app i _

def start5a (a b : Int) (u bk : Bool) (k m : Nat) : VM :=
  ⟨⟨5, 140, [(14, .int .i64 0), (13, .slice none 0 0), (12, .int .i64 k), (11, .int .i64 m), (10, .pointer (some ⟨1, 0, none⟩)), (9, .pointer (some ⟨0, 0, none⟩)), (1, .bool u), (3, .bool bk)],
    [.code k5_22, .inLoop k5_22, .inBlock 0, .code k5_61], [], false, none⟩, [],
    [(0, .cells [.int .i64 a, .int .i64 b]), (1, .cells [.bool u, .int .i64 0])], 2⟩
theorem begin5a (a b : Int) (u bk : Bool) (k m : Nat) (hr : (1 ≤ a ∧ a ≤ 100) ∧ 1 ≤ b ∧ b ≤ 100) (hm : (m : Int) = must a b u) (hkm : k < m) : Leads Try.prog 5 0 (start5a a b u bk k m) (fun v _ _ => v = .bool true) := by
  have hm100 : m ≤ 100 := by unfold must at hm; split at hm <;> omega
  rcases Nat.eq_zero_or_pos k with h0 | h0
  · subst h0
    cases bk
    · cases u
      all_goals
        refine ev_ok tab_ok sums8_ok true 500 ?_
        conv => whnf
        refine br.neg (need_must (k := 0) hr hm hkm) ?_
        conv => whnf
        refine Leads.re (begin5b a b _ 0 m hr hm hkm) [(0, 0), (1, 2)] rfl ?_ ?_
        · repeat' first | exact trivial | refine ⟨⟨_, rfl, rfl⟩, ?_⟩
        · exact ⟨⟨_, _, rfl, rfl, .cells rfl⟩, ⟨_, _, rfl, rfl, .cells rfl⟩, trivial⟩
    · have hmay : may a b 0 = true := (may_iff _ _ _).2 ⟨hr, by omega, by omega⟩
      cases u
      all_goals
        refine ev_ok tab_ok sums8_ok true 500 ?_
        conv => whnf
        first
        | rw [show List.foldl (hstep a b) ⟨false, 0, 0⟩ [false] = ⟨false, 0, 0⟩ from same_step hmay]
        | rw [show List.foldl (hstep a b) ⟨true, 0, 0⟩ [true] = ⟨true, 0, 0⟩ from same_step hmay]
        conv => whnf
        repeat (first | refine br.neg (need_must (k := 0) hr hm (by omega)) ?_ | refine br.neg (by simp) ?_); conv => whnf
        refine Leads.re (begin5b a b _ 0 m hr hm hkm) [(0, 0), (1, 4)] rfl ?_ ?_
        · repeat' first | exact trivial | refine ⟨⟨_, rfl, rfl⟩, ?_⟩
        · exact ⟨⟨_, _, rfl, rfl, .cells rfl⟩, ⟨_, _, rfl, rfl, .cells rfl⟩, trivial⟩
  · cases u
    all_goals
      refine ev_ok tab_ok sums8_ok true 500 ?_
      conv => whnf
      refine br.pos (by simp; omega) ?_
      conv => whnf
      refine Leads.re (loop5a a b _ bk k m hr hm hkm (k - 1) 1 (by omega) (by omega)) [(0, 0), (1, 1), (2, 3)] rfl ?_ ?_
      · repeat' first | exact trivial | refine ⟨⟨_, rfl, rfl⟩, ?_⟩
      · exact ⟨⟨_, _, rfl, rfl, .cells rfl⟩, ⟨_, _, rfl, rfl, .cells rfl⟩, ⟨_, _, rfl, rfl, rowEq rfl (flat_bools _)⟩, trivial⟩

theorem law5 (a b : Int) (u : Bool) (n : Int) (bk : Bool) (hn : 0 ≤ n ∧ n < 256) :
    Leads Try.prog 5 0 ⟨⟨5, 140, [(0, .agg ⟨[.int .i64 a, .int .i64 b]⟩), (1, .bool u), (2, .int .u8 n), (3, .bool bk)], [.code k5_69], [], false, none⟩, [], [], 0⟩
      (fun v _ _ => v = .bool true) := by
  have hw1 : IntKind.wrap .i64 n = n := wrap64 _ (by omega)
  refine ev_ok tab_ok sums8_ok true 500 ?_
  conv => whnf
  refine br.intro (fun h => ?_) (fun h => ?_) <;> conv => whnf
  have hr := (right_iff a b).1 (by simpa using h)
  have go : ∀ u, ∃ m k : Nat, (m : Int) = must a b u ∧ n.tmod (must a b u) = k ∧ k < m := fun u => by
    have h1 : 1 ≤ must a b u := by unfold must; split <;> omega
    have hk0 := Int.tmod_nonneg (must a b u) hn.1
    have hk1 := Int.tmod_lt_of_pos n (show 0 < must a b u by omega)
    exact ⟨(must a b u).toNat, (n.tmod (must a b u)).toNat, Int.toNat_of_nonneg (by omega), (Int.toNat_of_nonneg hk0).symm, by omega⟩
  obtain ⟨m, k, h1, h2, h3⟩ := go u
  have hb := begin5a a b u bk k m hr h1 h3
  cases u
  all_goals
    simp only [must, Bool.false_eq_true, if_false, if_true] at h1 h2
    subst h1
    conv => whnf
    refine req.intro (by simp; omega) ?_
    conv => whnf
    rw [hw1, h2]
    refine Leads.re hb [(0, 1), (1, 2)] rfl ?_ ?_
    · repeat' first | exact trivial | refine ⟨⟨_, rfl, rfl⟩, ?_⟩
    · exact ⟨⟨_, _, rfl, rfl, .cells rfl⟩, ⟨_, _, rfl, rfl, .cells rfl⟩, trivial⟩
end Go.Vm.Code
