import Derived.Test.YtgkpojcckgbcjaaT1
namespace Go.Vm.Code
open Go Go.Vm Go.Proofs

def sAwake : Summ := ⟨[], fun _ => some (.bool true, none)⟩
set_option maxRecDepth 20000 in
theorem awake_ok : SumOK Try.prog 15 sAwake := by
  refine SumOK.of_leads tab_ok ?_ ⟨Try.f15, rfl, by decide, rfl⟩
  intro ar v new ha hr
  cases ar with
  | cons a ar => exact ha.elim
  | nil =>
    cases hr
    refine ⟨_, rfl, ?_⟩
    refine ev_ok tab_ok SumsOK.none false 2000 ?_
    conv => whnf
    rfl

def sLearn : Summ := ⟨[none, none], fun ar => match ar with
  | [.v (.int .i64 a), .v (.int .i64 b)] => some (.int .i64 (lrn a b), none)
  | _ => none⟩
theorem learn_ok : SumOK Try.prog 16 sLearn := by
  refine SumOK.of_leads tab_ok ?_ ⟨Try.f16, rfl, by decide, rfl⟩
  intro ar v new ha hr
  simp only [sLearn] at hr
  split at hr
  · rename_i a b
    cases hr
    refine ⟨_, rfl, ?_⟩
    exact learn a b
  · cases hr
def unI : List Value → Option (List Int)
  | [] => some []
  | .int .i64 n :: l => match unI l with
    | some m => some (n :: m)
    | none => none
  | _ :: _ => none
theorem unI_ints : ∀ (xs : List Int), unI (ints xs) = some xs
  | [] => rfl
  | x :: xs => by
    have := unI_ints xs
    simp only [ints] at this
    simp only [ints, List.map_cons, unI, this]
theorem unI_eq : ∀ {cs : List Value} {xs : List Int}, unI cs = some xs → cs = ints xs
  | [], xs, h => by simp only [unI, Option.some.injEq] at h; subst h; rfl
  | c :: cs, xs, h => by
    unfold unI at h
    split at h
    · rename_i e; cases e
    · rename_i n l e
      cases e
      split at h
      · rename_i m hm; cases h; rw [unI_eq hm]; rfl
      · cases h
    · cases h

def sLeast : Summ := ⟨[some 1], fun ar => match ar with
  | [.sl n cs] => if n < 2 ^ 60 then (match unI cs with
    | some xs => some (.int .i64 (xs.foldl lrn 9000), none)
    | none => none) else none
  | _ => none⟩
theorem least_ok : SumOK Try.prog 17 sLeast := by
  refine SumOK.of_leads tab_ok ?_ ⟨Try.f17, rfl, by decide, rfl⟩
  intro ar v new ha hr
  simp only [sLeast] at hr
  split at hr
  · rename_i n cs
    split at hr <;> try (cases hr; done)
    rename_i hn
    split at hr <;> try (cases hr; done)
    rename_i xs hxs
    cases hr
    have := unI_eq hxs
    subst this
    obtain ⟨hl, _, _⟩ := ha
    refine ⟨_, rfl, ?_⟩
    exact least xs n (by simpa [ints] using hl) hn
  · cases hr

def sums : List (Nat × Summ) := [(16, sLearn), (17, sLeast), (15, sAwake)]
theorem sums_ok : SumsOK Try.prog (aget sums) := SumsOK.of_tab ⟨learn_ok, least_ok, awake_ok, trivial⟩

/-! plain law -/
theorem lrn_comm (m x y : Int) : lrn (lrn m x) y = lrn (lrn m y) x := by
  unfold lrn; (repeat' split) <;> omega
theorem lrn_fold_comm : ∀ (xs : List Int) (m x : Int), xs.foldl lrn (lrn m x) = lrn (xs.foldl lrn m) x
  | [], _, _ => rfl
  | y :: ys, m, x => by rw [List.foldl_cons, List.foldl_cons, lrn_comm, lrn_fold_comm ys]
theorem lrn_rev : ∀ (xs : List Int) (m : Int), xs.reverse.foldl lrn m = xs.foldl lrn m
  | [], _ => rfl
  | x :: xs, m => by rw [List.reverse_cons, List.foldl_append, List.foldl_cons, lrn_rev xs, List.foldl_nil, List.foldl_cons, lrn_fold_comm]
theorem lrn_le (m x : Int) : lrn m x ≤ m := by unfold lrn; split <;> omega
theorem lrn_ge (m x : Int) (h : 576 ≤ m) : 576 ≤ lrn m x := by unfold lrn; split <;> omega
theorem lrn_min (k : Int) (hk : 576 ≤ k) (hk' : k ≤ 9000) : ∀ (xs : List Int) (m m' : Int), 576 ≤ m → (m' = min k m) → xs.foldl lrn m' = min k (xs.foldl lrn m)
  | [], _, _, _, h => h
  | x :: xs, m, m', h1, h2 => by
    rw [List.foldl_cons, List.foldl_cons]
    refine lrn_min k hk hk' xs _ _ (lrn_ge m x h1) ?_
    unfold lrn; (repeat' split) <;> omega

theorem flat_ints : ∀ (xs : List Int), flatV.flatL (ints xs) = true
  | [] => rfl
  | x :: xs => by have := flat_ints xs; simp only [ints] at this; simp only [ints, List.map_cons, flatV.flatL, flatV, this, Bool.and_self]
theorem least_sum (xs : List Int) (n : Nat) (hn : xs.length = n) (hb : n ≤ 20) : sumRun sLeast [.slice (some ⟨0, 0, none⟩) n 1] [(0, .row false (ints xs))] 1 = some (.int .i64 (xs.foldl lrn 9000), [(0, .row false (ints xs))], 1) := by
  have h1 : (ints xs).take n = ints xs := List.take_of_length_le (by simp [ints, hn])
  have h2 : n ≤ (ints xs).length := by simp [ints, hn]
  have h3 : n < 2 ^ 60 := by omega
  have h4 : readArgs [(0, .row false (ints xs))] [some 1] [.slice (some ⟨0, 0, none⟩) n 1] = some [.sl n (ints xs)] := by
    simp [readArgs, readArg, aget, VObj.cs, h1, h2, flat_ints]
  have h5 : sLeast.run [.sl n (ints xs)] = some (.int .i64 (xs.foldl lrn 9000), none) := by
    simp only [sLeast]; rw [if_pos h3, unI_ints]
  simp only [sumRun, show sLeast.modes = [some 1] from rfl, h4, h5, renV]

def lawHead (n i : Nat) (k a b : Int) (H : Hp) : VM :=
  ⟨⟨3, 79, [(8, .int .i64 i), (7, .int .i64 b), (6, .int .i64 a), (5, .int .i64 k), (1, .slice (some ⟨0, 0, none⟩) n 1)], [.code k3_26, .inLoop k3_26, .inBlock 0, .code k3_31], [], false, none⟩, [], H, 1⟩
set_option maxRecDepth 20000 in
theorem law_loop (xs : List Int) (n : Nat) (hn : xs.length = n) (hb : n ≤ 20) (k : Int) (hk : 576 ≤ k ∧ k ≤ 9000) : ∀ (d i : Nat) (a b : Int), i + d = n → a = (xs.take i).foldl lrn k → b = (xs.reverse.take i).foldl lrn k → 576 ≤ a →
    Leads Try.prog 3 1 (lawHead n i k a b [(0, .row false (ints xs))]) (fun v _ _ => v = .bool true) := by
  intro d
  induction d with
  | zero =>
    intro i a b hi ha hb' hge
    refine ev_ok tab_ok sums_ok true 500 ?_
    conv => whnf
    refine br.neg (by simp; omega) ?_
    conv => whnf
    have hi' : i = xs.length := by omega
    subst hi'
    rw [List.take_length] at ha
    rw [← List.length_reverse, List.take_length, lrn_rev] at hb'
    have hmin := lrn_min k hk.1 hk.2 xs 9000 k (by omega) (by omega)
    refine br.pos (by simp [ha, hb']) ?_
    conv => whnf
    refine sumK.intro (least_sum xs n hn hb) ?_
    conv => whnf
    refine br.intro (fun h1 => ?_) (fun h1 => ?_) <;> conv => whnf
    · simp only [decide_eq_true_eq] at h1
      refine br.pos (by simp; omega) ?_
      conv => whnf
    · simp only [decide_eq_false_iff_not] at h1
      refine sumK.intro (least_sum xs n hn hb) ?_
      conv => whnf
      refine br.pos (by simp; omega) ?_
      conv => whnf
      refine sumK.intro (least_sum xs n hn hb) ?_
      conv => whnf
      refine br.pos (by simp; omega) ?_
      conv => whnf
  | succ d ih =>
    intro i a b hi ha hb' hge
    refine ev_ok tab_ok sums_ok true 500 ?_
    conv => whnf
    refine br.pos (by simp; omega) ?_
    conv => whnf
    have hlt : i < xs.length := by omega
    refine req.intro (by simp; omega) ?_
    conv => whnf
    refine rd.intro (v := .int .i64 xs[i]) (by simp [ints, hlt]) ?_
    conv => whnf
    have hle := lrn_le a xs[i]
    have hge' := lrn_ge a xs[i] hge
    refine br.neg (by simp; omega) ?_
    conv => whnf
    refine br.neg (by simp; omega) ?_
    conv => whnf
    have hw : IntKind.wrap .i64 (IntKind.wrap .i64 ((n : Int) - 1) - i) = ((n - 1 - i : Nat) : Int) := by
      rw [wrap64 ((n : Int) - 1) (by omega), wrap64 ((n : Int) - 1 - i) (by omega)]; omega
    refine req.intro (by rw [hw]; simp; omega) ?_
    conv => whnf
    refine rd.intro (v := .int .i64 xs[n - 1 - i]) (by rw [hw]; simp [ints]) ?_
    conv => whnf
    have hw2 : IntKind.wrap .i64 ((i : Int) + 1) = ((i + 1 : Nat) : Int) := by rw [wrap64 _ (by omega)]; omega
    refine Leads.env (ih (i + 1) _ _ (by omega) ?_ ?_ hge') ⟨congrArg (fun n => some (Value.int .i64 n)) hw2, rfl, rfl, rfl, rfl, trivial⟩
    · rw [List.take_succ_eq_append_getElem hlt, List.foldl_append, ← ha]; rfl
    · have hr : i < xs.reverse.length := by simpa using hlt
      rw [List.take_succ_eq_append_getElem hr, List.foldl_append, ← hb', List.getElem_reverse]; simp only [hn]; rfl

set_option maxRecDepth 20000 in
theorem law (a0 : Int) (xs : List Int) (n : Nat) (hn : xs.length = n) (h0 : 0 ≤ a0 ∧ a0 < 65536) :
    Leads Try.prog 3 1 ⟨⟨3, 79, [(0, .int .u16 a0), (1, .slice (some ⟨0, 0, none⟩) n 1)], [.code k3_36], [], false, none⟩, [], [(0, .row false (ints xs))], 1⟩ (fun v _ _ => v = .bool true) := by
  refine ev_ok tab_ok sums_ok true 500 ?_
  conv => whnf
  refine br.intro (fun h1 => ?_) (fun h1 => ?_) <;> conv => whnf
  simp only [decide_eq_false_iff_not] at h1
  have hk : IntKind.wrap .i64 (576 + (IntKind.wrap .i64 a0).tmod 8425) = 576 + a0.tmod 8425 := by
    have h2 : 0 ≤ a0.tmod 8425 := Int.tmod_nonneg _ h0.1
    have h3 : a0.tmod 8425 < 8425 := Int.tmod_lt_of_pos _ (by decide)
    rw [wrap64 a0 (by omega), wrap64 _ (by omega)]
  have h2 : 0 ≤ a0.tmod 8425 := Int.tmod_nonneg _ h0.1
  have h3 : a0.tmod 8425 < 8425 := Int.tmod_lt_of_pos _ (by decide)
  rw [hk]
  exact Leads.env (law_loop xs n hn (by omega) (576 + a0.tmod 8425) (by omega) n 0 _ _ (by omega) rfl rfl (by simp; omega)) ⟨rfl, rfl, rfl, rfl, rfl, trivial⟩
end Go.Vm.Code
