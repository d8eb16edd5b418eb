import Derived.Test.YtgkpojcckgbcjaaH1
namespace Go.Vm.Code
open Go Go.Vm Go.Proofs
set_option maxRecDepth 20000
def bools (xs : List Bool) : List Value := xs.map .bool
def sums6 : List (Nat × Summ) := (26, sFlat 3 gPut) :: (27, sFlat 3 gPut) :: (25, sFlat 2 gNeed) :: sums5
theorem sums6_ok : SumsOK Try.prog (aget sums6) := SumsOK.of_tab ⟨put_ok, rput_ok, rneed_ok, may_ok, rright_ok, need_ok, right_ok, within_ok, trivial⟩

structure HS where
  u : Bool
  n : Int
  c : Int
def hstep (a b : Int) (s : HS) (g : Bool) : HS := ⟨(put a b s.u s.n g).1.1, (put a b s.u s.n g).1.2, if (put a b s.u s.n g).2 then s.c + 1 else s.c⟩
def hval (s : HS) : Value := .tuple ⟨[.agg ⟨[.bool s.u, .int .i64 s.n]⟩, .int .i64 s.c]⟩

def head20 (a b : Int) (len i : Nat) (s : HS) (xs : List Bool) : VM :=
  ⟨⟨20, 28, [(16, .int .i64 i), (15, .int .i64 len), (14, .slice (some ⟨0, 0, none⟩) len 1), (9, .int .i64 s.c), (8, .func (.func 91) ⟨[]⟩ ⟨[.pointer (some ⟨4, 0, none⟩), .pointer (some ⟨5, 0, none⟩)]⟩),
    (6, .pointer (some ⟨3, 0, none⟩)), (4, .pointer (some ⟨2, 0, none⟩))], [.code k20_15, .inLoop k20_15, .inBlock 0, .code k20_20], [], false, none⟩, [],
    [(5, .cells [.pointer (some ⟨2, 0, none⟩)]), (4, .cells [.int .i64 a, .int .i64 b]), (2, .cells [.bool s.u, .int .i64 s.n]), (3, .cells [.bool false, .int .i64 0]), (0, .row false (bools xs))], 6⟩

theorem flat_bools (xs : List Bool) : flatV.flatL (bools xs) = true := flatL_map (fun _ => rfl) xs
theorem bools_len (xs : List Bool) : (bools xs).length = xs.length := by simp [bools]

theorem loop20 (a b : Int) (xs : List Bool) (len : Nat) (hl : xs.length = len) (hb : len < 2 ^ 60) : ∀ (k i : Nat) (s : HS), i + k = len → 0 ≤ s.c ∧ s.c ≤ i →
    Leads Try.prog 20 1 (head20 a b len i s xs) (fun v _ _ => v = hval ((xs.drop i).foldl (hstep a b) s)) := by
  intro k
  induction k with
  | zero =>
    intro i s hi hc
    refine ev_ok tab_ok sums6_ok true 500 ?_
    conv => whnf
    refine br.neg (by simp; omega) ?_
    conv => whnf
    rw [List.drop_eq_nil_of_le (by omega)]; rfl
  | succ k ih =>
    intro i s hi hc
    have hlt : i < xs.length := by omega
    rw [List.drop_eq_getElem_cons hlt, List.foldl_cons]
    refine ev_ok tab_ok sums6_ok true 500 ?_
    conv => whnf
    refine br.pos (by simp; omega) ?_
    conv => whnf
    refine req.intro (by simp; omega) ?_
    conv => whnf
    refine rd.intro (v := .bool xs[i]) (by simp [bools, hlt]) ?_
    conv => whnf
    have hw : IntKind.wrap .i64 ((i : Int) + 1) = ((i + 1 : Nat) : Int) := by rw [wrap64 _ (by omega)]; omega
    have hw2 : IntKind.wrap .i64 (s.c + 1) = s.c + 1 := wrap64 _ (by omega)
    have hs : ∀ c, c = (hstep a b s xs[i]).c → hstep a b s xs[i] = ⟨(put a b s.u s.n xs[i]).1.1, (put a b s.u s.n xs[i]).1.2, c⟩ := fun c h => by subst h; rfl
    refine br.intro (fun h => ?_) (fun h => ?_) <;> conv => whnf
    · rw [hw, hw2, hs (s.c + 1) (by simp [hstep, h])]
      refine Leads.re (ih (i + 1) _ (by omega) (by simp only; omega)) [(0, 0), (2, 2), (3, 3), (4, 4), (5, 5)] rfl ?_ ?_
      · exact ⟨⟨_, rfl, rfl⟩, ⟨_, rfl, rfl⟩, ⟨_, rfl, rfl⟩, ⟨_, rfl, rfl⟩, ⟨_, rfl, rfl⟩, ⟨_, rfl, rfl⟩, ⟨_, rfl, rfl⟩, trivial⟩
      · exact ⟨⟨_, _, rfl, rfl, .cells rfl⟩, ⟨_, _, rfl, rfl, .cells rfl⟩, ⟨_, _, rfl, rfl, .cells rfl⟩, ⟨_, _, rfl, rfl, .cells rfl⟩, ⟨_, _, rfl, rfl, .rowF (flat_bools xs) id⟩, trivial⟩
    · rw [hw, hs s.c (by simp [hstep, h])]
      refine Leads.re (ih (i + 1) _ (by omega) (by simp only; omega)) [(0, 0), (2, 2), (3, 3), (4, 4), (5, 5)] rfl ?_ ?_
      · exact ⟨⟨_, rfl, rfl⟩, ⟨_, rfl, rfl⟩, ⟨_, rfl, rfl⟩, ⟨_, rfl, rfl⟩, ⟨_, rfl, rfl⟩, ⟨_, rfl, rfl⟩, ⟨_, rfl, rfl⟩, trivial⟩
      · exact ⟨⟨_, _, rfl, rfl, .cells rfl⟩, ⟨_, _, rfl, rfl, .cells rfl⟩, ⟨_, _, rfl, rfl, .cells rfl⟩, ⟨_, _, rfl, rfl, .cells rfl⟩, ⟨_, _, rfl, rfl, .rowF (flat_bools xs) id⟩, trivial⟩
theorem run20 (a b : Int) (u : Bool) (n : Int) (xs : List Bool) (len : Nat) (hl : xs.length = len) (hb : len < 2 ^ 60) :
    Leads Try.prog 20 1 ⟨⟨20, 28, [(0, .agg ⟨[.int .i64 a, .int .i64 b]⟩), (1, .agg ⟨[.bool u, .int .i64 n]⟩), (2, .slice (some ⟨0, 0, none⟩) len 1)], [.code k20_23], [], false, none⟩, [], [(0, .row false (bools xs))], 1⟩
      (fun v _ _ => v = hval (xs.foldl (hstep a b) ⟨u, n, 0⟩)) := by
  refine ev_ok tab_ok sums6_ok true 500 ?_
  conv => whnf
  refine Leads.re (loop20 a b xs len hl hb len 0 ⟨u, n, 0⟩ (by omega) (by simp only; omega)) [(0, 0), (2, 2), (3, 3), (4, 4), (5, 5)] rfl ?_ ?_
  · exact ⟨⟨_, rfl, rfl⟩, ⟨_, rfl, rfl⟩, ⟨_, rfl, rfl⟩, ⟨_, rfl, rfl⟩, ⟨_, rfl, rfl⟩, ⟨_, rfl, rfl⟩, ⟨_, rfl, rfl⟩, trivial⟩
  · exact ⟨⟨_, _, rfl, rfl, .cells rfl⟩, ⟨_, _, rfl, rfl, .cells rfl⟩, ⟨_, _, rfl, rfl, .cells rfl⟩, ⟨_, _, rfl, rfl, .cells rfl⟩, ⟨_, _, rfl, rfl, .rowF (flat_bools xs) id⟩, trivial⟩
end Go.Vm.Code
