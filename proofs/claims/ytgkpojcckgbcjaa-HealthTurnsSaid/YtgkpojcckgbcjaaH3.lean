import Derived.Test.YtgkpojcckgbcjaaH2
namespace Go.Vm.Code
open Go Go.Vm Go.Proofs
set_option maxRecDepth 20000

def head21 (a b : Int) (len i : Nat) (s : HS) (xs : List Bool) : VM :=
  ⟨⟨21, 34, [(9, .int .i64 i), (8, .int .i64 s.c), (6, .pointer (some ⟨3, 0, none⟩)), (4, .pointer (some ⟨2, 0, none⟩)), (3, .pointer (some ⟨1, 0, none⟩)), (2, .slice (some ⟨0, 0, none⟩) len 1)],
    [.code k21_17, .inLoop k21_17, .inBlock 0, .code k21_22], [], false, none⟩, [],
    [(1, .cells [.int .i64 a, .int .i64 b]), (2, .cells [.bool s.u, .int .i64 s.n]), (3, .cells [.bool false, .int .i64 0]), (0, .row false (bools xs))], 4⟩

theorem loop21 (a b : Int) (xs : List Bool) (len : Nat) (hl : xs.length = len) (hb : len < 2 ^ 60) : ∀ (k i : Nat) (s : HS), i + k = len → 0 ≤ s.c ∧ s.c ≤ i →
    Leads Try.prog 21 1 (head21 a b len i s xs) (fun v _ _ => v = hval ((xs.drop i).foldl (hstep a b) s)) := by
  intro k
  induction k with
  | zero =>
    intro i s hi hc
    refine ev_ok tab_ok sums6_ok true 500 ?_
    conv => whnf
    refine br.neg (by simp; omega) ?_
    conv => whnf
    rw [List.drop_eq_nil_of_le (by omega)]; rfl
  | succ k ih =>
    intro i s hi hc
    have hlt : i < xs.length := by omega
    rw [List.drop_eq_getElem_cons hlt, List.foldl_cons]
    refine ev_ok tab_ok sums6_ok true 500 ?_
    conv => whnf
    refine br.pos (by simp; omega) ?_
    conv => whnf
    refine req.intro (by simp; omega) ?_
    conv => whnf
    refine rd.intro (v := .bool xs[i]) (by simp [bools, hlt]) ?_
    conv => whnf
    have hw : IntKind.wrap .i64 ((i : Int) + 1) = ((i + 1 : Nat) : Int) := by rw [wrap64 _ (by omega)]; omega
    have hw2 : IntKind.wrap .i64 (s.c + 1) = s.c + 1 := wrap64 _ (by omega)
    have hs : ∀ c, c = (hstep a b s xs[i]).c → hstep a b s xs[i] = ⟨(put a b s.u s.n xs[i]).1.1, (put a b s.u s.n xs[i]).1.2, c⟩ := fun c h => by subst h; rfl
    refine br.intro (fun h => ?_) (fun h => ?_) <;> conv => whnf
    · rw [hw, hw2, hs (s.c + 1) (by simp [hstep, h])]
      refine Leads.re (ih (i + 1) _ (by omega) (by simp only; omega)) [(0, 0), (1, 1), (2, 2), (3, 3)] rfl ?_ ?_
      · repeat' first | exact trivial | refine ⟨⟨_, rfl, rfl⟩, ?_⟩
      · repeat' first | exact trivial | refine ⟨⟨_, _, rfl, rfl, .cells rfl⟩, ?_⟩ | refine ⟨⟨_, _, rfl, rfl, .rowF (flat_bools xs) id⟩, ?_⟩
    · rw [hw, hs s.c (by simp [hstep, h])]
      refine Leads.re (ih (i + 1) _ (by omega) (by simp only; omega)) [(0, 0), (1, 1), (2, 2), (3, 3)] rfl ?_ ?_
      · repeat' first | exact trivial | refine ⟨⟨_, rfl, rfl⟩, ?_⟩
      · repeat' first | exact trivial | refine ⟨⟨_, _, rfl, rfl, .cells rfl⟩, ?_⟩ | refine ⟨⟨_, _, rfl, rfl, .rowF (flat_bools xs) id⟩, ?_⟩
theorem run21 (a b : Int) (u : Bool) (n : Int) (xs : List Bool) (len : Nat) (hl : xs.length = len) (hb : len < 2 ^ 60) :
    Leads Try.prog 21 1 ⟨⟨21, 34, [(0, .agg ⟨[.int .i64 a, .int .i64 b]⟩), (1, .agg ⟨[.bool u, .int .i64 n]⟩), (2, .slice (some ⟨0, 0, none⟩) len 1)], [.code k21_25], [], false, none⟩, [], [(0, .row false (bools xs))], 1⟩
      (fun v _ _ => v = hval (xs.foldl (hstep a b) ⟨u, n, 0⟩)) := by
  refine ev_ok tab_ok sums6_ok true 500 ?_
  conv => whnf
  refine Leads.re (loop21 a b xs len hl hb len 0 ⟨u, n, 0⟩ (by omega) (by simp only; omega)) [(0, 0), (1, 1), (2, 2), (3, 3)] rfl ?_ ?_
  · repeat' first | exact trivial | refine ⟨⟨_, rfl, rfl⟩, ?_⟩
  · repeat' first | exact trivial | refine ⟨⟨_, _, rfl, rfl, .cells rfl⟩, ?_⟩ | refine ⟨⟨_, _, rfl, rfl, .rowF (flat_bools xs) id⟩, ?_⟩

def rRun : List SArg → Option SRes
  | [.v (.agg ⟨[.int .i64 a, .int .i64 b]⟩), .v (.agg ⟨[.bool u, .int .i64 n]⟩), .sl len cs] => match Nat.blt len (2 ^ 60) with
    | true => match unL asB cs with
      | some xs => some ⟨hval (xs.foldl (hstep a b) ⟨u, n, 0⟩), [], []⟩
      | none => none
    | false => none
  | _ => none
def sRun : Summ := ⟨[.v, .v, .sl 1], rRun⟩
theorem sRun_of {f : Nat} (h : ∀ (a b : Int) (u : Bool) (n : Int) (xs : List Bool) (len : Nat), xs.length = len → len < 2 ^ 60 →
      ∃ c, enterF (aget tab) f [.agg ⟨[.int .i64 a, .int .i64 b]⟩, .agg ⟨[.bool u, .int .i64 n]⟩, .slice (some ⟨0, 0, none⟩) len 1] = some c ∧ Leads Try.prog f 1 ⟨c, [], [(0, .row false (bools xs))], 1⟩ (fun v _ _ => v = hval (xs.foldl (hstep a b) ⟨u, n, 0⟩)))
    (hfn : ∃ fn, Try.prog.funcs[f]? = some fn ∧ fn.name ≠ "runtime.NumGoroutine" ∧ fn.body.isSome = true) : SumOK Try.prog f sRun := by
  refine SumOK.of_leads tab_ok (fun ar r ha hr => ?_) hfn
  simp only [sRun] at ha hr
  unfold rRun at hr
  split at hr <;> try (cases hr; done)
  rename_i a b u n len cs
  split at hr <;> try (cases hr; done)
  rename_i hb
  split at hr <;> cases hr
  rename_i xs hxs
  have hcs := unL_eq (g := Value.bool) asB_eq hxs
  subst hcs
  obtain ⟨_, _, hlen, _⟩ := ha
  obtain ⟨c, h1, h2⟩ := h a b u n xs len (by simpa using hlen) (Nat.blt_eq.mp hb)
  exact ⟨c, h1, h2.mono fun v _ _ e => by subst e; exact Res.val rfl trivial⟩
theorem run20_ok : SumOK Try.prog 20 sRun := sRun_of (fun a b u n xs len h1 h2 => ⟨_, rfl, run20 a b u n xs len h1 h2⟩) ⟨Try.f20, rfl, by decide, rfl⟩
theorem run21_ok : SumOK Try.prog 21 sRun := sRun_of (fun a b u n xs len h1 h2 => ⟨_, rfl, run21 a b u n xs len h1 h2⟩) ⟨Try.f21, rfl, by decide, rfl⟩

/-- a run, where the slice lies in whatever memory -/
theorem run_sum (a b : Int) (u : Bool) (n : Int) {H : Hp} {k o len : Nat} {ob : VObj} {cs : List Value} {xs : List Bool} {top : Nat} (h1 : aget H k = some ob) (h2 : ob.cs = some cs) (h3 : o + len ≤ cs.length) (h4 : (cs.drop o).take len = bools xs) (hb : len < 2 ^ 60) :
    sumRun sRun [.agg ⟨[.int .i64 a, .int .i64 b]⟩, .agg ⟨[.bool u, .int .i64 n]⟩, .slice (some ⟨k, o, none⟩) len 1] H top = some (hval (xs.foldl (hstep a b) ⟨u, n, 0⟩), H, top) := by
  have e1 : readArgs H sRun.modes [.agg ⟨[.int .i64 a, .int .i64 b]⟩, .agg ⟨[.bool u, .int .i64 n]⟩, .slice (some ⟨k, o, none⟩) len 1] = some [.v (.agg ⟨[.int .i64 a, .int .i64 b]⟩), .v (.agg ⟨[.bool u, .int .i64 n]⟩), .sl len (bools xs)] := by
    simp [sRun, readArgs, readArg, flatV, flatV.flatL, h1, h2, flatO, h3, h4, flat_bools]
  have e2 : sRun.run [.v (.agg ⟨[.int .i64 a, .int .i64 b]⟩), .v (.agg ⟨[.bool u, .int .i64 n]⟩), .sl len (bools xs)] = some ⟨hval (xs.foldl (hstep a b) ⟨u, n, 0⟩), [], []⟩ := by
    simp only [sRun, rRun, Nat.blt_eq.mpr hb]
    rw [show unL asB (bools xs) = some xs from unL_map (g := Value.bool) (fun _ => rfl) xs]
  unfold sumRun
  rw [e1]
  simp only [e2]
  rfl

def gOf : List Value → Option Value
  | [.agg ⟨[.int .i64 a, .int .i64 b]⟩, .agg ⟨[.bool u, .int .i64 n]⟩] => some (.tuple ⟨[.agg ⟨[.int .i64 a, .int .i64 b]⟩, .agg ⟨[.bool u, .int .i64 n]⟩]⟩)
  | _ => none
theorem of_ok : SumOK Try.prog 19 (sFlat 2 gOf) := by
  refine SumOK.of_flat tab_ok (fun vs v hl hg => ?_) ⟨Try.f19, rfl, by decide, rfl⟩
  unfold gOf at hg
  split at hg <;> cases hg
  refine ⟨_, rfl, ?_⟩
  refine ev_ok tab_ok SumsOK.none true 500 ?_
  conv => whnf

def sums7 : List (Nat × Summ) := (19, sFlat 2 gOf) :: (20, sRun) :: (21, sRun) :: sums6
theorem sums7_ok : SumsOK Try.prog (aget sums7) := SumsOK.of_tab ⟨of_ok, run20_ok, run21_ok, put_ok, rput_ok, rneed_ok, may_ok, rright_ok, need_ok, right_ok, within_ok, trivial⟩
def gTrue : List Value → Option Value
  | [] => some (.bool true)
  | _ => none
theorem awake_ok : SumOK Try.prog 18 (sFlat 0 gTrue) := by
  refine SumOK.of_flat tab_ok (fun vs v hl hg => ?_) ⟨Try.f18, rfl, by decide, rfl⟩
  unfold gTrue at hg
  split at hg <;> cases hg
  refine ⟨_, rfl, ?_⟩
  refine ev_ok tab_ok sums7_ok false 2000 ?_
  conv => whnf
  rfl
def sums8 : List (Nat × Summ) := (18, sFlat 0 gTrue) :: sums7
theorem sums8_ok : SumsOK Try.prog (aget sums8) := SumsOK.of_tab ⟨awake_ok, of_ok, run20_ok, run21_ok, put_ok, rput_ok, rneed_ok, may_ok, rright_ok, need_ok, right_ok, within_ok, trivial⟩
end Go.Vm.Code
