/- The engine, part 17: regions whose order is drawn: any order comes to the same. -/
import Derived.Test.YtgkpojcckgbcjaaVmDef
import Derived.Test.YtgkpojcckgbcjaaVmRel
namespace Go.Vm
open Go

abbrev St := Env × Hp
def EqS (s t : St) : Prop := (∀ i, aget s.1 i = aget t.1 i) ∧ (∀ i, aget s.2 i = aget t.2 i)
theorem EqS.refl (s : St) : EqS s s := ⟨fun _ => rfl, fun _ => rfl⟩
theorem EqS.symm {s t : St} (h : EqS s t) : EqS t s := ⟨fun i => (h.1 i).symm, fun i => (h.2 i).symm⟩
theorem EqS.trans {s t u : St} (h : EqS s t) (k : EqS t u) : EqS s u := ⟨fun i => (h.1 i).trans (k.1 i), fun i => (h.2 i).trans (k.2 i)⟩

/-- an operation of the region as it was carried out -/
structure Rec where
  i : Nat
  o : VOper
  m : Nat
  m1 : Nat
  r : List Nat
  w : List Nat

def Rec.wf (x : Rec) : List Nat := x.w ++ List.range' x.m (x.m1 - x.m)
def Runs (S : Sums) (nt : Nat) (x : Rec) (s t : St) : Prop := stepD S nt x.o s.1 s.2 x.m = some (t.1, t.2, x.m1, x.r, x.w)

def tw (o : VOper) : List Nat := (tmpFp o).2
def tr (o : VOper) : List Nat := (tmpFp o).1

/-! reading the same gives the same -/
theorem evalO_congr {e e2 : Env} {x : Operand} (h : ∀ t ∈ tmpsOf [x], aget e2 t = aget e t) : evalO e2 x = evalO e x := by
  cases x <;> simp only [evalO]
  exact h _ (by simp [tmpsOf])
theorem tmpsOf_cons {t : Nat} {x : Operand} {l : List Operand} : t ∈ tmpsOf (x :: l) ↔ t ∈ tmpsOf [x] ∨ t ∈ tmpsOf l := by
  cases x <;> simp [tmpsOf]
theorem evalL_congr {e e2 : Env} : ∀ {l : List Operand}, (∀ t ∈ tmpsOf l, aget e2 t = aget e t) → evalL e2 l = evalL e l
  | [], _ => rfl
  | x :: l, h => by
    simp only [evalL]
    rw [evalO_congr (fun t ht => h t (tmpsOf_cons.2 (.inl ht))), evalL_congr (fun t ht => h t (tmpsOf_cons.2 (.inr ht)))]
theorem wantedV_congr {e e2 : Env} {g : Option (Nat × Bool)} (h : ∀ t ∈ (match g with | some (d, _) => [d] | none => []), aget e2 t = aget e t) : wantedV e2 g = wantedV e g := by
  cases g with
  | none => rfl
  | some p => obtain ⟨d, w⟩ := p; simp only [wantedV]; rw [h d (by simp)]
theorem agets_congr {h h2 : Hp} : ∀ {l : List Nat}, (∀ b ∈ l, aget h2 b = aget h b) → agets h2 l = agets h l
  | [], _ => rfl
  | b :: l, hh => by
    simp only [agets]
    rw [hh b (by simp), agets_congr (fun c hc => hh c (by simp [hc]))]

theorem aputs_spec : ∀ (is : List Nat) (os : List (Option VObj)) (h h2 : Hp), (∀ b, b ∉ is → aget (aputs h is os) b = aget h b) ∧ ((∀ b ∈ is, aget h2 b = aget h b) → ∀ b ∈ is, aget (aputs h2 is os) b = aget (aputs h is os) b)
  | [], os, h, h2 => ⟨fun b _ => by simp [aputs], fun _ b hb => by cases hb⟩
  | i :: is, [], h, h2 => ⟨fun b _ => by simp [aputs], fun e b hb => by simp only [aputs]; exact e b hb⟩
  | i :: is, some o :: os, h, h2 => by
    simp only [aputs]
    have ih := aputs_spec is os (aput h i o) (aput h2 i o)
    refine ⟨fun b hb => ?_, fun e b hb => ?_⟩
    · rw [ih.1 b (fun h => hb (by simp [h])), aget_aput_ne _ _ (fun h => hb (by simp [h]))]
    · by_cases hbi : b ∈ is
      · exact ih.2 (fun c hc => by rw [aget_aput, aget_aput]; split; rfl; exact e c (by simp [hc])) b hbi
      · have hb' : b = i := by simpa [hbi] using hb
        subst hb'
        rw [ih.1 b hbi, (aputs_spec is os (aput h2 b o) (aput h2 b o)).1 b hbi, aget_aput_same, aget_aput_same]
  | i :: is, none :: os, h, h2 => by
    simp only [aputs]
    have ih := aputs_spec is os (adel h i) (adel h2 i)
    refine ⟨fun b hb => ?_, fun e b hb => ?_⟩
    · rw [ih.1 b (fun h => hb (by simp [h])), aget_adel_ne _ (fun h => hb (by simp [h]))]
    · by_cases hbi : b ∈ is
      · exact ih.2 (fun c hc => by rw [aget_adel, aget_adel]; split; rfl; exact e c (by simp [hc])) b hbi
      · have hb' : b = i := by simpa [hbi] using hb
        subst hb'
        rw [ih.1 b hbi, (aputs_spec is os (adel h2 b) (adel h2 b)).1 b hbi, aget_adel_same, aget_adel_same]

/-- what changed, in one memory and in another one that reads the same where it matters -/
def Loc1 (h h2 h' h2' : Hp) (W : List Nat) : Prop := (∀ b, b ∉ W → aget h' b = aget h b) ∧ (∀ b, b ∉ W → aget h2' b = aget h2 b) ∧ ∀ b ∈ W, aget h2' b = aget h' b

theorem wback_loc : ∀ (ws : List (Option Win)) (cs : List (List Value)) (h h2 h' : Hp), (∀ b ∈ winBlks ws, aget h2 b = aget h b) → wback h ws cs = some h' →
    ∃ h2', wback h2 ws cs = some h2' ∧ Loc1 h h2 h' h2' (winWr ws) ∧ ∀ b ∈ winBlks ws, aget h2' b = aget h' b
  | [], [], h, h2, h', he, hr => by
    simp only [wback, Option.some.injEq] at hr; subst hr
    exact ⟨h2, rfl, ⟨fun _ _ => rfl, fun _ _ => rfl, fun b hb => by simp [winWr] at hb⟩, fun b hb => by simp [winBlks] at hb⟩
  | [], _ :: _, h, h2, h', he, hr => by simp [wback] at hr
  | none :: ws, cs, h, h2, h', he, hr => by
    simp only [wback] at hr ⊢
    exact wback_loc ws cs h h2 h' he hr
  | some ⟨b, off, n, false⟩ :: ws, cs, h, h2, h', he, hr => by
    simp only [wback] at hr ⊢
    obtain ⟨h2', g1, g2, g3⟩ := wback_loc ws cs h h2 h' (fun c hc => he c (by simp [winBlks, hc])) hr
    refine ⟨h2', g1, by simpa [winWr] using g2, fun c hc => ?_⟩
    simp only [winBlks, List.mem_cons] at hc
    by_cases hw : c ∈ winWr ws
    · exact g2.2.2 c hw
    · rw [g2.1 c hw, g2.2.1 c hw]; exact he c (by simpa [winBlks] using hc)
  | some ⟨b, off, n, true⟩ :: ws, [], h, h2, h', he, hr => by simp [wback] at hr
  | some ⟨b, off, n, true⟩ :: ws, c :: cs, h, h2, h', he, hr => by
    simp only [wback] at hr ⊢
    rw [he b (by simp [winBlks])]
    split at hr <;> try (cases hr; done)
    rename_i ob hob
    split at hr <;> try (cases hr; done)
    rename_i x hx
    split at hr <;> try (cases hr; done)
    rename_i hc
    split at hr <;> try (cases hr; done)
    rename_i ob' hob'
    obtain ⟨h2', g1, g2, g3⟩ := wback_loc ws cs (aput h b ob') (aput h2 b ob') h' (fun d hd => by rw [aget_aput, aget_aput]; split; rfl; exact he d (by simp [winBlks, hd])) hr
    refine ⟨h2', by simp only [hx, hob', if_pos hc]; exact g1, ⟨fun d hd => ?_, fun d hd => ?_, fun d hd => ?_⟩, fun d hd => ?_⟩
    · simp only [winWr, cond_true, List.mem_cons, not_or] at hd
      rw [g2.1 d hd.2, aget_aput_ne _ _ (fun e => hd.1 e.symm)]
    · simp only [winWr, cond_true, List.mem_cons, not_or] at hd
      rw [g2.2.1 d hd.2, aget_aput_ne _ _ (fun e => hd.1 e.symm)]
    · simp only [winWr, cond_true, List.mem_cons] at hd
      by_cases hw : d ∈ winWr ws
      · exact g2.2.2 d hw
      · rw [g2.1 d hw, g2.2.1 d hw]
        have : d = b := by simpa [hw] using hd
        subst this
        rw [aget_aput_same, aget_aput_same]
    · simp only [winBlks, List.mem_cons] at hd
      by_cases hw : d ∈ winWr ws
      · exact g2.2.2 d hw
      · rw [g2.1 d hw, g2.2.1 d hw, aget_aput, aget_aput]
        split
        · rfl
        · exact he d (by simpa [winBlks] using hd)

theorem addNew_loc : ∀ (cs : List (List Value)) (h h2 h' : Hp) (m m' : Nat), addNew h m cs = some (h', m') →
    ∃ h2', addNew h2 m cs = some (h2', m') ∧ m' = m + cs.length ∧ Loc1 h h2 h' h2' (List.range' m cs.length)
  | [], h, h2, h', m, m', hr => by
    simp only [addNew, Option.some.injEq, Prod.mk.injEq] at hr
    obtain ⟨rfl, rfl⟩ := hr
    exact ⟨h2, rfl, rfl, fun _ _ => rfl, fun _ _ => rfl, fun b hb => by simp at hb⟩
  | c :: cs, h, h2, h', m, m', hr => by
    simp only [addNew] at hr ⊢
    split at hr <;> try (cases hr; done)
    rename_i hc
    obtain ⟨h2', g1, g2, g3, g4, g5⟩ := addNew_loc cs (aput h m (.row true c)) (aput h2 m (.row true c)) h' (m + 1) m' hr
    refine ⟨h2', by rw [if_pos hc]; exact g1, by simp [g2]; omega, fun b hb => ?_, fun b hb => ?_, fun b hb => ?_⟩
    · simp only [List.length_cons, List.range'_succ, List.mem_cons, not_or] at hb
      rw [g3 b hb.2, aget_aput_ne _ _ (fun e => hb.1 e.symm)]
    · simp only [List.length_cons, List.range'_succ, List.mem_cons, not_or] at hb
      rw [g4 b hb.2, aget_aput_ne _ _ (fun e => hb.1 e.symm)]
    · simp only [List.length_cons, List.range'_succ, List.mem_cons] at hb
      by_cases hm : b ∈ List.range' (m + 1) cs.length
      · exact g5 b hm
      · have : b = m := by simpa [hm] using hb
        subst this
        rw [g3 b hm, g4 b hm, aget_aput_same, aget_aput_same]

theorem flatO_congr {a b : Option (List Value)} (e : a = b) (o n : Nat) (K : List Value → SArg) : flatO a o n K = flatO b o n K := by rw [e]
theorem readArg_congr {h h2 : Hp} {m : Md} {v : Value} (he : ∀ b ∈ winBlks (winL [m] [v]), aget h2 b = aget h b) : readArg h2 m v = readArg h m v := by
  unfold readArg
  cases m <;> (try rfl) <;> split <;> (try rfl) <;> (try cases ‹Md.sl _ = _›) <;> (try cases ‹Md.pt _ = _›) <;> (try contradiction)
  all_goals (first | rfl | (rw [he _ (by simp [winL, winOf, winBlks])]))
theorem winBlks_cons {m : Md} {v : Value} {ms : List Md} {vs : List Value} {b : Nat} : b ∈ winBlks (winL (m :: ms) (v :: vs)) ↔ b ∈ winBlks (winL [m] [v]) ∨ b ∈ winBlks (winL ms vs) := by
  simp only [winL]
  cases winOf m v with
  | none => simp [winBlks]
  | some w => cases w <;> simp [winBlks]
theorem readArgs_congr {h h2 : Hp} : ∀ {ms : List Md} {vs : List Value}, (∀ b ∈ winBlks (winL ms vs), aget h2 b = aget h b) → readArgs h2 ms vs = readArgs h ms vs
  | [], [], _ => rfl
  | [], _ :: _, _ => rfl
  | _ :: _, [], _ => rfl
  | m :: ms, v :: vs, he => by
    simp only [readArgs]
    rw [readArg_congr (fun b hb => he b (winBlks_cons.2 (.inl hb))), readArgs_congr (fun b hb => he b (winBlks_cons.2 (.inr hb)))]

theorem sumRun_loc {s : Summ} {vals : List Value} {h h2 h' : Hp} {m m' : Nat} {v : Value} (he : ∀ b ∈ winBlks (winL s.modes vals), aget h2 b = aget h b) (hr : sumRun s vals h m = some (v, h', m')) :
    ∃ h2', sumRun s vals h2 m = some (v, h2', m') ∧ m ≤ m' ∧ Loc1 h h2 h' h2' (winWr (winL s.modes vals) ++ List.range' m (m' - m)) := by
  unfold sumRun at hr ⊢
  rw [readArgs_congr he]
  split at hr <;> try (cases hr; done)
  rename_i aqs has
  split at hr <;> try (cases hr; done)
  rename_i v0 new wr hrun
  split at hr <;> try (cases hr; done)
  rename_i hap
  split at hr <;> try (cases hr; done)
  rename_i h1 hwb
  split at hr <;> try (cases hr; done)
  rename_i hN mN hadd
  split at hr <;> try (cases hr; done)
  rename_i v' hv'
  cases hr
  obtain ⟨h21, g1, g2, g3⟩ := wback_loc _ _ h h2 h1 he hwb
  obtain ⟨h22, k1, k2, k3, k4, k5⟩ := addNew_loc _ h1 h21 _ _ _ hadd
  refine ⟨h22, by simp only [hrun, hap, g1, k1, hv'], by omega, fun b hb => ?_, fun b hb => ?_, fun b hb => ?_⟩
  · simp only [List.mem_append, not_or] at hb
    rw [show m' - m = new.length by omega] at hb
    rw [k3 b hb.2, g2.1 b hb.1]
  · simp only [List.mem_append, not_or] at hb
    rw [show m' - m = new.length by omega] at hb
    rw [k4 b hb.2, g2.2.1 b hb.1]
  · simp only [List.mem_append] at hb
    rw [show m' - m = new.length by omega] at hb
    by_cases hm : b ∈ List.range' m new.length
    · exact k5 b hm
    · rw [k3 b hm, k4 b hm]; exact g2.2.2 b (by simpa [hm] using hb)
end Go.Vm
