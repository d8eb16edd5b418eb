/- The engine, part 20: a law's call. -/
import Derived.Test.YtdnhoocoofnibaaVmEval
namespace Go.Vm
open Go Go.RowKit

/-- An argument of a law: a value without pointers, or what a slice holds. -/
inductive SArg where
  | v (x : Value)
  | sl (n : Nat) (cs : List Value)

def entry (k : Nat) : List Md → List SArg → List Value
  | .v :: ms, .v x :: aqs => x :: entry k ms aqs
  | .sl sz :: ms, .sl n _ :: aqs => .slice (some ⟨k, 0, none⟩) n sz :: entry (k + 1) ms aqs
  | _, _ => []
def rowsOf (k : Nat) : List SArg → Hp
  | .sl _ cs :: aqs => (k, .row false cs) :: rowsOf (k + 1) aqs
  | .v _ :: aqs => rowsOf k aqs
  | [] => []
def wins : List SArg → Nat
  | .sl _ _ :: aqs => wins aqs + 1
  | .v _ :: aqs => wins aqs
  | [] => 0

/-- an argument of a law, and how it is laid: a value, or a slice of cells that are only read -/
def ArgR (w : World) : Md → SArg → Value → Prop
  | .v, .v x, rv => flatV x = true ∧ rv = x
  | .sl sz, .sl n cs, rv => ((∃ a, rv = .slice a 0 0) ∧ n = 0 ∧ cs = []) ∨ ∃ b o c, rv = .slice (some ⟨b, o, none⟩) n c ∧ n ≤ c ∧ ∀ ρ, CellsR ρ w ⟨b, o, c * sz⟩ false cs
  | _, _, _ => False

inductive ArgsR (w : World) : List Md → List SArg → List Value → Prop
  | nil : ArgsR w [] [] []
  | cons {m ms a aqs v vs} (h : ArgR w m a v) (t : ArgsR w ms aqs vs) : ArgsR w (m :: ms) (a :: aqs) (v :: vs)

theorem add_win {k n : Nat} {ρc : Ren} {vs rvs : List Value} {Hr : Hp} {w : World} (c1 : ∀ i l, ρc i = some l → k + 1 ≤ i ∧ i < k + 1 + n) (c2 : VRL ρc vs rvs)
    (c3 : ∀ i o, aget Hr i = some o → ∃ cs l, o = .row false cs ∧ ρc i = some l ∧ ∀ ρ', CellsR ρ' w l false cs) (l : Loc) (cs : List Value) (hc : ∀ ρ', CellsR ρ' w l false cs) :
    (∀ i l', upd ρc k l i = some l' → k ≤ i ∧ i < k + 1 + n) ∧ VRL (upd ρc k l) vs rvs ∧
      (∀ i o, aget ((k, .row false cs) :: Hr) i = some o → ∃ cs l', o = .row false cs ∧ upd ρc k l i = some l' ∧ ∀ ρ', CellsR ρ' w l' false cs) ∧ upd ρc k l k = some l := by
  have hoff : ρc k = none := by
    cases e : ρc k with
    | none => rfl
    | some l => have := (c1 k l e).1; omega
  refine ⟨fun i l' e => ?_, c2.mono (Ext.upd hoff), fun i o e => ?_, upd_same _ _ _⟩
  · by_cases hi : k = i
    · subst hi; omega
    · rw [upd_ne _ _ hi] at e; have := c1 i l' e; omega
  · rw [aget_cons] at e
    split at e
    · rename_i hk
      cases e; subst hk
      exact ⟨cs, l, rfl, upd_same _ _ _, hc⟩
    · rename_i hk
      obtain ⟨cs', l', a, b, c⟩ := c3 i o e
      exact ⟨cs', l', a, by rw [upd_ne _ _ hk]; exact b, c⟩

theorem argsR_fit {w : World} : ∀ {ms : List Md} {aqs : List SArg} {rvals : List Value} (k : Nat), ArgsR w ms aqs rvals →
    ∃ ρc : Ren, (∀ i l, ρc i = some l → k ≤ i ∧ i < k + wins aqs) ∧ VRL ρc (entry k ms aqs) rvals ∧
      (∀ i o, aget (rowsOf k aqs) i = some o → ∃ cs l, o = .row false cs ∧ ρc i = some l ∧ ∀ ρ', CellsR ρ' w l false cs)
  | _, _, _, k, .nil => ⟨fun _ => none, fun i l e => by simp at e, .nil, fun i o e => by simp [rowsOf, aget] at e⟩
  | _, _, _, k, .cons (m := m) (a := a) (v := v) h t => by
    cases m with
    | v =>
      cases a with
      | v x =>
        obtain ⟨hf, rfl⟩ := h
        obtain ⟨ρc, c1, c2, c3⟩ := argsR_fit k t
        exact ⟨ρc, c1, .cons (VR.flat _ _ hf) c2, c3⟩
      | _ => exact h.elim
    | sl sz =>
      cases a with
      | sl n cs =>
        obtain ⟨ρc, c1, c2, c3⟩ := argsR_fit (k + 1) t
        rcases h with ⟨⟨a, rfl⟩, rfl, rfl⟩ | ⟨b, o, c, rfl, hn, hc⟩
        · obtain ⟨d1, d2, d3, d4⟩ := add_win c1 c2 c3 ⟨0, 0, 0⟩ [] (fun ρ' => ⟨Nat.zero_le _, fun i v e => by simp at e, fun i hi => absurd hi (Nat.not_lt_zero _)⟩)
          exact ⟨_, by simpa [wins, Nat.add_assoc, Nat.add_comm 1] using d1, .cons (.slice0 _) d2, d3⟩
        · obtain ⟨d1, d2, d3, d4⟩ := add_win c1 c2 c3 ⟨b, o, c * sz⟩ cs hc
          exact ⟨_, by simpa [wins, Nat.add_assoc, Nat.add_comm 1] using d1, .cons (.slice d4 hn (by simp)) d2, d3⟩
      | _ => exact h.elim
    | pt n => cases a <;> exact h.elim
    | tr ps => cases a <;> exact h.elim

/-- a law's walk from where its state leads -/
theorem calls_of_leads {P : Program} {F : Fns} (hF : FnsOK P F) {f : Nat} {ms : List Md} {aqs : List SArg} {rvals : List Value} {w : World} {c : VFrame} {r : Bool}
    (ha : ArgsR w ms aqs rvals) (hc : enterF F f (entry 0 ms aqs) = some c) (hl : Leads P f (wins aqs) ⟨c, [], rowsOf 0 aqs, wins aqs⟩ (fun v _ _ => v = .bool r)) :
    Calls P f ⟨rvals⟩ w fun e w' => e = .returned (.bool r) ∧ Below w.heap.size w w' := by
  intro cs
  obtain ⟨ρc, c1, c2, c3⟩ := argsR_fit 0 ha
  have hpc : HpR P w UG.no ρc (rowsOf 0 aqs) (wins aqs) w :=
    { obj := fun i o e => by obtain ⟨cs', l, rfl, a, b⟩ := c3 i o e; exact ⟨l, a, b ρc, fun e => by cases e⟩
      dis := fun i j oi oj li lj _ hi _ _ _ hw => by obtain ⟨cs', l, rfl, a, b⟩ := c3 i oi hi; cases hw
      lt := fun i l e => by have := c1 i l e; exact .inr ⟨Nat.zero_le _, by omega⟩
      keep := Keep.refl _ _ }
  obtain ⟨ρ', rv, fr', w', v', Hc, tc, g1, g2, g3, g4, g5, g6, g7⟩ := hl.get w _ ρc _ [] w cs ⟨(enter_ok hF hc c2).1, .nil, hpc⟩
  subst g7
  obtain rfl := g4.boolInv
  exact ⟨.returned (.bool r), w', fr', ⟨rfl, g5.keep.toBelow⟩, g1, g2, g3⟩

theorem ArgR.ofRow {k : IntKind} {w : World} {a : Option Addr} {len cap : Nat} {zs : List Int}
    (h : (a = none ∧ len = 0 ∧ cap = 0 ∧ zs = []) ∨ ∃ x, a = some x ∧ len ≤ cap ∧ cap ≤ maxLen ∧ zs.length = cap ∧ (∀ i, i < zs.length → w.cell? (x.add i) = some (.int k (zs.getD i 0))) ∧ ∀ n ∈ zs, (Lit.int k n).wf = true) :
    ArgR w (.sl 1) (.sl len ((zs.take len).map (Value.int k))) (.slice a len cap) := by
  rcases h with ⟨rfl, rfl, rfl, rfl⟩ | ⟨x, rfl, hl, -, hz, hc, -⟩
  · exact .inl ⟨⟨_, rfl⟩, rfl, rfl⟩
  · rcases Nat.eq_zero_or_pos cap with h0 | h0
    · subst h0
      obtain rfl : len = 0 := by omega
      exact .inl ⟨⟨_, rfl⟩, rfl, by simp⟩
    · have hs : x.spot = none := by
        have := hc 0 (by omega)
        cases hx : x.spot with
        | none => rfl
        | some q =>
          simp only [Addr.add, ↓reduceIte, World.cell?] at this
          split at this
          · simp [hx] at this
          · cases this
      obtain ⟨b, o, q⟩ := x
      simp only at hs
      subst hs
      have hadd : ∀ i, (⟨b, o, none⟩ : Addr).add i = ⟨b, o + i, none⟩ := fun i => by
        unfold Addr.add; split
        · rename_i e; subst e; rfl
        · rfl
      refine .inr ⟨b, o, cap, rfl, hl, fun ρ => ⟨by simp; omega, fun i v e => ?_, fun i hi => ?_⟩⟩
      · rw [List.getElem?_map] at e
        cases hi : (zs.take len)[i]? with
        | none => rw [hi] at e; cases e
        | some n =>
          rw [hi] at e
          simp only [Option.map_some, Option.some.injEq] at e
          subst e
          have hlt : i < len := by
            rcases Nat.lt_or_ge i len with h | h
            · exact h
            · rw [List.getElem?_eq_none (by simp; omega)] at hi; cases hi
          rw [List.getElem?_take_of_lt hlt] at hi
          have := hc i (by omega)
          rw [hadd, List.getD_eq_getElem?_getD, hi] at this
          exact ⟨_, this, .int _ _⟩
      · have := hc i (by simp at hi; omega)
        rw [hadd] at this
        exact ⟨by simp [this], fun e => by cases e⟩

end Go.Vm

namespace Go.Vm
open Go
/-- a table of summaries -/
def SumTab (P : Program) : List (Nat × Summ) → Prop
  | [] => True
  | (i, s) :: l => SumOK P i s ∧ SumTab P l
theorem SumsOK.of_tab {P : Program} : ∀ {l : List (Nat × Summ)}, SumTab P l → SumsOK P (aget l)
  | [], _, f, s, h => by simp [aget] at h
  | (i, v) :: l, hl, f, s, h => by
    obtain ⟨h1, h2⟩ := hl
    simp only [aget] at h
    cases hb : Nat.beq i f with
    | true =>
      rw [hb, cond_true, Option.some.injEq] at h
      subst h
      have := Nat.eq_of_beq_eq_true hb
      subst this
      exact h1
    | false =>
      rw [hb, cond_false] at h
      exact SumsOK.of_tab h2 f s h

theorem sumK.intro {s : Summ} {vals : List Value} {h : Hp} {top : Nat} {K : Value → Hp → Nat → Prop} {v : Value} {h' : Hp} {top' : Nat} (e : sumRun s vals h top = some (v, h', top')) (k : forceV v fun v => K v h' top') : sumK s vals h top K := by
  unfold sumK; rw [e]; simp only [forceV_eq, forceH_eq] at *; exact k
end Go.Vm
