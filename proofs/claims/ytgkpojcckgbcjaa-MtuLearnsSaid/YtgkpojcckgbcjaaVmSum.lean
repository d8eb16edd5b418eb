/- The engine, part 18: a summary from a walk. -/
import Derived.Test.YtgkpojcckgbcjaaVmLead
namespace Go.Vm
open Go Go.RowKit

def entry (k : Nat) : List (Option Nat) → List SArg → List Value
  | none :: ms, .v x :: aqs => x :: entry k ms aqs
  | some sz :: ms, .sl n _ :: aqs => .slice (some ⟨k, 0, none⟩) n sz :: entry (k + 1) ms aqs
  | _, _ => []

def rowsOf (k : Nat) : List SArg → Hp
  | .sl _ cs :: aqs => (k, .row false cs) :: rowsOf (k + 1) aqs
  | .v _ :: aqs => rowsOf k aqs
  | [] => []

def wins : List SArg → Nat
  | .sl _ _ :: aqs => wins aqs + 1
  | .v _ :: aqs => wins aqs
  | [] => 0

/-- what a summary may take for granted of its arguments -/
def argsOK : List (Option Nat) → List SArg → Prop
  | none :: ms, .v x :: aqs => flatV x = true ∧ argsOK ms aqs
  | some sz :: ms, .sl n cs :: aqs => cs.length = n * sz ∧ flatV.flatL cs = true ∧ argsOK ms aqs
  | [], [] => True
  | _, _ => False

def Res (v : Value) (new : Option (List Value)) (v' : Value) (H' : Hp) : Prop :=
  match new with
  | none => v' = v
  | some cs => ∃ j, renV (fun i => cond (Nat.beq i 0) (some j) none) v = some v' ∧ (aget H' j = some (.row true cs) ∨ aget H' j = some (.cells cs))

section
variable {P : Program} {F : Fns} {S : Sums}

mutual
theorem renV_none : ∀ (v : Value) {u : Value}, renV (fun _ => none) v = some u → u = v := by
  intro v u h
  unfold renV at h
  split at h
  · simp at h
  · simp at h
  · split at h <;> cases h
    rename_i ha hb
    rw [renL_none _ ha, renL_none _ hb]
  · simp at h
  · split at h <;> cases h
    rename_i hs
    rw [renV_none _ hs]
  · split at h <;> cases h
    rename_i hs
    rw [renL_none _ hs]
  · split at h <;> cases h
    rename_i hs
    rw [renL_none _ hs]
  all_goals (cases h; try rfl)
theorem renL_none : ∀ (l : List Value) {u : List Value}, renV.renL (fun _ => none) l = some u → u = l := by
  intro l u h
  cases l with
  | nil => simp only [renV.renL, Option.some.injEq] at h; exact h.symm
  | cons v l =>
    simp only [renV.renL] at h
    split at h <;> try (cases h; done)
    rename_i v' hv
    split at h <;> try (cases h; done)
    rename_i k hk
    cases h
    rw [renV_none _ hv, renL_none _ hk]
end

theorem VR.move {ρ ρ' : Ren} {v u v' : Value} (h : renV (fun _ => none) v = some u) (hr : VR ρ' v v') : VR ρ u v' := by
  have e := renV_none v h
  subst e
  exact (VR.unren u h hr).mono (fun i l e => by simp [comp] at e)

theorem CellsR.move {ρ ρ' : Ren} {w : World} {l : Loc} {own : Bool} {cs : List Value} (h : CellsR ρ w l own cs) (hf : flatV.flatL cs = true) : CellsR ρ' w l own cs := by
  obtain ⟨h1, h2, h3⟩ := CellsR.unren (s := fun _ => none) h (renL_flat _ _ hf) id
  refine ⟨h1, fun i v e => ?_, h3⟩
  obtain ⟨v', a, b⟩ := h2 i v e
  exact ⟨v', a, b.mono (fun i l e => by simp [comp] at e)⟩

theorem add_win {k n : Nat} {ρc : Ren} {vs rvs : List Value} {Hr : Hp} {w : World} (c1 : ∀ i l, ρc i = some l → k + 1 ≤ i ∧ i < k + 1 + n) (c2 : VRL ρc vs rvs)
    (c3 : ∀ i o, aget Hr i = some o → ∃ cs l, o = .row false cs ∧ ρc i = some l ∧ ∀ ρ', CellsR ρ' w l false cs) (l : Loc) (cs : List Value) (hc : ∀ ρ', CellsR ρ' w l false cs) :
    (∀ i l', upd ρc k l i = some l' → k ≤ i ∧ i < k + 1 + n) ∧ VRL (upd ρc k l) vs rvs ∧
      (∀ i o, aget ((k, .row false cs) :: Hr) i = some o → ∃ cs l', o = .row false cs ∧ upd ρc k l i = some l' ∧ ∀ ρ', CellsR ρ' w l' false cs) ∧ upd ρc k l k = some l := by
  have hoff : ρc k = none := by
    cases e : ρc k with
    | none => rfl
    | some l => have := (c1 k l e).1; omega
  refine ⟨fun i l' e => ?_, c2.mono (Ext.upd hoff), fun i o e => ?_, upd_same _ _ _⟩
  · by_cases hi : k = i
    · subst hi; omega
    · rw [upd_ne _ _ hi] at e; have := c1 i l' e; omega
  · simp only [aget] at e
    cases hb : Nat.beq k i with
    | true =>
      have := Nat.eq_of_beq_eq_true hb
      subst this
      rw [hb, cond_true, Option.some.injEq] at e
      exact ⟨cs, l, e.symm, upd_same _ _ _, hc⟩
    | false =>
      rw [hb, cond_false] at e
      obtain ⟨cs', l', a, b, c⟩ := c3 i o e
      have hi : k ≠ i := fun h => by subst h; simp at hb
      exact ⟨cs', l', a, by rw [upd_ne _ _ hi]; exact b, c⟩

theorem args_fit {w0 : World} {U : Nat → Nat → Prop} {ρ : Ren} {H : Hp} {top : Nat} {w : World} (h : HpR P w0 U ρ H top w) : ∀ {ms : List (Option Nat)} {vals rvals : List Value} {aqs : List SArg} (k : Nat), readArgs H ms vals = some aqs → VRL ρ vals rvals →
    argsOK ms aqs ∧ ∃ ρc : Ren, (∀ i l, ρc i = some l → k ≤ i ∧ i < k + wins aqs) ∧ VRL ρc (entry k ms aqs) rvals ∧
      (∀ i o, aget (rowsOf k aqs) i = some o → ∃ cs l, o = .row false cs ∧ ρc i = some l ∧ ∀ ρ', CellsR ρ' w l false cs)
  | [], [], rvals, aqs, k, hr, hv => by
    simp only [readArgs, Option.some.injEq] at hr; subst hr; cases hv
    exact ⟨trivial, fun _ => none, fun i l e => by simp at e, .nil, fun i o e => by simp [rowsOf, aget] at e⟩
  | m :: ms, v :: vs, rvals, aqs, k, hr, hv => by
    simp only [readArgs] at hr
    split at hr <;> try (cases hr; done)
    rename_i a ha
    split at hr <;> try (cases hr; done)
    rename_i as' has
    cases hr
    cases hv with | @cons _ v' _ l' h1 h2 =>
    unfold readArg at ha
    split at ha
    · split at ha <;> cases ha
      rename_i hf
      obtain ⟨hok, ρc, c1, c2, c3⟩ := args_fit h k has h2
      exact ⟨⟨hf, hok⟩, ρc, c1, .cons ((VR.unren (s := fun _ => none) v (renV_flat _ v hf) h1).mono (fun i l e => by simp [comp] at e)) c2, c3⟩
    · cases ha
      rename_i sz _
      obtain ⟨hok, ρc, c1, c2, c3⟩ := args_fit h (k + 1) has h2
      obtain ⟨d1, d2, d3, d4⟩ := add_win c1 c2 c3 ⟨0, 0, 0⟩ [] (fun ρ' => ⟨Nat.zero_le _, fun i v e => by simp at e, fun i hi => absurd hi (Nat.not_lt_zero _)⟩)
      have e1 : v' = .slice none 0 0 := by cases h1; rfl
      subst e1
      exact ⟨⟨by simp, rfl, hok⟩, _, by simpa [wins, Nat.add_assoc, Nat.add_comm 1] using d1, .cons (.slice0 _) d2, d3⟩
    · split at ha <;> try (cases ha; done)
      rename_i sz b o n sz' hsz
      subst hsz
      split at ha <;> try (cases ha; done)
      rename_i ob hob
      split at ha <;> try (cases ha; done)
      rename_i cs hcs
      split at ha <;> try (cases ha; done)
      rename_i hle
      split at ha <;> cases ha
      rename_i hflat
      obtain ⟨hok, ρc, c1, c2, c3⟩ := args_fit h (k + 1) has h2
      have hlen : ((cs.drop o).take (n * sz)).length = n * sz := by simp; omega
      obtain ⟨l, hl, hor, _⟩ := h.obj b ob hob
      obtain ⟨own, g1, g2, g3⟩ := hor.cells hcs
      have hwin : ∀ ρ', CellsR ρ' w ⟨l.blk, l.sh + o, l.ext - o⟩ false ((cs.drop o).take (n * sz)) := fun ρ' => by
        refine CellsR.move (ρ := ρ) ⟨by simp only [hlen]; omega, fun i v e => ?_, fun i hi => ?_⟩ hflat
        · have hi : i < n * sz := by
            rcases Nat.lt_or_ge i (n * sz) with h' | h'
            · exact h'
            · rw [List.getElem?_eq_none (by omega)] at e; cases e
          rw [List.getElem?_take_of_lt hi, List.getElem?_drop] at e
          obtain ⟨v', a, b⟩ := g2 (o + i) v e
          exact ⟨v', by rw [← a]; simp [Nat.add_assoc], b⟩
        · have := g3 (o + i) (by simp only at hi; omega)
          exact ⟨by rw [← this.1]; simp [Nat.add_assoc], fun e => by cases e⟩
      cases h1 with
      | @slice _ _ _ _ c l0 hl0 hn hc =>
        rw [hl] at hl0; cases hl0
        obtain ⟨d1, d2, d3, d4⟩ := add_win c1 c2 c3 ⟨l.blk, l.sh + o, l.ext - o⟩ ((cs.drop o).take (n * sz)) hwin
        exact ⟨⟨hlen, hflat, hok⟩, _, by simpa [wins, Nat.add_assoc, Nat.add_comm 1] using d1, .cons (.slice d4 hn (by simp only; omega)) d2, d3⟩
      | slice0 a =>
        obtain ⟨d1, d2, d3, d4⟩ := add_win c1 c2 c3 ⟨l.blk, l.sh + o, l.ext - o⟩ ((cs.drop o).take (0 * sz)) hwin
        exact ⟨⟨hlen, hflat, hok⟩, _, by simpa [wins, Nat.add_assoc, Nat.add_comm 1] using d1, .cons (.slice0 _) d2, d3⟩
    · cases ha
  | [], _ :: _, _, _, _, hr, _ => by simp [readArgs] at hr
  | _ :: _, [], _, _, _, hr, _ => by simp [readArgs] at hr

mutual
theorem VR.ren {s : Nat → Option Nat} {ρ ρ2 : Ren} (hs : ∀ i k l, s i = some k → ρ i = some l → ρ2 k = some l) : ∀ (v : Value) {u v' : Value}, renV s v = some u → VR ρ v v' → VR ρ2 u v' := by
  intro v u v' h hr
  unfold renV at h
  split at h
  · split at h <;> cases h
    rename_i hj
    cases hr with | ptr hl => exact .ptr (hs _ _ _ hj hl)
  · split at h <;> cases h
    rename_i hj
    cases hr with
    | slice hl hn hc => exact .slice (hs _ _ _ hj hl) hn hc
    | slice0 a => exact .slice0 a
  · split at h <;> cases h
    rename_i ha hb
    cases hr with | func _ h1 h2 => exact .func _ (VRL.ren hs _ ha h1) (VRL.ren hs _ hb h2)
  · split at h <;> cases h
    rename_i hj
    cases hr with | yield hl => exact .yield (hs _ _ _ hj hl)
  · split at h <;> cases h
    rename_i hj
    cases hr with | iface _ hl => exact .iface _ (VR.ren hs _ hj hl)
  · split at h <;> cases h
    rename_i hj
    cases hr with | agg hl => exact .agg (VRL.ren hs _ hj hl)
  · split at h <;> cases h
    rename_i hj
    cases hr with | tuple hl => exact .tuple (VRL.ren hs _ hj hl)
  · cases h; cases hr; exact .bool _
  · cases h; cases hr; exact .int _ _
  · cases h; cases hr; exact .string _
  · cases h; cases hr; exact .junk _ _ (by assumption)
  · cases h; cases hr; exact .nilp
  · cases h; cases hr; exact .nils _
  · cases h; cases hr; exact .nilf
  · cases h; cases hr; exact .nili
  · cases h
theorem VRL.ren {s : Nat → Option Nat} {ρ ρ2 : Ren} (hs : ∀ i k l, s i = some k → ρ i = some l → ρ2 k = some l) : ∀ (l : List Value) {u l' : List Value}, renV.renL s l = some u → VRL ρ l l' → VRL ρ2 u l' := by
  intro l u l' h hr
  cases l with
  | nil => simp only [renV.renL, Option.some.injEq] at h; subst h; cases hr; exact .nil
  | cons v l =>
    simp only [renV.renL] at h
    split at h <;> try (cases h; done)
    rename_i v' hv
    split at h <;> try (cases h; done)
    rename_i k hk
    cases h
    cases hr with | cons h1 h2 => exact .cons (VR.ren hs _ hv h1) (VRL.ren hs _ hk h2)
end

theorem VR.moveTo {ρ' ρ2 : Ren} {j t : Nat} {l : Loc} {v v1 v2 rv : Value} (h1 : renV (fun i => cond (Nat.beq i 0) (some j) none) v = some v1) (h2 : renV (fun i => cond (Nat.beq i 0) (some t) none) v = some v2)
    (hj : ρ' j = some l) (ht : ρ2 t = some l) (hr : VR ρ' v1 rv) : VR ρ2 v2 rv := by
  refine VR.ren (ρ := comp (fun i => cond (Nat.beq i 0) (some j) none) ρ') (fun i k l' hs hl => ?_) v h2 (VR.unren v h1 hr)
  cases hb : Nat.beq i 0 with
  | false => simp only [hb, cond_false] at hs; cases hs
  | true =>
    simp only [hb, cond_true, Option.some.injEq] at hs
    subst hs
    simp only [comp, hb, cond_true] at hl
    rw [hj] at hl; cases hl
    exact ht

theorem SumOK.of_leads (hF : FnsOK P F) {f : Nat} {s : Summ}
    (h : ∀ aqs v new, argsOK s.modes aqs → s.run aqs = some (v, new) → ∃ c, enterF F f (entry 0 s.modes aqs) = some c ∧ Leads P f (wins aqs) ⟨c, [], rowsOf 0 aqs, wins aqs⟩ (fun v' H' _ => Res v new v' H'))
    (hfn : ∃ fn, P.funcs[f]? = some fn ∧ fn.name ≠ "runtime.NumGoroutine" ∧ fn.body.isSome = true) : SumOK P f s where
  fn := hfn
  calls := by
    intro w0 U ρ H top w vals rvals v H' top' hh hv hs cs
    unfold sumRun at hs
    split at hs <;> try (cases hs; done)
    rename_i aqs has
    split at hs <;> try (cases hs; done)
    · rename_i v0 hrun
      split at hs <;> cases hs
      rename_i hren
      obtain ⟨hok, ρc, c1, c2, c3⟩ := args_fit hh 0 has hv
      obtain ⟨c, hc, hl⟩ := h aqs v0 none hok hrun
      have hpc : HpR P w (fun _ _ => False) ρc (rowsOf 0 aqs) (wins aqs) w :=
        { obj := fun i o e => by obtain ⟨cs', l, rfl, a, b⟩ := c3 i o e; exact ⟨l, a, b ρc, fun e => by cases e⟩
          dis := fun i j oi oj li lj _ hi _ _ _ hw => by obtain ⟨cs', l, rfl, a, b⟩ := c3 i oi hi; cases hw
          lt := fun i l e => by have := c1 i l e; omega
          keep := Keep.refl _ _ }
      obtain ⟨ρ', rv, fr', w', v', Hc, tc, g1, g2, g3, g4, g5, g6, g7⟩ := hl.get w (fun _ _ => False) ρc _ [] w cs ⟨(enter_ok hF hc c2).1, .nil, hpc⟩
      have hb : Below w.heap.size w w' := g5.keep.toBelow
      refine ⟨.returned rv, w', fr', ⟨ρ, rv, rfl, ?_, hh.kept (hh.keep.below hb) (fun k hk => hb.block k hk), Ext.refl ρ⟩, g1, g2, g3⟩
      simp only [Res] at g7
      subst g7
      exact VR.move hren g4
    · rename_i v0 cs0 hrun
      split at hs <;> try (cases hs; done)
      rename_i vn hren
      split at hs <;> cases hs
      rename_i hflat
      obtain ⟨hok, ρc, c1, c2, c3⟩ := args_fit hh 0 has hv
      obtain ⟨c, hc, hl⟩ := h aqs v0 (some cs0) hok hrun
      have hpc : HpR P w (fun _ _ => False) ρc (rowsOf 0 aqs) (wins aqs) w :=
        { obj := fun i o e => by obtain ⟨cs', l, rfl, a, b⟩ := c3 i o e; exact ⟨l, a, b ρc, fun e => by cases e⟩
          dis := fun i j oi oj li lj _ hi _ _ _ hw => by obtain ⟨cs', l, rfl, a, b⟩ := c3 i oi hi; cases hw
          lt := fun i l e => by have := c1 i l e; omega
          keep := Keep.refl _ _ }
      obtain ⟨ρ', rv, fr', w', v', Hc, tc, g1, g2, g3, g4, g5, g6, g7⟩ := hl.get w (fun _ _ => False) ρc _ [] w cs ⟨(enter_ok hF hc c2).1, .nil, hpc⟩
      have hb : Below w.heap.size w w' := g5.keep.toBelow
      obtain ⟨j, hj1, hj2⟩ := g7
      have hobj : ∃ l, ρ' j = some l ∧ CellsR ρ' w' l true cs0 ∧ (w.heap.size ≤ l.blk ∨ l.ext = 0) := by
        rcases hj2 with hj2 | hj2 <;>
        · obtain ⟨l, a, b, c⟩ := g5.obj j _ hj2
          refine ⟨l, a, b, ?_⟩
          rcases Nat.eq_zero_or_pos l.ext with h0 | h0
          · exact .inr h0
          · rcases c rfl l.sh (Nat.le_refl _) (by omega) with hf | hge
            · exact hf.elim
            · exact .inl hge
      obtain ⟨l, hl1, hl2, hl3⟩ := hobj
      have hnew := hh.new (o := .row true cs0) (l := l) (hh.keep.below hb) (fun k hk => hb.block k hk) (CellsR.move hl2 hflat) hl3
      exact ⟨.returned rv, w', fr', ⟨_, rv, rfl, VR.moveTo hj1 hren hl1 (upd_same _ _ _) g4, hnew, Ext.upd (hh.off (Nat.le_refl _))⟩, g1, g2, g3⟩

end
end Go.Vm
