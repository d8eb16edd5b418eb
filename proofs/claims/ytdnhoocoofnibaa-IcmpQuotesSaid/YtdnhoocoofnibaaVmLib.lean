import Derived.Test.YtdnhoocoofnibaaVmCall
import Derived.Laws.BitsLemmas
namespace Go.Vm
open Go Go.RowKit
def unL {α : Type} (f : Value → Option α) : List Value → Option (List α)
  | [] => some []
  | v :: l => match f v with
    | some x => match unL f l with
      | some xs => some (x :: xs)
      | none => none
    | none => none
theorem unL_map {α : Type} {f : Value → Option α} {g : α → Value} (h : ∀ x, f (g x) = some x) : ∀ (xs : List α), unL f (xs.map g) = some xs
  | [] => rfl
  | x :: xs => by rw [List.map_cons, unL, h, unL_map h xs]
theorem unL_eq {α : Type} {f : Value → Option α} {g : α → Value} (h : ∀ v x, f v = some x → v = g x) : ∀ {cs : List Value} {xs : List α}, unL f cs = some xs → cs = xs.map g
  | [], xs, e => by simp only [unL, Option.some.injEq] at e; subst e; rfl
  | v :: cs, xs, e => by
    simp only [unL] at e
    split at e <;> try (cases e; done)
    rename_i x hx
    split at e <;> cases e
    rename_i ys hys
    rw [List.map_cons, ← h v x hx, ← unL_eq h hys]
theorem flatL_map {α : Type} {g : α → Value} (h : ∀ x, flatV (g x) = true) : ∀ (xs : List α), flatV.flatL (xs.map g) = true
  | [] => rfl
  | x :: xs => by rw [List.map_cons, flatV.flatL, h, flatL_map h xs]; rfl
def asB : Value → Option Bool | .bool b => some b | _ => none
theorem asB_eq (v : Value) (x : Bool) (h : asB v = some x) : v = .bool x := by cases v <;> simp [asB] at h; subst h; rfl
def asI (k : IntKind) : Value → Option Int | .int k' n => if k' = k then some n else none | _ => none
theorem asI_eq (k : IntKind) (v : Value) (x : Int) (h : asI k v = some x) : v = .int k x := by
  cases v <;> simp [asI] at h
  obtain ⟨rfl, rfl⟩ := h; rfl
theorem wrap64 (n : Int) (h : -2 ^ 63 ≤ n ∧ n < 2 ^ 63) : IntKind.wrap .i64 n = n := by
  rw [IntKind.wrap_i64]; omega
def reE (m : Nat → Option Nat) (e : Env) : Env → Prop
  | [] => True
  | (i, v) :: l => (∃ v', renV m v = some v' ∧ aget e i = some v') ∧ reE m e l
theorem reE_ren {m : Nat → Option Nat} {e : Env} : ∀ {l : Env}, reE m e l → renE m e l
  | [], _ => trivial
  | (i, v) :: l, ⟨⟨v', h1, h2⟩, h3⟩ => ⟨by rw [h1]; exact h2, reE_ren h3⟩
def reH (m : Nat → Option Nat) (H : Hp) : Hp → Prop
  | [] => True
  | (i, o') :: l => (∃ j o, m i = some j ∧ aget H j = some o ∧ OSub m o o') ∧ reH m H l
theorem reH_sub {m : Nat → Option Nat} {H : Hp} : ∀ {l : Hp}, reH m H l → HSub m H l
  | [], _, i, o, h => by simp [aget] at h
  | (k, x) :: l, ⟨h1, h2⟩, i, o, h => by
    rw [aget_cons] at h
    split at h
    · rename_i e; cases h; subst e; exact h1
    · exact reH_sub h2 i o h
def reU (m : Nat → Option Nat) : List VFrame → List VFrame → Prop
  | [], [] => True
  | ⟨fn, nt, e, td, ds, ret, rd⟩ :: l, ⟨fn', nt', e', td', ds', ret', rd'⟩ :: l' => (fn' = fn ∧ nt' = nt ∧ ret' = ret ∧ rd = none ∧ rd' = none ∧ reE m e e' ∧ renT m td' = some td ∧ renN m ds' = some ds) ∧ reU m l l'
  | _, _ => False
theorem reU_sub {m : Nat → Option Nat} : ∀ {l l' : List VFrame}, reU m l l' → All2 (FSub m) l l'
  | [], [], _ => .nil
  | ⟨_, _, _, _, _, _, _⟩ :: l, ⟨_, _, _, _, _, _, _⟩ :: l', ⟨⟨h1, h2, h3, h4, h5, h6, h7, h8⟩, h9⟩ => .cons ⟨h1, h2, reE_ren h6, h7, h8, h3, by simp only; rw [h4, h5]; trivial⟩ (reU_sub h9)
  | [], _ :: _, h => h.elim
  | _ :: _, [], h => h.elim
def valsNot (j : Nat) : List (Nat × Nat) → Bool
  | [] => true
  | (_, k) :: l => cond (Nat.beq j k) false (valsNot j l)
def chkM (base top' : Nat) : List (Nat × Nat) → Bool
  | m => injM m && ltM m && fixM m base
where
  injM : List (Nat × Nat) → Bool
    | [] => true
    | (_, j) :: l => valsNot j l && injM l
  ltM : List (Nat × Nat) → Bool
    | [] => true
    | (i, _) :: l => Nat.blt i top' && ltM l
  fixM (m : List (Nat × Nat)) : Nat → Bool
    | 0 => true
    | n + 1 => (match aget m n with | some j => Nat.beq j n | none => false) && fixM m n
theorem valsNot_spec {j : Nat} : ∀ {l : List (Nat × Nat)}, valsNot j l = true → ∀ i, aget l i ≠ some j
  | [], _, i, h => by simp [aget] at h
  | (a, k) :: l, hv, i, h => by
    simp only [valsNot] at hv
    cases hb : Nat.beq j k with
    | true => rw [hb] at hv; cases hv
    | false =>
      rw [hb, cond_false] at hv
      rw [aget_cons] at h
      split at h
      · cases h; simp at hb
      · exact valsNot_spec hv i h
theorem injM_spec {top' : Nat} : ∀ {l : List (Nat × Nat)}, chkM.injM l = true → ∀ i j k, aget l i = some k → aget l j = some k → i = j
  | [], _, i, j, k, h, _ => by simp [aget] at h
  | (a, b) :: l, hv, i, j, k, h1, h2 => by
    simp only [chkM.injM, Bool.and_eq_true] at hv
    rw [aget_cons] at h1 h2
    split at h1 <;> split at h2
    · omega
    · cases h1; exact absurd h2 (valsNot_spec hv.1 j)
    · cases h2; exact absurd h1 (valsNot_spec hv.1 i)
    · exact injM_spec (top' := top') hv.2 i j k h1 h2
theorem ltM_spec {top' : Nat} : ∀ {l : List (Nat × Nat)}, chkM.ltM top' l = true → ∀ i j, aget l i = some j → i < top'
  | [], _, i, j, h => by simp [aget] at h
  | (a, b) :: l, hv, i, j, h => by
    simp only [chkM.ltM, Bool.and_eq_true] at hv
    rw [aget_cons] at h
    split at h
    · rename_i e; subst e; exact Nat.blt_eq.mp hv.1
    · exact ltM_spec hv.2 i j h
theorem fixM_spec {m : List (Nat × Nat)} : ∀ {n : Nat}, chkM.fixM m n = true → ∀ i, i < n → aget m i = some i
  | 0, _, i, h => absurd h (Nat.not_lt_zero _)
  | n + 1, hv, i, h => by
    simp only [chkM.fixM, Bool.and_eq_true] at hv
    by_cases hi : i = n
    · subst hi
      have := hv.1
      split at this
      · rename_i j hj; rw [hj, Nat.eq_of_beq_eq_true this]
      · cases this
    · exact fixM_spec hv.2 i (by omega)
theorem Leads.re {P : Program} {f base fn nt : Nat} {e e' : Env} {todo todo' : List VItem} {ds ds' : List Nat} {ret : Bool} {up up' : List VFrame} {H H' : Hp} {top top' : Nat} {R : Value → Hp → Nat → Prop}
    (h : Leads P f base ⟨⟨fn, nt, e', todo', ds', ret, none⟩, up', H', top'⟩ R) (m : List (Nat × Nat)) (hc : chkM base top' m = true) (he : reE (aget m) e e') (hH : reH (aget m) H H')
    (ht : renT (aget m) todo' = some todo := by rfl) (hd : renN (aget m) ds' = some ds := by rfl) (hu : reU (aget m) up up' := by trivial) :
    Leads P f base ⟨⟨fn, nt, e, todo, ds, ret, none⟩, up, H, top⟩ R := by
  simp only [chkM, Bool.and_eq_true] at hc
  refine Leads.sub (s := aget m) ?_ h
  exact ⟨⟨rfl, rfl, reE_ren he, ht, hd, rfl, trivial⟩, reU_sub hu, reH_sub hH, injM_spec (top' := top') hc.1.1, ltM_spec hc.1.2, fixM_spec hc.2⟩
end Go.Vm
