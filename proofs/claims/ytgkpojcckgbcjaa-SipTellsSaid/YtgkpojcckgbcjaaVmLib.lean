/- The engine, part 26: small helps for the walks. -/
import Derived.Test.YtgkpojcckgbcjaaVmCall
import Derived.Laws.BitsLemmas
namespace Go.Vm
open Go Go.RowKit

/-! functions of values without pointers -/
def unV : List SArg → Option (List Value)
  | [] => some []
  | .v x :: l => match unV l with
    | some xs => some (x :: xs)
    | none => none
  | _ :: _ => none
def flatRun (g : List Value → Option Value) (aqs : List SArg) : Option SRes :=
  match unV aqs with
  | some vs => match g vs with
    | some v => match flatV v with
      | true => some ⟨v, [], []⟩
      | false => none
    | none => none
  | none => none
/-- a summary of a function of n values without pointers -/
def sFlat (n : Nat) (g : List Value → Option Value) : Summ := ⟨List.replicate n .v, flatRun g⟩

theorem argsOK_flat : ∀ {n : Nat} {aqs : List SArg} {vs : List Value}, argsOK (List.replicate n .v) aqs → unV aqs = some vs → entry 0 (List.replicate n .v) aqs = vs ∧ wins aqs = 0 ∧ rowsOf 0 aqs = [] ∧ wrOK [] 0 aqs [] ∧ vs.length = n
  | 0, [], vs, h, hu => by simp only [unV, Option.some.injEq] at hu; subst hu; exact ⟨rfl, rfl, rfl, trivial, rfl⟩
  | 0, _ :: _, vs, h, hu => h.elim
  | n + 1, [], vs, h, hu => h.elim
  | n + 1, .sl _ _ :: aqs, vs, h, hu => h.elim
  | n + 1, .pt _ :: aqs, vs, h, hu => h.elim
  | n + 1, .v x :: aqs, vs, h, hu => by
    simp only [unV] at hu
    split at hu <;> cases hu
    rename_i xs hx
    obtain ⟨h1, h2, h3, h4, h5⟩ := argsOK_flat (n := n) h.2 hx
    refine ⟨?_, by simpa [wins] using h2, by simpa [rowsOf] using h3, ?_, by simp [h5]⟩
    · rw [List.replicate_succ]; simp only [entry]; rw [h1]
    · exact h4

theorem wrOK_any : ∀ {aqs : List SArg} {H : Hp} {k : Nat}, wrOK [] k aqs [] → wrOK H k aqs []
  | [], _, _, _ => trivial
  | .v _ :: aqs, _, _, h => wrOK_any (aqs := aqs) h
  | .sl _ _ :: aqs, _, k, h => wrOK_any (aqs := aqs) (k := k + 1) h
  | .pt _ :: _, _, _, h => h.elim

theorem renV_flatAny (s : Nat → Option Nat) (v : Value) (h : flatV v = true) : renV s v = some v := renV_flat s v h

theorem SumOK.of_flat {P : Program} {F : Fns} (hF : FnsOK P F) {f n : Nat} {g : List Value → Option Value}
    (h : ∀ vs v, vs.length = n → g vs = some v → ∃ c, enterF F f vs = some c ∧ Leads P f 0 ⟨c, [], [], 0⟩ (fun v' _ _ => v' = v))
    (hfn : ∃ fn, P.funcs[f]? = some fn ∧ fn.name ≠ "runtime.NumGoroutine" ∧ fn.body.isSome = true) : SumOK P f (sFlat n g) := by
  refine SumOK.of_leads hF (fun aqs r ha hr => ?_) hfn
  simp only [sFlat, flatRun] at ha hr
  split at hr <;> try (cases hr; done)
  rename_i vs hvs
  split at hr <;> try (cases hr; done)
  rename_i v hv
  split at hr <;> cases hr
  rename_i hf
  obtain ⟨h1, h2, h3, h4, h5⟩ := argsOK_flat ha hvs
  obtain ⟨c, hc, hl⟩ := h vs v h5 hv
  refine ⟨c, by simp only [sFlat]; rw [h1]; exact hc, ?_⟩
  rw [h2, h3]
  exact hl.mono fun v' H' _ e => by subst e; exact ⟨[], renV_flatAny _ _ hf, trivial, List.nodup_nil, fun j hj => (by cases hj), wrOK_any h4⟩

/-- the answer of a function without new rows -/
theorem Res.val {aqs : List SArg} {v : Value} {wr : List (List Value)} {H : Hp} (hf : flatV v = true) (hw : wrOK H 0 aqs wr) : Res aqs ⟨v, [], wr⟩ v H :=
  ⟨[], renV_flatAny _ _ hf, trivial, List.nodup_nil, fun j hj => (by cases hj), hw⟩
/-- the answer of a function with one new row -/
theorem Res.one {aqs : List SArg} {v v' : Value} {c : List Value} {wr : List (List Value)} {H : Hp} (j : Nat) (hf : renV (fun i => [j][i]?) v = some v') (hj : aget H j = some (.row true c) ∨ aget H j = some (.cells c)) (hw : wrOK H 0 aqs wr) (hk : wins aqs ≤ j) : Res aqs ⟨v, [c], wr⟩ v' H :=
  ⟨[j], hf, ⟨hj, trivial⟩, by simp, fun i hi => by simp at hi; omega, hw⟩

/-! lists of values -/
def unL {α : Type} (f : Value → Option α) : List Value → Option (List α)
  | [] => some []
  | v :: l => match f v with
    | some x => match unL f l with
      | some xs => some (x :: xs)
      | none => none
    | none => none
theorem unL_map {α : Type} {f : Value → Option α} {g : α → Value} (h : ∀ x, f (g x) = some x) : ∀ (xs : List α), unL f (xs.map g) = some xs
  | [] => rfl
  | x :: xs => by rw [List.map_cons, unL, h, unL_map h xs]
theorem unL_eq {α : Type} {f : Value → Option α} {g : α → Value} (h : ∀ v x, f v = some x → v = g x) : ∀ {cs : List Value} {xs : List α}, unL f cs = some xs → cs = xs.map g
  | [], xs, e => by simp only [unL, Option.some.injEq] at e; subst e; rfl
  | v :: cs, xs, e => by
    simp only [unL] at e
    split at e <;> try (cases e; done)
    rename_i x hx
    split at e <;> cases e
    rename_i ys hys
    rw [List.map_cons, ← h v x hx, ← unL_eq h hys]
theorem flatL_map {α : Type} {g : α → Value} (h : ∀ x, flatV (g x) = true) : ∀ (xs : List α), flatV.flatL (xs.map g) = true
  | [] => rfl
  | x :: xs => by rw [List.map_cons, flatV.flatL, h, flatL_map h xs]; rfl

def asB : Value → Option Bool | .bool b => some b | _ => none
theorem asB_eq (v : Value) (x : Bool) (h : asB v = some x) : v = .bool x := by cases v <;> simp [asB] at h; subst h; rfl
def asI (k : IntKind) : Value → Option Int | .int k' n => if k' = k then some n else none | _ => none
theorem asI_eq (k : IntKind) (v : Value) (x : Int) (h : asI k v = some x) : v = .int k x := by
  cases v <;> simp [asI] at h
  obtain ⟨rfl, rfl⟩ := h; rfl

theorem wrap64 (n : Int) (h : -2 ^ 63 ≤ n ∧ n < 2 ^ 63) : IntKind.wrap .i64 n = n := by
  rw [IntKind.wrap_i64]; omega

/-! the head of a loop, again: the state that is there, and the one that is told of; m: the number here of each block that is told of -/
def reE (m : Nat → Option Nat) (e : Env) : Env → Prop
  | [] => True
  | (i, v) :: l => (∃ v', renV m v = some v' ∧ aget e i = some v') ∧ reE m e l
theorem reE_ren {m : Nat → Option Nat} {e : Env} : ∀ {l : Env}, reE m e l → renE m e l
  | [], _ => trivial
  | (i, v) :: l, ⟨⟨v', h1, h2⟩, h3⟩ => ⟨by rw [h1]; exact h2, reE_ren h3⟩
def reH (m : Nat → Option Nat) (H : Hp) : Hp → Prop
  | [] => True
  | (i, o') :: l => (∃ j o, m i = some j ∧ aget H j = some o ∧ OSub m o o') ∧ reH m H l
theorem reH_sub {m : Nat → Option Nat} {H : Hp} : ∀ {l : Hp}, reH m H l → HSub m H l
  | [], _, i, o, h => by simp [aget] at h
  | (k, x) :: l, ⟨h1, h2⟩, i, o, h => by
    rw [aget_cons] at h
    split at h
    · rename_i e; cases h; subst e; exact h1
    · exact reH_sub h2 i o h
def reU (m : Nat → Option Nat) : List VFrame → List VFrame → Prop
  | [], [] => True
  | ⟨fn, nt, e, td, ds, ret, rd⟩ :: l, ⟨fn', nt', e', td', ds', ret', rd'⟩ :: l' => (fn' = fn ∧ nt' = nt ∧ ret' = ret ∧ rd = none ∧ rd' = none ∧ reE m e e' ∧ renT m td' = some td ∧ renN m ds' = some ds) ∧ reU m l l'
  | _, _ => False
theorem reU_sub {m : Nat → Option Nat} : ∀ {l l' : List VFrame}, reU m l l' → All2 (FSub m) l l'
  | [], [], _ => .nil
  | ⟨_, _, _, _, _, _, _⟩ :: l, ⟨_, _, _, _, _, _, _⟩ :: l', ⟨⟨h1, h2, h3, h4, h5, h6, h7, h8⟩, h9⟩ => .cons ⟨h1, h2, reE_ren h6, h7, h8, h3, by simp only; rw [h4, h5]; trivial⟩ (reU_sub h9)
  | [], _ :: _, h => h.elim
  | _ :: _, [], h => h.elim

def valsNot (j : Nat) : List (Nat × Nat) → Bool
  | [] => true
  | (_, k) :: l => cond (Nat.beq j k) false (valsNot j l)
/-- the list of numbers is in order: none twice, all told ones below top', those below base as they are -/
def chkM (base top' : Nat) : List (Nat × Nat) → Bool
  | m => injM m && ltM m && fixM m base
where
  injM : List (Nat × Nat) → Bool
    | [] => true
    | (_, j) :: l => valsNot j l && injM l
  ltM : List (Nat × Nat) → Bool
    | [] => true
    | (i, _) :: l => Nat.blt i top' && ltM l
  fixM (m : List (Nat × Nat)) : Nat → Bool
    | 0 => true
    | n + 1 => (match aget m n with | some j => Nat.beq j n | none => false) && fixM m n

theorem valsNot_spec {j : Nat} : ∀ {l : List (Nat × Nat)}, valsNot j l = true → ∀ i, aget l i ≠ some j
  | [], _, i, h => by simp [aget] at h
  | (a, k) :: l, hv, i, h => by
    simp only [valsNot] at hv
    cases hb : Nat.beq j k with
    | true => rw [hb] at hv; cases hv
    | false =>
      rw [hb, cond_false] at hv
      rw [aget_cons] at h
      split at h
      · cases h; simp at hb
      · exact valsNot_spec hv i h
theorem injM_spec {top' : Nat} : ∀ {l : List (Nat × Nat)}, chkM.injM l = true → ∀ i j k, aget l i = some k → aget l j = some k → i = j
  | [], _, i, j, k, h, _ => by simp [aget] at h
  | (a, b) :: l, hv, i, j, k, h1, h2 => by
    simp only [chkM.injM, Bool.and_eq_true] at hv
    rw [aget_cons] at h1 h2
    split at h1 <;> split at h2
    · omega
    · cases h1; exact absurd h2 (valsNot_spec hv.1 j)
    · cases h2; exact absurd h1 (valsNot_spec hv.1 i)
    · exact injM_spec (top' := top') hv.2 i j k h1 h2
theorem ltM_spec {top' : Nat} : ∀ {l : List (Nat × Nat)}, chkM.ltM top' l = true → ∀ i j, aget l i = some j → i < top'
  | [], _, i, j, h => by simp [aget] at h
  | (a, b) :: l, hv, i, j, h => by
    simp only [chkM.ltM, Bool.and_eq_true] at hv
    rw [aget_cons] at h
    split at h
    · rename_i e; subst e; exact Nat.blt_eq.mp hv.1
    · exact ltM_spec hv.2 i j h
theorem fixM_spec {m : List (Nat × Nat)} : ∀ {n : Nat}, chkM.fixM m n = true → ∀ i, i < n → aget m i = some i
  | 0, _, i, h => absurd h (Nat.not_lt_zero _)
  | n + 1, hv, i, h => by
    simp only [chkM.fixM, Bool.and_eq_true] at hv
    by_cases hi : i = n
    · subst hi
      have := hv.1
      split at this
      · rename_i j hj; rw [hj, Nat.eq_of_beq_eq_true this]
      · cases this
    · exact fixM_spec hv.2 i (by omega)

theorem Leads.re {P : Program} {f base fn nt : Nat} {e e' : Env} {todo todo' : List VItem} {ds ds' : List Nat} {ret : Bool} {up up' : List VFrame} {H H' : Hp} {top top' : Nat} {R : Value → Hp → Nat → Prop}
    (h : Leads P f base ⟨⟨fn, nt, e', todo', ds', ret, none⟩, up', H', top'⟩ R) (m : List (Nat × Nat)) (hc : chkM base top' m = true) (he : reE (aget m) e e') (hH : reH (aget m) H H')
    (ht : renT (aget m) todo' = some todo := by rfl) (hd : renN (aget m) ds' = some ds := by rfl) (hu : reU (aget m) up up' := by trivial) :
    Leads P f base ⟨⟨fn, nt, e, todo, ds, ret, none⟩, up, H, top⟩ R := by
  simp only [chkM, Bool.and_eq_true] at hc
  refine Leads.sub (s := aget m) ?_ h
  exact ⟨⟨rfl, rfl, reE_ren he, ht, hd, rfl, trivial⟩, reU_sub hu, reH_sub hH, injM_spec (top' := top') hc.1.1, ltM_spec hc.1.2, fixM_spec hc.2⟩
end Go.Vm
