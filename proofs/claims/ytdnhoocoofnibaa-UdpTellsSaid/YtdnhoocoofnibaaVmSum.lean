/- The engine, part 18: a summary from a walk: how the arguments lie. -/
import Derived.Test.YtdnhoocoofnibaaVmLead
import Derived.Test.YtdnhoocoofnibaaVmDrawA
namespace Go.Vm
open Go Go.RowKit

def rowsW (k : Nat) : List (Option VObj) → Hp
  | [] => []
  | none :: l => rowsW (k + 1) l
  | some o :: l => (k, o) :: rowsW (k + 1) l

/-- an object with some cells -/
def Has (H : Hp) (j : Nat) (c : List Value) : Prop := aget H j = some (.row true c) ∨ aget H j = some (.cells c) ∨ ∃ d m, aget H j = some (.row true d) ∧ c = d.take m

/-- the numbers of an answer's blocks where the call ends (js: the new rows; n windows) -/
def resR (js : List Nat) (n : Nat) (i : Nat) : Option Nat := match js[i]? with
  | some j => some j
  | none => cond (Nat.blt (i - js.length) n) (some (i - js.length)) none

/-- what the windows hold at the end -/
def wrOK (H : Hp) (s : Nat → Option Nat) : Nat → List (Option (List Value)) → Prop
  | k, none :: l => wrOK H s (k + 1) l
  | k, some c :: l => (∃ c', renV.renL s c = some c' ∧ Has H k c') ∧ wrOK H s (k + 1) l
  | _, [] => True

/-- the new rows, where they lie -/
def newOK (H : Hp) (s : Nat → Option Nat) : List Nat → List (List Value) → Prop
  | j :: js, c :: cs => (∃ c', renV.renL s c = some c' ∧ Has H j c') ∧ newOK H s js cs
  | [], [] => True
  | _, _ => False

structure Res (n : Nat) (r : SRes) (v' : Value) (H' : Hp) : Prop where
  ex : ∃ js : List Nat, renV (resR js n) r.v = some v' ∧ newOK H' (resR js n) js r.new ∧ js.Nodup ∧ (∀ j ∈ js, n ≤ j ∨ r.wr[j]? = some none) ∧ wrOK H' (resR js n) 0 r.wr

section
variable {P : Program} {F : Fns} {S : Sums}

mutual
theorem renV_none : ∀ (v : Value) {u : Value}, renV (fun _ => none) v = some u → u = v := by
  intro v u h
  unfold renV at h
  split at h
  · simp at h
  · simp at h
  · split at h <;> cases h
    rename_i ha hb
    rw [renL_none _ ha, renL_none _ hb]
  · simp at h
  · cases h; rfl
  · simp at h
  · split at h <;> cases h
    rename_i hs
    rw [renV_none _ hs]
  · split at h <;> cases h
    rename_i hs
    rw [renL_none _ hs]
  · split at h <;> cases h
    rename_i hs
    rw [renL_none _ hs]
  all_goals (cases h; try rfl)
theorem renL_none : ∀ (l : List Value) {u : List Value}, renV.renL (fun _ => none) l = some u → u = l := by
  intro l u h
  cases l with
  | nil => simp only [renV.renL, Option.some.injEq] at h; exact h.symm
  | cons v l =>
    simp only [renV.renL] at h
    split at h <;> try (cases h; done)
    rename_i v' hv
    split at h <;> try (cases h; done)
    rename_i k hk
    cases h
    rw [renV_none _ hv, renL_none _ hk]
end

theorem VR.move {ρ ρ' : Ren} {v u v' : Value} (h : renV (fun _ => none) v = some u) (hr : VR ρ' v v') : VR ρ u v' := by
  have e := renV_none v h
  subst e
  exact (VR.unren u h hr).mono (fun i l e => by simp [comp] at e)

theorem CellsR.move {ρ ρ' : Ren} {w : World} {l : Loc} {own : Bool} {cs : List Value} (h : CellsR ρ w l own cs) (hf : flatV.flatL cs = true) : CellsR ρ' w l own cs := by
  obtain ⟨h1, h2, h3⟩ := CellsR.unren (s := fun _ => none) h (renL_flat _ _ hf) id
  refine ⟨h1, fun i v e => ?_, h3⟩
  obtain ⟨v', a, b⟩ := h2 i v e
  exact ⟨v', a, b.mono (fun i l e => by simp [comp] at e)⟩

mutual
theorem VR.ren {s : Nat → Option Nat} {ρ ρ2 : Ren} (hs : ∀ i k l, s i = some k → ρ i = some l → ρ2 k = some l) : ∀ (v : Value) {u v' : Value}, renV s v = some u → VR ρ v v' → VR ρ2 u v' := by
  intro v u v' h hr
  unfold renV at h
  split at h
  · split at h <;> cases h
    rename_i hj
    cases hr with | ptr hl => exact .ptr (hs _ _ _ hj hl)
  · split at h <;> cases h
    rename_i hj
    cases hr with
    | slice hl hn hc => exact .slice (hs _ _ _ hj hl) hn hc
    | slice0 a => exact .slice0 a
  · split at h <;> cases h
    rename_i ha hb
    cases hr with | func _ h1 h2 => exact .func _ (VRL.ren hs _ ha h1) (VRL.ren hs _ hb h2)
  · split at h <;> cases h
    rename_i hj
    cases hr with | yield hl => exact .yield (hs _ _ _ hj hl)
  · cases h; cases hr; exact .tnil _ _
  · split at h <;> cases h
    rename_i hj
    cases hr with | tsl _ hl hv => exact .tsl _ (hs _ _ _ hj hl) hv
  · split at h <;> cases h
    rename_i hj
    cases hr with | iface _ hl => exact .iface _ (VR.ren hs _ hj hl)
  · split at h <;> cases h
    rename_i hj
    cases hr with | agg hl => exact .agg (VRL.ren hs _ hj hl)
  · split at h <;> cases h
    rename_i hj
    cases hr with | tuple hl => exact .tuple (VRL.ren hs _ hj hl)
  · cases h; cases hr; exact .bool _
  · cases h; cases hr; exact .int _ _
  · cases h; cases hr; exact .string _
  · cases h; cases hr; exact .junk _ _ (by assumption)
  · cases h; cases hr; exact .nilp
  · cases h; cases hr; exact .nils _
  · cases h; cases hr; exact .nilf
  · cases h; cases hr; exact .nili
  · cases h
theorem VRL.ren {s : Nat → Option Nat} {ρ ρ2 : Ren} (hs : ∀ i k l, s i = some k → ρ i = some l → ρ2 k = some l) : ∀ (l : List Value) {u l' : List Value}, renV.renL s l = some u → VRL ρ l l' → VRL ρ2 u l' := by
  intro l u l' h hr
  cases l with
  | nil => simp only [renV.renL, Option.some.injEq] at h; subst h; cases hr; exact .nil
  | cons v l =>
    simp only [renV.renL] at h
    split at h <;> try (cases h; done)
    rename_i v' hv
    split at h <;> try (cases h; done)
    rename_i k hk
    cases h
    cases hr with | cons h1 h2 => exact .cons (VR.ren hs _ hv h1) (VRL.ren hs _ hk h2)
end

theorem CellsR.any {ρ : Ren} {w : World} {l : Loc} {own : Bool} {cs : List Value} (h : CellsR ρ w l own cs) (hf : flatV.flatL cs = true) : ∀ ρ', CellsR ρ' w l own cs := fun _ => CellsR.move h hf

theorem wcs_cs {ob : VObj} {x : List Value} (h : ob.wcs = some x) : ob.cs = some x ∧ writable ob = true ∧ (ob = .cells x ∨ ob = .row true x) := by
  cases ob with
  | cells cs => simp only [VObj.wcs, Option.some.injEq] at h; subst h; exact ⟨rfl, rfl, .inl rfl⟩
  | row own cs => cases own <;> simp only [VObj.wcs] at h <;> cases h; exact ⟨rfl, rfl, .inr rfl⟩
  | _ => cases h

theorem CellsR.win {ρ : Ren} {w : World} {l : Loc} {own : Bool} {cs : List Value} (h : CellsR ρ w l own cs) {o n e : Nat} (hle : o + n ≤ cs.length) (hn : n ≤ e) (he : o + e ≤ l.ext) : CellsR ρ w ⟨l.blk, l.sh + o, e⟩ own ((cs.drop o).take n) := by
  obtain ⟨g1, g2, g3⟩ := h
  have hlen : ((cs.drop o).take n).length = n := by simp; omega
  refine ⟨by simp only [hlen]; omega, fun i v e => ?_, fun i hi => ?_⟩
  · have hi : i < n := by
      rcases Nat.lt_or_ge i n with h' | h'
      · exact h'
      · rw [List.getElem?_eq_none (by omega)] at e; cases e
    rw [List.getElem?_take_of_lt hi, List.getElem?_drop] at e
    obtain ⟨v', a, b⟩ := g2 (o + i) v e
    exact ⟨v', by rw [← a]; simp [Nat.add_assoc], b⟩
  · have := g3 (o + i) (by simp only at hi; omega)
    simpa [Nat.add_assoc] using this

theorem CellsR.weak {ρ : Ren} {w : World} {l : Loc} {own : Bool} {cs : List Value} (h : CellsR ρ w l own cs) : CellsR ρ w l false cs := ⟨h.1, h.2.1, fun i hi => ⟨(h.2.2 i hi).1, fun e => by cases e⟩⟩


theorem rowsW_get : ∀ {os : List (Option VObj)} {k i : Nat} {o : VObj}, aget (rowsW k os) i = some o → k ≤ i ∧ os[i - k]? = some (some o)
  | [], k, i, o, e => by simp [rowsW, aget] at e
  | none :: os, k, i, o, e => by
    obtain ⟨h1, h2⟩ := rowsW_get (os := os) e
    exact ⟨by omega, by rw [show i - k = (i - (k + 1)) + 1 by omega]; simpa using h2⟩
  | some x :: os, k, i, o, e => by
    simp only [rowsW] at e
    have e' : aget ((k, x) :: rowsW (k + 1) os) i = if k = i then some x else aget (rowsW (k + 1) os) i := by
      simp only [aget]
      cases hb : Nat.beq k i with
      | true => rw [if_pos (Nat.eq_of_beq_eq_true hb)]; rfl
      | false => rw [if_neg (fun e => by subst e; simp at hb)]; rfl
    rw [e'] at e
    split at e
    · rename_i hk; cases e; subst hk; exact ⟨Nat.le_refl _, by simp⟩
    · obtain ⟨h1, h2⟩ := rowsW_get (os := os) e
      exact ⟨by omega, by rw [show i - k = (i - (k + 1)) + 1 by omega]; simpa using h2⟩

/-- where a window lies -/
def locW (ρ : Ren) : Wd → Option Loc
  | .no => none
  | .emp _ => some ⟨0, 0, 0⟩
  | .win b off n true => match ρ b with | some l => some ⟨l.blk, l.sh + off, n⟩ | none => none
  | .win b off _ false => match ρ b with | some l => some ⟨l.blk, l.sh + off, l.ext - off⟩ | none => none
  | .blk b _ => ρ b
def renW (ρ : Ren) (ws : List Wd) : Ren := fun i => match ws[i]? with | some x => locW ρ x | none => none

def isObj (o : VObj) (cs : List Value) : Prop := o = .row false cs ∨ o = .cells cs ∨ o = .row true cs
theorem isObj.cs {o : VObj} {cs : List Value} (h : isObj o cs) : o.cs = some cs := by rcases h with rfl | rfl | rfl <;> rfl
theorem isObj.objR {ρ : Ren} {w : World} {l : Loc} {o : VObj} {cs : List Value} (h : isObj o cs) (hc : CellsR ρ w l (writable o) cs) : ObjR P ρ w l o := by rcases h with rfl | rfl | rfl <;> exact hc
theorem isObj.mk (k : Nat) (cs : List Value) : isObj (mkObj k cs) cs ∧ writable (mkObj k cs) = isW k := by
  unfold mkObj isW
  split
  · exact ⟨.inl rfl, rfl⟩
  · exact ⟨.inr (.inl rfl), rfl⟩
  · rename_i h1 h2
    refine ⟨.inr (.inr rfl), ?_⟩
    split
    · rename_i h; exact absurd rfl h1
    · rfl

/-- what lies at one of the call's own numbers -/
def Spot (w : World) (H : Hp) (ρ ρc : Ren) (x : Wd) (o : VObj) : Prop :=
  ∃ l cs, locW ρ x = some l ∧ isObj o cs ∧ CellsR ρc w l (writable o) cs ∧ x.wr = writable o ∧
    (l.ext = 0 ∧ x.blk? = none ∨ ∃ b lb ob, x.blk? = some b ∧ aget H b = some ob ∧ ρ b = some lb ∧ l.blk = lb.blk ∧ lb.sh ≤ l.sh ∧ l.sh + l.ext ≤ lb.sh + lb.ext ∧ (x.wr = true → writable ob = true))

/-! values and cells with nil slices taken for rows of no cells -/
theorem VR.asRow {ρ ρ' : Ren} {s : Nat} {rv : Value} (h : VR ρ (.slice none 0 s) rv) (j sz : Nat) : VR ρ' (.slice (some ⟨j, 0, none⟩) 0 sz) rv := by
  cases h; exact .slice0 none

theorem setsL_ok {ρ : Ren} : ∀ {pats : List (Nat × Value)} {cs rcs : List Value}, VRL ρ cs rcs → (∀ p ∈ pats, ∀ r, rcs[p.1]? = some r → VR ρ p.2 r) → VRL ρ (setsL cs pats) rcs
  | [], cs, rcs, h, _ => h
  | (i, x) :: l, cs, rcs, h, hp => by
    refine setsL_ok (pats := l) ?_ (fun p hm => hp p (by simp [hm]))
    cases hr : rcs[i]? with
    | none =>
      have : cs.set i x = cs := List.set_eq_of_length_le (by rw [h.length]; exact List.getElem?_eq_none_iff.1 hr)
      rw [this]; exact h
    | some r =>
      have h1 := VRL.set i h (hp (i, x) (by simp) r hr)
      have : rcs.set i r = rcs := by
        apply List.ext_getElem?
        intro j
        rw [List.getElem?_set]
        split
        · rename_i e; subst e
          split
          · exact hr.symm
          · rename_i hl; rw [List.getElem?_eq_none (by omega)]
        · rfl
      rw [this] at h1; exact h1

theorem setsL_len : ∀ (pats : List (Nat × Value)) (cs : List Value), (setsL cs pats).length = cs.length
  | [], cs => rfl
  | (i, x) :: l, cs => by rw [setsL, setsL_len l]; simp

theorem CellsR.sets {ρ : Ren} {w : World} {l : Loc} {own : Bool} : ∀ {pats : List (Nat × Value)} {cs : List Value}, CellsR ρ w l own cs → (∀ p ∈ pats, ∀ r, w.cell? ⟨l.blk, l.sh + p.1, none⟩ = some r → VR ρ p.2 r) → CellsR ρ w l own (setsL cs pats)
  | [], cs, h, _ => h
  | (i, x) :: pats, cs, h, hp => by
    refine CellsR.sets (pats := pats) ?_ (fun p hm => hp p (by simp [hm]))
    obtain ⟨g1, g2, g3⟩ := h
    refine ⟨by simpa using g1, fun j v e => ?_, g3⟩
    rw [List.getElem?_set] at e
    split at e
    · rename_i hij; subst hij
      split at e
      · rename_i hl
        cases e
        obtain ⟨v', a, _⟩ := g2 i _ (List.getElem?_eq_getElem hl)
        exact ⟨v', a, hp (i, x) (by simp) v' a⟩
      · cases e
    · exact g2 j v e

theorem cellsL_one {v : Value} (h : ∀ cs, v ≠ .agg ⟨cs⟩) : cellsL v = [v] := by
  cases v <;> first | rfl | (rename_i a; exact absurd rfl (h a.toList))

theorem patchV_ok {ρ ρ' : Ren} {v v' rv : Value} {pats : List (Nat × Value)} (h : VR ρ v rv) (h' : VR ρ' v' rv) (hp : ∀ p ∈ pats, ∃ j sz s, p.2 = .slice (some ⟨j, 0, none⟩) 0 sz ∧ (cellsL v)[p.1]? = some (.slice none 0 s)) : VR ρ' (patchV v' pats) rv := by
  have hc := h.cells
  have hc' := h'.cells
  have hx : ∀ p ∈ pats, ∀ r, (cellsL rv)[p.1]? = some r → VR ρ' p.2 r := fun p hm r hr => by
    obtain ⟨j, sz, s, e, hn⟩ := hp p hm
    obtain ⟨r', e', hv⟩ := hc.get hn
    rw [show (cellsL rv)[p.1]? = some r' from e'] at hr; cases hr
    rw [e]; exact hv.asRow _ _
  unfold patchV
  split
  · exact h'
  · rename_i i x l
    split
    · rename_i cs
      cases h' with | agg hl => exact .agg (setsL_ok hl hx)
    · rename_i hna
      obtain ⟨j, sz, s, e, hn⟩ := hp (i, x) (by simp)
      have hrv : ∀ cs, rv ≠ .agg ⟨cs⟩ := fun cs e => by
        subst e
        generalize hz : Value.agg ⟨cs⟩ = z at h'
        cases h' <;> cases hz
        · rename_i k n hj; simp [Vm.oneC] at hj
        · rename_i hv'; rcases hv' with ⟨_, e⟩ | ⟨_, e, _⟩ <;> cases e
        · exact hna _ rfl
      have hlen := hc.length
      rw [cellsL_one hrv] at hlen
      have hi : i = 0 := by
        have : i < (cellsL v).length := by
          rcases Nat.lt_or_ge i (cellsL v).length with h | h
          · exact h
          · rw [List.getElem?_eq_none h] at hn; cases hn
        simp at hlen; omega
      subst hi
      exact hx (0, x) (by simp) rv (by rw [cellsL_one hrv]; rfl)

/-! the blocks that are found -/
theorem walkP_pre (h : Hp) (v : Value) : ∀ (ps : List Path) (bs : List PR), ∃ rest, walkP h v ps bs = bs ++ rest ∧ rest.length = ps.length ∧ ∀ (i : Nat) p, ps[i]? = some p → rest[i]? = some (findP h v ((walkP h v ps bs).take (bs.length + i)) p)
  | [], bs => ⟨[], by simp [walkP], rfl, fun i p e => by simp at e⟩
  | p :: ps, bs => by
    obtain ⟨rest, h1, h2, h3⟩ := walkP_pre h v ps (bs ++ [findP h v bs p])
    refine ⟨findP h v bs p :: rest, by rw [walkP, h1]; simp, by simp [h2], fun i q e => ?_⟩
    cases i with
    | zero =>
      simp at e; subst e
      rw [walkP, h1]; simp
    | succ i =>
      have := h3 i q (by simpa using e)
      rw [List.getElem?_cons_succ, this, walkP]
      simp only [List.length_append, List.length_singleton]
      rw [show bs.length + 1 + i = bs.length + (i + 1) by omega]

theorem walkP_get {h : Hp} {v : Value} {ps : List Path} {i : Nat} {p : Path} (e : ps[i]? = some p) : (walkP h v ps [])[i]? = some (findP h v ((walkP h v ps []).take i) p) := by
  obtain ⟨rest, h1, _, h3⟩ := walkP_pre h v ps []
  have := h3 i p e
  rw [h1] at this ⊢
  simpa using this

theorem prOf_nil {p : Path} {c : Option Value} {sz : Nat} (h : prOf p c = .nil sz) : ∃ s, c = some (.slice none 0 s) := by
  unfold prOf at h
  split at h
  · cases h
  · split at h
    · exact ⟨_, rfl⟩
    · split at h <;> cases h

/-- a nil slice that was found -/
theorem nil_spec {h : Hp} {v : Value} {ps : List Path} {i : Nat} {p : Path} {sz : Nat} (e : ps[i]? = some p) (hb : (walkP h v ps [])[i]? = some (.nil sz)) :
    (p.src = none → ∃ s, (cellsL v)[p.cell]? = some (.slice none 0 s)) ∧ ∀ j, p.src = some j → ∃ b ob cs s, (walkP h v ps [])[j]? = some (.hit b) ∧ aget h b = some ob ∧ ob.cs = some cs ∧ cs[p.cell]? = some (.slice none 0 s) := by
  rw [walkP_get e] at hb
  have hb := Option.some.inj hb
  unfold findP at hb
  refine ⟨fun hs => ?_, fun j hs => ?_⟩
  · rw [hs] at hb; exact prOf_nil hb
  · rw [hs] at hb
    simp only at hb
    split at hb <;> try (cases hb; done)
    rename_i b hj
    split at hb <;> try (cases hb; done)
    rename_i ob hob
    split at hb <;> try (cases hb; done)
    rename_i cs hcs
    obtain ⟨s, hn⟩ := prOf_nil hb
    refine ⟨b, ob, cs, s, ?_, hob, hcs, hn⟩
    have hji : j < i := by
      rcases Nat.lt_or_ge j i with h | h
      · exact h
      · rw [List.getElem?_eq_none (by simp; omega)] at hj; cases hj
    rwa [List.getElem?_take_of_lt hji] at hj

theorem numB_spec : ∀ {bs : List PR} {k b j : Nat}, numB k bs b = some j → k ≤ j ∧ bs[j - k]? = some (.hit b)
  | [], k, b, j, h => by simp [numB] at h
  | .no :: bs, k, b, j, h => by
    obtain ⟨h1, h2⟩ := numB_spec (bs := bs) (by simpa [numB] using h)
    exact ⟨by omega, by rw [show j - k = (j - (k + 1)) + 1 by omega]; simpa using h2⟩
  | .nil z :: bs, k, b, j, h => by
    obtain ⟨h1, h2⟩ := numB_spec (bs := bs) (by simpa [numB] using h)
    exact ⟨by omega, by rw [show j - k = (j - (k + 1)) + 1 by omega]; simpa using h2⟩
  | .hit c :: bs, k, b, j, h => by
    simp only [numB] at h
    cases hb : Nat.beq c b with
    | true =>
      rw [hb, cond_true] at h; cases h
      have := Nat.eq_of_beq_eq_true hb; subst this
      exact ⟨Nat.le_refl _, by simp⟩
    | false =>
      rw [hb, cond_false] at h
      obtain ⟨h1, h2⟩ := numB_spec (bs := bs) h
      exact ⟨by omega, by rw [show j - k = (j - (k + 1)) + 1 by omega]; simpa using h2⟩

theorem patsP_spec {src : Option Nat} : ∀ {ps : List Path} {bs : List PR} {k : Nat} {x : Nat × Value}, x ∈ patsP k src ps bs → ∃ i p sz, ps[i]? = some p ∧ bs[i]? = some (.nil sz) ∧ p.src = src ∧ x.1 = p.cell ∧ x.2 = .slice (some ⟨k + i, 0, none⟩) 0 sz
  | [], bs, k, x, h => by simp [patsP] at h
  | p :: ps, [], k, x, h => by simp [patsP] at h
  | p :: ps, y :: bs, k, x, h => by
    have up : x ∈ patsP (k + 1) src ps bs → ∃ i q sz, (p :: ps)[i]? = some q ∧ (y :: bs)[i]? = some (.nil sz) ∧ q.src = src ∧ x.1 = q.cell ∧ x.2 = .slice (some ⟨k + i, 0, none⟩) 0 sz := fun h => by
      obtain ⟨i, q, sz, h1, h2, h3, h4, h5⟩ := patsP_spec h
      exact ⟨i + 1, q, sz, by simpa using h1, by simpa using h2, h3, h4, by rw [h5, show k + 1 + i = k + (i + 1) by omega]⟩
    cases y with
    | no => exact up (by simpa [patsP] using h)
    | hit b => exact up (by simpa [patsP] using h)
    | nil sz =>
      simp only [patsP] at h
      cases hb : p.src == src with
      | false => rw [hb, cond_false] at h; exact up h
      | true =>
        rw [hb, cond_true] at h
        rcases List.mem_cons.1 h with h | h
        · subst h; exact ⟨0, p, sz, rfl, rfl, by simpa using hb, rfl, by simp⟩
        · exact up h

theorem winP_get : ∀ {ps : List Path} {bs : List PR} {i : Nat} {x : Wd}, (winP ps bs)[i]? = some x → ∃ p y, ps[i]? = some p ∧ bs[i]? = some y ∧ x = (match y with | .no => Wd.no | .nil _ => .emp (isW p.kind) | .hit b => .blk b (isW p.kind))
  | [], bs, i, x, h => by simp [winP] at h
  | p :: ps, [], i, x, h => by simp [winP] at h
  | p :: ps, y :: bs, 0, x, h => by
    refine ⟨p, y, rfl, rfl, ?_⟩
    cases y <;> (simp only [winP, List.getElem?_cons_zero, Option.some.injEq] at h; exact h.symm)
  | p :: ps, y :: bs, i + 1, x, h => by
    obtain ⟨q, z, h1, h2, h3⟩ := winP_get (ps := ps) (bs := bs) (i := i) (x := x) (by cases y <;> simpa [winP] using h)
    exact ⟨q, z, by simpa using h1, by simpa using h2, h3⟩
theorem winP_len : ∀ {ps : List Path} {bs : List PR}, bs.length = ps.length → (winP ps bs).length = ps.length
  | [], bs, _ => by simp [winP]
  | p :: ps, [], h => by simp at h
  | p :: ps, y :: bs, h => by cases y <;> simp [winP, winP_len (ps := ps) (bs := bs) (by simpa using h)]

theorem viewP_spec {h : Hp} {s : Nat → Option Nat} {pat : Option Nat → List (Nat × Value)} : ∀ {ps : List Path} {bs : List PR} {i0 : Nat} {l : List (Option VObj)}, viewP h s pat i0 ps bs = some l →
    l.length = ps.length ∧ ∀ (i : Nat) p y, ps[i]? = some p → bs[i]? = some y → match y with
      | .no => l[i]? = some none
      | .nil _ => l[i]? = some (some (mkObj p.kind []))
      | .hit b => ∃ ob cs cs', aget h b = some ob ∧ (cond (isW p.kind) ob.wcs ob.cs) = some cs ∧ renV.renL s cs = some cs' ∧ l[i]? = some (some (mkObj p.kind (setsL cs' (pat (some (i0 + i))))))
  | [], [], i0, l, e => by simp only [viewP, Option.some.injEq] at e; subst e; exact ⟨rfl, fun i p y h => by simp at h⟩
  | [], _ :: _, i0, l, e => by simp [viewP] at e
  | p :: ps, [], i0, l, e => by simp [viewP] at e
  | p :: ps, y :: bs, i0, l, e => by
    have up : ∀ (o : Option VObj) (l' : List (Option VObj)), viewP h s pat (i0 + 1) ps bs = some l' → l = o :: l' → (match y with
        | .no => o = none
        | .nil _ => o = some (mkObj p.kind [])
        | .hit b => ∃ ob cs cs', aget h b = some ob ∧ (cond (isW p.kind) ob.wcs ob.cs) = some cs ∧ renV.renL s cs = some cs' ∧ o = some (mkObj p.kind (setsL cs' (pat (some i0))))) →
        l.length = (p :: ps).length ∧ ∀ (i : Nat) q z, (p :: ps)[i]? = some q → (y :: bs)[i]? = some z → match z with
          | .no => l[i]? = some none
          | .nil _ => l[i]? = some (some (mkObj q.kind []))
          | .hit b => ∃ ob cs cs', aget h b = some ob ∧ (cond (isW q.kind) ob.wcs ob.cs) = some cs ∧ renV.renL s cs = some cs' ∧ l[i]? = some (some (mkObj q.kind (setsL cs' (pat (some (i0 + i)))))) := fun o l' h1 h2 h3 => by
      obtain ⟨g1, g2⟩ := viewP_spec h1
      subst h2
      refine ⟨by simp [g1], fun i q z hq hz => ?_⟩
      cases i with
      | zero =>
        simp at hq hz; subst hq; subst hz
        cases y with
        | no => simp only at h3 ⊢; simp [h3]
        | nil _ => simp only at h3 ⊢; simp [h3]
        | hit b => simp only at h3 ⊢; obtain ⟨ob, cs, cs', a, b', c, d⟩ := h3; exact ⟨ob, cs, cs', a, b', c, by simp [d]⟩
      | succ i =>
        have := g2 i q z (by simpa using hq) (by simpa using hz)
        rw [show i0 + 1 + i = i0 + (i + 1) by omega] at this
        cases z <;> simpa using this
    cases y with
    | no =>
      simp only [viewP] at e
      split at e <;> cases e
      exact up none _ (by assumption) rfl rfl
    | nil z =>
      simp only [viewP] at e
      split at e <;> cases e
      exact up _ _ (by assumption) rfl rfl
    | hit b =>
      simp only [viewP] at e
      split at e <;> try (cases e; done)
      split at e <;> try (cases e; done)
      split at e <;> try (cases e; done)
      split at e <;> cases e
      exact up _ _ (by assumption) rfl ⟨_, _, _, by assumption, by assumption, by assumption, rfl⟩

theorem CellsR.ren {s : Nat → Option Nat} {ρ ρ2 : Ren} {w : World} {l : Loc} {own : Bool} {cs cs' : List Value} (h : CellsR ρ w l own cs) (hs : ∀ i k l, s i = some k → ρ i = some l → ρ2 k = some l) (hr : renV.renL s cs = some cs') : CellsR ρ2 w l own cs' := by
  obtain ⟨g1, g2, g3⟩ := h
  obtain ⟨e1, e2⟩ := renL_get hr
  refine ⟨by omega, fun i v e => ?_, g3⟩
  have hi : i < cs.length := by
    rcases Nat.lt_or_ge i cs'.length with h | h
    · omega
    · rw [List.getElem?_eq_none h] at e; cases e
  obtain ⟨u, hu, hm⟩ := e2 i _ (List.getElem?_eq_getElem hi)
  rw [hm] at e; cases e
  obtain ⟨v', a, b⟩ := g2 i _ (List.getElem?_eq_getElem hi)
  exact ⟨v', a, VR.ren hs _ hu b⟩

theorem cs_cells {ρ : Ren} {w : World} {l : Loc} {ob : VObj} {cs : List Value} {k : Bool} (h : ObjR P ρ w l ob) (hc : (cond k ob.wcs ob.cs) = some cs) : CellsR ρ w l k cs ∧ ob.cs = some cs ∧ (k = true → writable ob = true) := by
  cases k with
  | true =>
    obtain ⟨e1, e2, e3⟩ := wcs_cs hc
    exact ⟨by rcases e3 with rfl | rfl <;> exact h, e1, fun _ => e2⟩
  | false =>
    obtain ⟨own, g⟩ := h.cells hc
    exact ⟨g.weak, hc, fun e => by cases e⟩

/-! the kinds of the windows -/
def kindsM : Md → List Nat
  | .v => []
  | .sl _ => [0]
  | .pt _ => [1]
  | .tr ps => ps.map (·.kind)
def kindsL : List Md → List Nat
  | [] => []
  | m :: ms => kindsM m ++ kindsL ms
def kindsOK : List Nat → List (Option VObj) → Prop
  | [], [] => True
  | k :: ks, o :: os => (∀ x, o = some x → ∃ cs, x = mkObj k cs) ∧ kindsOK ks os
  | _, _ => False
theorem kindsOK.append : ∀ {ks ks' : List Nat} {os os' : List (Option VObj)}, kindsOK ks os → kindsOK ks' os' → kindsOK (ks ++ ks') (os ++ os')
  | [], _, [], _, _, h => h
  | [], _, _ :: _, _, h, _ => h.elim
  | _ :: _, _, [], _, h, _ => h.elim
  | _ :: _, _, _ :: _, _, h, k => ⟨h.1, kindsOK.append h.2 k⟩
theorem viewP_kinds {h : Hp} {s : Nat → Option Nat} {pat : Option Nat → List (Nat × Value)} : ∀ {ps : List Path} {bs : List PR} {i0 : Nat} {l : List (Option VObj)}, viewP h s pat i0 ps bs = some l → kindsOK (ps.map (·.kind)) l
  | [], [], i0, l, e => by simp only [viewP, Option.some.injEq] at e; subst e; trivial
  | [], _ :: _, i0, l, e => by simp [viewP] at e
  | p :: ps, [], i0, l, e => by simp [viewP] at e
  | p :: ps, y :: bs, i0, l, e => by
    cases y with
    | no =>
      simp only [viewP] at e
      split at e <;> cases e
      exact ⟨fun x h => (by cases h), viewP_kinds (by assumption)⟩
    | nil z =>
      simp only [viewP] at e
      split at e <;> cases e
      exact ⟨fun x h => by cases h; exact ⟨_, rfl⟩, viewP_kinds (by assumption)⟩
    | hit b =>
      simp only [viewP] at e
      split at e <;> try (cases e; done)
      split at e <;> try (cases e; done)
      split at e <;> try (cases e; done)
      split at e <;> cases e
      exact ⟨fun x h => by cases h; exact ⟨_, rfl⟩, viewP_kinds (by assumption)⟩
theorem readArg_kinds {H : Hp} {k : Nat} {m : Md} {v a : Value} {os : List (Option VObj)} (hr : readArg H k m v = some (a, os)) : kindsOK (kindsM m) os := by
  cases m with
  | v => simp only [readArg] at hr; split at hr <;> cases hr; trivial
  | sl sz =>
    unfold readArg at hr
    split at hr <;> try contradiction
    · rename_i heq; cases heq; cases hr; exact ⟨fun x h => by cases h; exact ⟨_, rfl⟩, trivial⟩
    · rename_i heq; cases heq
      split at hr <;> try (cases hr; done)
      split at hr <;> try (cases hr; done)
      split at hr <;> try (cases hr; done)
      split at hr <;> try (cases hr; done)
      split at hr <;> cases hr
      exact ⟨fun x h => by cases h; exact ⟨_, rfl⟩, trivial⟩
  | pt n =>
    unfold readArg at hr
    split at hr <;> try contradiction
    · rename_i heq; cases heq; cases hr; exact ⟨fun x h => (by cases h), trivial⟩
    · rename_i heq; cases heq
      split at hr <;> try (cases hr; done)
      split at hr <;> try (cases hr; done)
      split at hr <;> try (cases hr; done)
      split at hr <;> cases hr
      exact ⟨fun x h => by cases h; exact ⟨_, rfl⟩, trivial⟩
  | tr ps =>
    simp only [readArg] at hr
    split at hr <;> try (cases hr; done)
    split at hr <;> cases hr
    exact viewP_kinds (by assumption)
theorem readArgs_kinds {H : Hp} : ∀ {ms : List Md} {vals aqs : List Value} {os : List (Option VObj)} {k : Nat}, readArgs H k ms vals = some (aqs, os) → kindsOK (kindsL ms) os
  | [], [], aqs, os, k, hr => by simp only [readArgs, Option.some.injEq, Prod.mk.injEq] at hr; obtain ⟨rfl, rfl⟩ := hr; trivial
  | [], _ :: _, aqs, os, k, hr => by simp [readArgs] at hr
  | _ :: _, [], aqs, os, k, hr => by simp [readArgs] at hr
  | m :: ms, v :: vs, aqs, os, k, hr => by
    simp only [readArgs] at hr
    split at hr <;> try (cases hr; done)
    split at hr <;> cases hr
    exact (readArg_kinds (by assumption)).append (readArgs_kinds (by assumption))
theorem kinds_nil {os : List (Option VObj)} (h : conts os = []) : os = [] := by
  cases os with
  | nil => rfl
  | cons o os => cases o <;> simp [conts] at h
theorem kinds_some {k : Nat} {ks : List Nat} {os : List (Option VObj)} {cs : List Value} {l : List (Option (List Value))} (hk : kindsOK (k :: ks) os) (h : conts os = some cs :: l) : ∃ os', os = some (mkObj k cs) :: os' ∧ kindsOK ks os' ∧ conts os' = l := by
  cases os with
  | nil => exact hk.elim
  | cons o os =>
    cases o with
    | none => simp [conts] at h
    | some o =>
      obtain ⟨cs', rfl⟩ := hk.1 o rfl
      simp only [conts, (isObj.mk k cs').1.cs, List.cons.injEq, Option.some.injEq] at h
      obtain ⟨rfl, h⟩ := h
      exact ⟨os, rfl, hk.2, h⟩
theorem kinds_none {k : Nat} {ks : List Nat} {os : List (Option VObj)} {l : List (Option (List Value))} (hk : kindsOK (k :: ks) os) (h : conts os = none :: l) : ∃ os', os = none :: os' ∧ kindsOK ks os' ∧ conts os' = l := by
  cases os with
  | nil => exact hk.elim
  | cons o os =>
    cases o with
    | none => exact ⟨os, rfl, hk.2, by simpa [conts] using h⟩
    | some o =>
      obtain ⟨cs', rfl⟩ := hk.1 o rfl
      simp [conts, (isObj.mk k cs').1.cs] at h

/-- one argument -/
theorem readArg_fit {w0 : World} {U : UG} {ρ ρc : Ren} {H : Hp} {top : Nat} {w : World} (h : HpR P w0 U ρ H top w) {k : Nat} {m : Md} {v a rv : Value} {os : List (Option VObj)} (hr : readArg H k m v = some (a, os)) (hv : VR ρ v rv)
    (hc : ∀ (i : Nat) x, (winM H m v)[i]? = some x → ρc (k + i) = locW ρ x) :
    VR ρc a rv ∧ os.length = (winM H m v).length ∧ ∀ (i : Nat) x, (winM H m v)[i]? = some x → (∀ o, os[i]? = some (some o) → Spot w H ρ ρc x o) ∧ (os[i]? = some none → x = .no) := by
  have flat : flatV v = true → VR ρc v rv := fun hf => (VR.unren (s := fun _ => none) v (renV_flat _ v hf) hv).mono (fun i l e => by simp [comp] at e)
  cases m with
  | v =>
    simp only [readArg] at hr
    split at hr <;> cases hr
    exact ⟨flat (by assumption), rfl, fun i x e => by simp [winM] at e⟩
  | sl sz =>
    unfold readArg at hr
    split at hr <;> try contradiction
    · rename_i heq; cases heq
      cases hr
      simp only [winM] at hc ⊢
      have hk := hc 0 _ rfl
      have e1 : rv = .slice none 0 0 := by cases hv; rfl
      subst e1
      refine ⟨.slice0 _, rfl, fun i x e => ?_⟩
      cases i with
      | zero =>
        simp at e; subst e
        refine ⟨fun o ho => ?_, fun ho => by simp at ho⟩
        simp at ho; subst ho
        exact ⟨⟨0, 0, 0⟩, [], rfl, .inl rfl, ⟨Nat.zero_le _, fun i v e => by simp at e, fun i hi => absurd hi (Nat.not_lt_zero _)⟩, rfl, .inl ⟨rfl, rfl⟩⟩
      | succ i => simp at e
    · rename_i heq; cases heq
      split at hr <;> try (cases hr; done)
      rename_i b o n sz' hsz
      subst hsz
      split at hr <;> try (cases hr; done)
      rename_i ob hob
      split at hr <;> try (cases hr; done)
      rename_i cs hcs
      split at hr <;> try (cases hr; done)
      rename_i hle
      split at hr <;> cases hr
      rename_i hflat
      obtain ⟨l, hl, hor, _⟩ := h.obj b ob hob
      obtain ⟨own, hcr⟩ := hor.cells hcs
      have hext : cs.length ≤ l.ext := hcr.1
      have hwin : CellsR ρc w ⟨l.blk, l.sh + o, l.ext - o⟩ false ((cs.drop o).take (n * sz)) := CellsR.any (hcr.win hle (by omega) (by omega)).weak hflat ρc
      simp only [winM] at hc ⊢
      have hk := hc 0 _ rfl
      simp only [locW, hl, Nat.add_zero] at hk
      refine ⟨?_, rfl, fun i x e => ?_⟩
      · cases hv with
        | @slice _ _ _ _ c l0 hl0 hn hcc =>
          rw [hl] at hl0; cases hl0
          exact .slice hk hn (by simp only; omega)
        | slice0 a => exact .slice0 _
      · cases i with
        | zero =>
          simp at e; subst e
          refine ⟨fun o ho => ?_, fun ho => by simp at ho⟩
          simp at ho; subst ho
          exact ⟨_, _, by simp only [locW, hl], .inl rfl, hwin, rfl, .inr ⟨b, l, ob, rfl, hob, hl, rfl, by simp, by simp only; omega, fun e => by cases e⟩⟩
        | succ i => simp at e
  | pt n =>
    unfold readArg at hr
    split at hr <;> try contradiction
    · rename_i heq; cases heq
      cases hr
      exact ⟨flat rfl, rfl, fun i x e => by
        simp only [winM] at e
        cases i with
        | zero => simp at e; subst e; exact ⟨fun o ho => by simp at ho, fun _ => rfl⟩
        | succ i => simp at e⟩
    · rename_i heq; cases heq
      split at hr <;> try (cases hr; done)
      rename_i b o _ ob hob
      split at hr <;> try (cases hr; done)
      rename_i cs hcs
      split at hr <;> try (cases hr; done)
      rename_i hle
      split at hr <;> cases hr
      rename_i hflat
      obtain ⟨e1, e2, e3⟩ := wcs_cs hcs
      obtain ⟨l, hl, hor, _⟩ := h.obj b ob hob
      have hcr : CellsR ρ w l true cs := by rcases e3 with rfl | rfl <;> exact hor
      have hext : cs.length ≤ l.ext := hcr.1
      simp only [winM] at hc ⊢
      have hk := hc 0 _ rfl
      simp only [locW, hl, Nat.add_zero] at hk
      refine ⟨?_, rfl, fun i x e => ?_⟩
      · cases hv with
        | ptr hl0 =>
          rw [hl] at hl0; cases hl0
          exact .ptr hk
      · cases i with
        | zero =>
          simp at e; subst e
          refine ⟨fun o ho => ?_, fun ho => by simp at ho⟩
          simp at ho; subst ho
          exact ⟨_, _, by simp only [locW, hl], .inr (.inl rfl), CellsR.any (hcr.win hle (Nat.le_refl _) (by omega)) hflat ρc, rfl, .inr ⟨b, l, ob, rfl, hob, hl, rfl, by simp, by simp only; omega, fun _ => e2⟩⟩
        | succ i => simp at e
  | tr ps =>
    simp only [readArg] at hr
    simp only [winM] at hc ⊢
    have hlen : (walkP H v ps []).length = ps.length := by simp [walkP_len]
    generalize hbs : walkP H v ps [] = bs at *
    split at hr <;> try (cases hr; done)
    rename_i v' hv'
    split at hr <;> cases hr
    rename_i l hview
    have hsp := viewP_spec hview
    have hs : ∀ i j lo, numB k bs i = some j → ρ i = some lo → ρc j = some lo := fun i j lo h1 h2 => by
      obtain ⟨g1, g2⟩ := numB_spec h1
      have hj : j - k < ps.length := by
        rcases Nat.lt_or_ge (j - k) bs.length with h | h
        · omega
        · rw [List.getElem?_eq_none h] at g2; cases g2
      have hw : (winP ps bs)[j - k]? = some (.blk i (isW ps[j - k].kind)) := by
        have hl' : j - k < (winP ps bs).length := by rw [winP_len hlen]; exact hj
        obtain ⟨p, y, q1, q2, q3⟩ := winP_get (List.getElem?_eq_getElem hl')
        rw [g2] at q2; cases q2
        rw [List.getElem?_eq_getElem hj] at q1; cases q1
        rw [List.getElem?_eq_getElem hl', q3]
      have := hc _ _ hw
      rw [show k + (j - k) = j by omega] at this
      rw [this]; exact h2
    refine ⟨?_, by rw [hsp.1, winP_len hlen], fun i x e => ?_⟩
    · refine patchV_ok hv (VR.ren hs v hv' hv) fun p hm => ?_
      obtain ⟨i, q, sz, q1, q2, q3, q4, q5⟩ := patsP_spec hm
      subst hbs
      obtain ⟨s, hn⟩ := (nil_spec q1 q2).1 q3
      exact ⟨_, _, _, q5, by rw [q4]; exact hn⟩
    · obtain ⟨p, y, q1, q2, q3⟩ := winP_get e
      have hvw := hsp.2 i p y q1 q2
      cases y with
      | no =>
        simp only at hvw q3
        exact ⟨fun o ho => by rw [hvw] at ho; simp at ho, fun _ => q3⟩
      | nil z =>
        simp only at hvw q3
        refine ⟨fun o ho => ?_, fun ho => by rw [hvw] at ho; simp at ho⟩
        rw [hvw] at ho; simp at ho; subst ho; subst q3
        obtain ⟨m1, m2⟩ := isObj.mk p.kind []
        exact ⟨⟨0, 0, 0⟩, [], rfl, m1, ⟨Nat.zero_le _, fun i v e => by simp at e, fun i hi => absurd hi (Nat.not_lt_zero _)⟩, m2.symm, .inl ⟨rfl, rfl⟩⟩
      | hit b =>
        simp only at hvw q3
        obtain ⟨ob, cs, cs', z1, z2, z3, z4⟩ := hvw
        refine ⟨fun o ho => ?_, fun ho => by rw [z4] at ho; simp at ho⟩
        rw [z4] at ho; simp at ho; subst ho; subst q3
        obtain ⟨lb, hl, hor, _⟩ := h.obj b ob z1
        obtain ⟨c1, c2, c3⟩ := cs_cells hor z2
        obtain ⟨m1, m2⟩ := isObj.mk p.kind (setsL cs' (patsP k (some i) ps bs))
        refine ⟨lb, _, hl, m1, ?_, m2.symm, .inr ⟨b, lb, ob, rfl, z1, hl, rfl, Nat.le_refl _, Nat.le_refl _, c3⟩⟩
        rw [m2]
        refine (c1.ren hs z3).sets fun x hm r hr => ?_
        obtain ⟨j, q, sz, r1, r2, r3, r4, r5⟩ := patsP_spec hm
        subst hbs
        obtain ⟨b', ob', cs2, s, n1, n2, n3, n4⟩ := (nil_spec r1 r2).2 i (by first | exact r3 | (rw [r3, Nat.zero_add]))
        rw [q2] at n1; cases n1
        rw [z1] at n2; cases n2
        rw [c2] at n3; cases n3
        obtain ⟨r', g1, g2⟩ := c1.2.1 _ _ n4
        rw [r4, g1] at hr; cases hr
        rw [r5]; exact g2.asRow _ _

theorem args_fit {w0 : World} {U : UG} {ρ ρc : Ren} {H : Hp} {top : Nat} {w : World} (h : HpR P w0 U ρ H top w) : ∀ {ms : List Md} {vals rvals aqs : List Value} {os : List (Option VObj)} {k : Nat}, readArgs H k ms vals = some (aqs, os) → VRL ρ vals rvals →
    (∀ (i : Nat) x, (winL H ms vals)[i]? = some x → ρc (k + i) = locW ρ x) →
    VRL ρc aqs rvals ∧ os.length = (winL H ms vals).length ∧ ∀ (i : Nat) x, (winL H ms vals)[i]? = some x → (∀ o, os[i]? = some (some o) → Spot w H ρ ρc x o) ∧ (os[i]? = some none → x = .no)
  | [], [], rvals, aqs, os, k, hr, hv, hc => by
    simp only [readArgs, Option.some.injEq, Prod.mk.injEq] at hr; obtain ⟨rfl, rfl⟩ := hr; cases hv
    exact ⟨.nil, rfl, fun i x e => by simp [winL] at e⟩
  | m :: ms, v :: vs, rvals, aqs, os, k, hr, hv, hc => by
    simp only [readArgs] at hr
    split at hr <;> try (cases hr; done)
    rename_i a os1 ha
    split at hr <;> cases hr
    rename_i as2 os2 has
    cases hv with | @cons _ v' _ l' h1 h2 =>
    simp only [winL] at hc ⊢
    obtain ⟨g1, g2, g3⟩ := readArg_fit h ha h1 (ρc := ρc) (fun i x e => hc i x (by rw [List.getElem?_append_left]; exact e; exact (List.getElem?_eq_some_iff.1 e).1))
    obtain ⟨k1, k2, k3⟩ := args_fit h has h2 (ρc := ρc) (fun i x e => by
      have := hc ((winM H m v).length + i) x (by rw [List.getElem?_append_right (by omega)]; simpa using e)
      rw [← this, g2]; congr 1; omega)
    refine ⟨.cons g1 k1, by simp [g2, k2], fun i x e => ?_⟩
    rcases Nat.lt_or_ge i (winM H m v).length with hi | hi
    · rw [List.getElem?_append_left hi] at e
      rw [List.getElem?_append_left (by omega)]
      exact g3 i x e
    · rw [List.getElem?_append_right hi] at e
      rw [List.getElem?_append_right (by omega), g2]
      exact k3 _ x e
  | [], _ :: _, _, _, _, _, hr, _, _ => by simp [readArgs] at hr
  | _ :: _, [], _, _, _, _, hr, _, _ => by simp [readArgs] at hr

end
end Go.Vm
