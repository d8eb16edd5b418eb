/- The engine, part 18: a summary from a walk. -/
import Derived.Test.YtgkpojcckgbcjaaVmLead
namespace Go.Vm
open Go Go.RowKit

def entry (k : Nat) : List Md → List SArg → List Value
  | .v :: ms, .v x :: aqs => x :: entry k ms aqs
  | .pt _ :: ms, .v x :: aqs => x :: entry k ms aqs
  | .sl sz :: ms, .sl n _ :: aqs => .slice (some ⟨k, 0, none⟩) n sz :: entry (k + 1) ms aqs
  | .pt _ :: ms, .pt _ :: aqs => .pointer (some ⟨k, 0, none⟩) :: entry (k + 1) ms aqs
  | _, _ => []

def rowsOf (k : Nat) : List SArg → Hp
  | .sl _ cs :: aqs => (k, .row false cs) :: rowsOf (k + 1) aqs
  | .pt cs :: aqs => (k, .cells cs) :: rowsOf (k + 1) aqs
  | .v _ :: aqs => rowsOf k aqs
  | [] => []

def wins : List SArg → Nat
  | .sl _ _ :: aqs => wins aqs + 1
  | .pt _ :: aqs => wins aqs + 1
  | .v _ :: aqs => wins aqs
  | [] => 0

/-- what a summary may take for granted of its arguments -/
def argsOK : List Md → List SArg → Prop
  | .v :: ms, .v x :: aqs => flatV x = true ∧ argsOK ms aqs
  | .pt _ :: ms, .v x :: aqs => x = .pointer none ∧ argsOK ms aqs
  | .sl sz :: ms, .sl n cs :: aqs => cs.length = n * sz ∧ flatV.flatL cs = true ∧ argsOK ms aqs
  | .pt n :: ms, .pt cs :: aqs => cs.length = n ∧ flatV.flatL cs = true ∧ argsOK ms aqs
  | [], [] => True
  | _, _ => False

/-- what the writable arguments hold at the end -/
def wrOK (H : Hp) : Nat → List SArg → List (List Value) → Prop
  | k, .pt cs :: aqs, c :: wr => aget H k = some (.cells c) ∧ c.length = cs.length ∧ wrOK H (k + 1) aqs wr
  | k, .sl _ _ :: aqs, wr => wrOK H (k + 1) aqs wr
  | k, .v _ :: aqs, wr => wrOK H k aqs wr
  | _, [], [] => True
  | _, _, _ => False

/-- the new rows, where they lie -/
def newOK (H : Hp) : List Nat → List (List Value) → Prop
  | j :: js, c :: cs => (aget H j = some (.row true c) ∨ aget H j = some (.cells c)) ∧ newOK H js cs
  | [], [] => True
  | _, _ => False

def Res (aqs : List SArg) (r : SRes) (v' : Value) (H' : Hp) : Prop :=
  ∃ js : List Nat, renV (fun i => js[i]?) r.v = some v' ∧ newOK H' js r.new ∧ js.Nodup ∧ (∀ j ∈ js, wins aqs ≤ j) ∧ wrOK H' 0 aqs r.wr

section
variable {P : Program} {F : Fns} {S : Sums}

mutual
theorem renV_none : ∀ (v : Value) {u : Value}, renV (fun _ => none) v = some u → u = v := by
  intro v u h
  unfold renV at h
  split at h
  · simp at h
  · simp at h
  · split at h <;> cases h
    rename_i ha hb
    rw [renL_none _ ha, renL_none _ hb]
  · simp at h
  · split at h <;> cases h
    rename_i hs
    rw [renV_none _ hs]
  · split at h <;> cases h
    rename_i hs
    rw [renL_none _ hs]
  · split at h <;> cases h
    rename_i hs
    rw [renL_none _ hs]
  all_goals (cases h; try rfl)
theorem renL_none : ∀ (l : List Value) {u : List Value}, renV.renL (fun _ => none) l = some u → u = l := by
  intro l u h
  cases l with
  | nil => simp only [renV.renL, Option.some.injEq] at h; exact h.symm
  | cons v l =>
    simp only [renV.renL] at h
    split at h <;> try (cases h; done)
    rename_i v' hv
    split at h <;> try (cases h; done)
    rename_i k hk
    cases h
    rw [renV_none _ hv, renL_none _ hk]
end

theorem VR.move {ρ ρ' : Ren} {v u v' : Value} (h : renV (fun _ => none) v = some u) (hr : VR ρ' v v') : VR ρ u v' := by
  have e := renV_none v h
  subst e
  exact (VR.unren u h hr).mono (fun i l e => by simp [comp] at e)

theorem CellsR.move {ρ ρ' : Ren} {w : World} {l : Loc} {own : Bool} {cs : List Value} (h : CellsR ρ w l own cs) (hf : flatV.flatL cs = true) : CellsR ρ' w l own cs := by
  obtain ⟨h1, h2, h3⟩ := CellsR.unren (s := fun _ => none) h (renL_flat _ _ hf) id
  refine ⟨h1, fun i v e => ?_, h3⟩
  obtain ⟨v', a, b⟩ := h2 i v e
  exact ⟨v', a, b.mono (fun i l e => by simp [comp] at e)⟩

mutual
theorem VR.ren {s : Nat → Option Nat} {ρ ρ2 : Ren} (hs : ∀ i k l, s i = some k → ρ i = some l → ρ2 k = some l) : ∀ (v : Value) {u v' : Value}, renV s v = some u → VR ρ v v' → VR ρ2 u v' := by
  intro v u v' h hr
  unfold renV at h
  split at h
  · split at h <;> cases h
    rename_i hj
    cases hr with | ptr hl => exact .ptr (hs _ _ _ hj hl)
  · split at h <;> cases h
    rename_i hj
    cases hr with
    | slice hl hn hc => exact .slice (hs _ _ _ hj hl) hn hc
    | slice0 a => exact .slice0 a
  · split at h <;> cases h
    rename_i ha hb
    cases hr with | func _ h1 h2 => exact .func _ (VRL.ren hs _ ha h1) (VRL.ren hs _ hb h2)
  · split at h <;> cases h
    rename_i hj
    cases hr with | yield hl => exact .yield (hs _ _ _ hj hl)
  · split at h <;> cases h
    rename_i hj
    cases hr with | iface _ hl => exact .iface _ (VR.ren hs _ hj hl)
  · split at h <;> cases h
    rename_i hj
    cases hr with | agg hl => exact .agg (VRL.ren hs _ hj hl)
  · split at h <;> cases h
    rename_i hj
    cases hr with | tuple hl => exact .tuple (VRL.ren hs _ hj hl)
  · cases h; cases hr; exact .bool _
  · cases h; cases hr; exact .int _ _
  · cases h; cases hr; exact .string _
  · cases h; cases hr; exact .junk _ _ (by assumption)
  · cases h; cases hr; exact .nilp
  · cases h; cases hr; exact .nils _
  · cases h; cases hr; exact .nilf
  · cases h; cases hr; exact .nili
  · cases h
theorem VRL.ren {s : Nat → Option Nat} {ρ ρ2 : Ren} (hs : ∀ i k l, s i = some k → ρ i = some l → ρ2 k = some l) : ∀ (l : List Value) {u l' : List Value}, renV.renL s l = some u → VRL ρ l l' → VRL ρ2 u l' := by
  intro l u l' h hr
  cases l with
  | nil => simp only [renV.renL, Option.some.injEq] at h; subst h; cases hr; exact .nil
  | cons v l =>
    simp only [renV.renL] at h
    split at h <;> try (cases h; done)
    rename_i v' hv
    split at h <;> try (cases h; done)
    rename_i k hk
    cases h
    cases hr with | cons h1 h2 => exact .cons (VR.ren hs _ hv h1) (VRL.ren hs _ hk h2)
end

theorem CellsR.any {ρ : Ren} {w : World} {l : Loc} {own : Bool} {cs : List Value} (h : CellsR ρ w l own cs) (hf : flatV.flatL cs = true) : ∀ ρ', CellsR ρ' w l own cs := fun _ => CellsR.move h hf

/-- how the arguments lie -/
inductive Fit (w : World) (H : Hp) (ρ ρc : Ren) : Nat → List Md → List Value → List Value → List SArg → Prop
  | nil (k : Nat) : Fit w H ρ ρc k [] [] [] []
  | v {k : Nat} {m : Md} {ms : List Md} {v : Value} {vs : List Value} {rv : Value} {rvs : List Value} {aqs : List SArg} (hm : m = .v ∨ (∃ n, m = .pt n) ∧ v = .pointer none) (hf : flatV v = true) (hr : VR ρc v rv)
      (t : Fit w H ρ ρc k ms vs rvs aqs) : Fit w H ρ ρc k (m :: ms) (v :: vs) (rv :: rvs) (.v v :: aqs)
  | sl {k sz n : Nat} {ms : List Md} {v : Value} {vs : List Value} {rv : Value} {rvs : List Value} {aqs : List SArg} {cs : List Value} {l : Loc} {ow : Option Win} (hw : winOf (.sl sz) v = some ow)
      (hl : ρc k = some l) (hc : ∀ ρ', CellsR ρ' w l false cs) (hn : cs.length = n * sz) (hf : flatV.flatL cs = true) (hr : VR ρc (.slice (some ⟨k, 0, none⟩) n sz) rv)
      (hs : l.ext = 0 ∨ ∃ win lb ob, ow = some win ∧ win.wr = false ∧ aget H win.b = some ob ∧ ρ win.b = some lb ∧ l.blk = lb.blk ∧ lb.sh ≤ l.sh ∧ l.sh + l.ext ≤ lb.sh + lb.ext)
      (t : Fit w H ρ ρc (k + 1) ms vs rvs aqs) : Fit w H ρ ρc k (.sl sz :: ms) (v :: vs) (rv :: rvs) (.sl n cs :: aqs)
  | pt {k n b off : Nat} {ms : List Md} {vs : List Value} {rv : Value} {rvs : List Value} {aqs : List SArg} {cs x : List Value} {lb : Loc} {ob : VObj}
      (hl : ρc k = some ⟨lb.blk, lb.sh + off, n⟩) (hc : ∀ ρ', CellsR ρ' w ⟨lb.blk, lb.sh + off, n⟩ true cs) (hn : cs.length = n) (hf : flatV.flatL cs = true) (hr : VR ρc (.pointer (some ⟨k, 0, none⟩)) rv)
      (hob : aget H b = some ob) (hx : ob.wcs = some x) (hlb : ρ b = some lb) (hle : off + n ≤ x.length)
      (t : Fit w H ρ ρc (k + 1) ms vs rvs aqs) : Fit w H ρ ρc k (.pt n :: ms) (.pointer (some ⟨b, off, none⟩) :: vs) (rv :: rvs) (.pt cs :: aqs)

theorem Fit.mono {w : World} {H : Hp} {ρ ρc ρd : Ren} (x : Ext ρc ρd) : ∀ {k : Nat} {ms : List Md} {vs rvs : List Value} {aqs : List SArg}, Fit w H ρ ρc k ms vs rvs aqs → Fit w H ρ ρd k ms vs rvs aqs
  | _, _, _, _, _, .nil k => .nil k
  | _, _, _, _, _, .v hm hf hr t => .v hm hf (hr.mono x) (t.mono x)
  | _, _, _, _, _, .sl hw hl hc hn hf hr hs t => .sl hw (x _ _ hl) hc hn hf (hr.mono x) hs (t.mono x)
  | _, _, _, _, _, .pt hl hc hn hf hr hob hx hlb hle t => .pt (x _ _ hl) hc hn hf (hr.mono x) hob hx hlb hle (t.mono x)

theorem Fit.args {w : World} {H : Hp} {ρ ρc : Ren} : ∀ {k : Nat} {ms : List Md} {vs rvs : List Value} {aqs : List SArg}, Fit w H ρ ρc k ms vs rvs aqs → argsOK ms aqs ∧ VRL ρc (entry k ms aqs) rvs
  | _, _, _, _, _, .nil k => ⟨trivial, .nil⟩
  | _, _, _, _, _, .v hm hf hr t => by
    obtain ⟨h1, h2⟩ := t.args
    rcases hm with rfl | ⟨⟨n, rfl⟩, rfl⟩
    · exact ⟨⟨hf, h1⟩, .cons hr h2⟩
    · exact ⟨⟨rfl, h1⟩, .cons hr h2⟩
  | _, _, _, _, _, .sl hw hl hc hn hf hr hs t => by
    obtain ⟨h1, h2⟩ := t.args
    exact ⟨⟨hn, hf, h1⟩, .cons hr h2⟩
  | _, _, _, _, _, .pt hl hc hn hf hr hob hx hlb hle t => by
    obtain ⟨h1, h2⟩ := t.args
    exact ⟨⟨hn, hf, h1⟩, .cons hr h2⟩

theorem wcs_cs {ob : VObj} {x : List Value} (h : ob.wcs = some x) : ob.cs = some x ∧ writable ob = true ∧ (ob = .cells x ∨ ob = .row true x) := by
  cases ob with
  | cells cs => simp only [VObj.wcs, Option.some.injEq] at h; subst h; exact ⟨rfl, rfl, .inl rfl⟩
  | row own cs => cases own <;> simp only [VObj.wcs] at h <;> cases h; exact ⟨rfl, rfl, .inr rfl⟩
  | _ => cases h

theorem flatO_spec {c : Option (List Value)} {o n : Nat} {K : List Value → SArg} {a : SArg} (h : flatO c o n K = some a) : ∃ cs, c = some cs ∧ o + n ≤ cs.length ∧ flatV.flatL ((cs.drop o).take n) = true ∧ a = K ((cs.drop o).take n) := by
  unfold flatO at h
  split at h <;> try (cases h; done)
  split at h <;> try (cases h; done)
  rename_i hle
  split at h <;> cases h
  rename_i hf
  exact ⟨_, rfl, hle, hf, rfl⟩

theorem CellsR.win {ρ : Ren} {w : World} {l : Loc} {own : Bool} {cs : List Value} (h : CellsR ρ w l own cs) {o n e : Nat} (hle : o + n ≤ cs.length) (hn : n ≤ e) (he : o + e ≤ l.ext) : CellsR ρ w ⟨l.blk, l.sh + o, e⟩ own ((cs.drop o).take n) := by
  obtain ⟨g1, g2, g3⟩ := h
  have hlen : ((cs.drop o).take n).length = n := by simp; omega
  refine ⟨by simp only [hlen]; omega, fun i v e => ?_, fun i hi => ?_⟩
  · have hi : i < n := by
      rcases Nat.lt_or_ge i n with h' | h'
      · exact h'
      · rw [List.getElem?_eq_none (by omega)] at e; cases e
    rw [List.getElem?_take_of_lt hi, List.getElem?_drop] at e
    obtain ⟨v', a, b⟩ := g2 (o + i) v e
    exact ⟨v', by rw [← a]; simp [Nat.add_assoc], b⟩
  · have := g3 (o + i) (by simp only at hi; omega)
    simpa [Nat.add_assoc] using this

theorem CellsR.weak {ρ : Ren} {w : World} {l : Loc} {own : Bool} {cs : List Value} (h : CellsR ρ w l own cs) : CellsR ρ w l false cs := ⟨h.1, h.2.1, fun i hi => ⟨(h.2.2 i hi).1, fun e => by cases e⟩⟩

theorem args_fit {w0 : World} {U : UG} {ρ : Ren} {H : Hp} {top : Nat} {w : World} (h : HpR P w0 U ρ H top w) : ∀ {ms : List Md} {vals rvals : List Value} {aqs : List SArg} (k : Nat), readArgs H ms vals = some aqs → VRL ρ vals rvals →
    ∃ ρc : Ren, (∀ i l, ρc i = some l → k ≤ i ∧ i < k + wins aqs) ∧ Fit w H ρ ρc k ms vals rvals aqs
  | [], [], rvals, aqs, k, hr, hv => by
    simp only [readArgs, Option.some.injEq] at hr; subst hr; cases hv
    exact ⟨fun _ => none, fun i l e => by simp at e, .nil k⟩
  | m :: ms, v :: vs, rvals, aqs, k, hr, hv => by
    simp only [readArgs] at hr
    split at hr <;> try (cases hr; done)
    rename_i a ha
    split at hr <;> try (cases hr; done)
    rename_i as' has
    cases hr
    cases hv with | @cons _ v' _ l' h1 h2 =>
    have flat : ∀ ρc : Ren, flatV v = true → VR ρc v v' := fun ρc hf => (VR.unren (s := fun _ => none) v (renV_flat _ v hf) h1).mono (fun i l e => by simp [comp] at e)
    have off : ∀ {ρc : Ren} {n : Nat}, (∀ i l, ρc i = some l → k + 1 ≤ i ∧ i < k + 1 + n) → ρc k = none := fun {ρc n} c1 => by
      cases e : ρc k with
      | none => rfl
      | some l => have := (c1 k l e).1; omega
    have bnd : ∀ {ρc : Ren} {n : Nat} (l : Loc), (∀ i l, ρc i = some l → k + 1 ≤ i ∧ i < k + 1 + n) → ∀ i l', upd ρc k l i = some l' → k ≤ i ∧ i < k + (n + 1) := fun {ρc n} l c1 i l' e => by
      by_cases hi : k = i
      · omega
      · rw [upd_ne _ _ hi] at e; have := c1 i l' e; omega
    unfold readArg at ha
    split at ha
    · split at ha <;> cases ha
      rename_i hf
      obtain ⟨ρc, c1, c2⟩ := args_fit h k has h2
      exact ⟨ρc, c1, .v (.inl rfl) hf (flat ρc hf) c2⟩
    · cases ha
      obtain ⟨ρc, c1, c2⟩ := args_fit h (k + 1) has h2
      have e1 : v' = .slice none 0 0 := by cases h1; rfl
      subst e1
      exact ⟨upd ρc k ⟨0, 0, 0⟩, bnd _ c1, .sl rfl (upd_same _ _ _) (fun ρ' => ⟨Nat.zero_le _, fun i v e => by simp at e, fun i hi => absurd hi (Nat.not_lt_zero _)⟩) (by simp) rfl (.slice0 _) (.inl rfl) (c2.mono (Ext.upd (off c1)))⟩
    · split at ha <;> try (cases ha; done)
      rename_i sz b o n sz' hsz
      subst hsz
      split at ha <;> try (cases ha; done)
      rename_i ob hob
      obtain ⟨cs, hcs, hle, hflat, rfl⟩ := flatO_spec ha
      obtain ⟨ρc, c1, c2⟩ := args_fit h (k + 1) has h2
      have hlen : ((cs.drop o).take (n * sz)).length = n * sz := by simp; omega
      obtain ⟨l, hl, hor, _⟩ := h.obj b ob hob
      obtain ⟨own, hcr⟩ := hor.cells hcs
      have hext : cs.length ≤ l.ext := hcr.1
      have hwin : ∀ ρ', CellsR ρ' w ⟨l.blk, l.sh + o, l.ext - o⟩ false ((cs.drop o).take (n * sz)) := CellsR.any (hcr.win hle (by omega) (by omega)).weak hflat
      refine ⟨upd ρc k ⟨l.blk, l.sh + o, l.ext - o⟩, bnd _ c1, .sl rfl (upd_same _ _ _) hwin hlen hflat ?_ (.inr ⟨_, l, ob, rfl, rfl, hob, hl, rfl, by simp, by simp only; omega⟩) (c2.mono (Ext.upd (off c1)))⟩
      cases h1 with
      | @slice _ _ _ _ c l0 hl0 hn hc =>
        rw [hl] at hl0; cases hl0
        exact .slice (upd_same _ _ _) hn (by simp only; omega)
      | slice0 a => exact .slice0 _
    · cases ha
      obtain ⟨ρc, c1, c2⟩ := args_fit h k has h2
      exact ⟨ρc, c1, .v (.inr ⟨⟨_, rfl⟩, rfl⟩) rfl (flat ρc rfl) c2⟩
    · split at ha <;> try (cases ha; done)
      rename_i n b o _ ob hob
      obtain ⟨cs, hcs, hle, hflat, rfl⟩ := flatO_spec ha
      obtain ⟨ρc, c1, c2⟩ := args_fit h (k + 1) has h2
      obtain ⟨e1, e2, e3⟩ := wcs_cs hcs
      obtain ⟨l, hl, hor, _⟩ := h.obj b ob hob
      have hcr : CellsR ρ w l true cs := by rcases e3 with rfl | rfl <;> exact hor
      have hext : cs.length ≤ l.ext := hcr.1
      have hlen : ((cs.drop o).take n).length = n := by simp; omega
      refine ⟨upd ρc k ⟨l.blk, l.sh + o, n⟩, bnd _ c1, .pt (upd_same _ _ _) (CellsR.any (hcr.win hle (Nat.le_refl _) (by omega)) hflat) hlen hflat ?_ hob hcs hl hle (c2.mono (Ext.upd (off c1)))⟩
      cases h1 with
      | ptr hl0 =>
        rw [hl] at hl0; cases hl0
        exact .ptr (upd_same _ _ _)
    · cases ha
  | [], _ :: _, _, _, _, hr, _ => by simp [readArgs] at hr
  | _ :: _, [], _, _, _, hr, _ => by simp [readArgs] at hr

end
end Go.Vm
