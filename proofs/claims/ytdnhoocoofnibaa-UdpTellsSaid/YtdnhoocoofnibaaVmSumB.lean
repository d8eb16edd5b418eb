/- The engine, part 22: a summary from a walk. -/
import Derived.Test.YtdnhoocoofnibaaVmSum
namespace Go.Vm
open Go Go.RowKit

section
variable {P : Program} {F : Fns} {S : Sums}

theorem aget_cons {α : Type} (k : Nat) (x : α) (l : List (Nat × α)) (i : Nat) : aget ((k, x) :: l) i = if k = i then some x else aget l i := by
  simp only [aget]
  cases hb : Nat.beq k i with
  | true => rw [if_pos (Nat.eq_of_beq_eq_true hb)]; rfl
  | false => rw [if_neg (fun e => by subst e; simp at hb)]; rfl

theorem winsBut_spec {b : Nat} {wr : Bool} : ∀ {ws : List Wd}, winsBut b wr ws = true → ∀ x ∈ ws, x.blk? = some b → wr = false ∧ x.wr = false
  | [], _, x, h, _ => by cases h
  | y :: l, h, x, hx, e => by
    simp only [winsBut] at h
    rcases List.mem_cons.1 hx with rfl | hx
    · rw [e] at h
      simp only [Nat.beq_refl, cond_true] at h
      cases h1 : wr <;> cases h2 : x.wr <;> simp_all
    · cases hy : y.blk? with
      | none => rw [hy] at h; exact winsBut_spec h x hx e
      | some c =>
        rw [hy] at h
        simp only at h
        cases hb : Nat.beq b c with
        | false => rw [hb, cond_false] at h; exact winsBut_spec h x hx e
        | true =>
          rw [hb, cond_true] at h
          cases h1 : wr <;> cases h2 : y.wr <;> simp only [h1, h2, cond_true, cond_false] at h <;> try (cases h; done)
          exact winsBut_spec h x hx e
theorem apartB_tail {x : Wd} {ws : List Wd} (h : apartB (x :: ws) = true) : apartB ws = true ∧ ∀ b, x.blk? = some b → winsBut b x.wr ws = true := by
  simp only [apartB] at h
  cases hx : x.blk? with
  | none => rw [hx] at h; exact ⟨h, fun b e => by cases e⟩
  | some b =>
    rw [hx] at h
    simp only at h
    cases hb : winsBut b x.wr ws with
    | true => rw [hb, cond_true] at h; exact ⟨h, fun c e => by cases e; exact hb⟩
    | false => rw [hb, cond_false] at h; cases h
theorem apartB_spec : ∀ {ws : List Wd}, apartB ws = true → ∀ (i j : Nat) x y b, i ≠ j → ws[i]? = some x → ws[j]? = some y → x.blk? = some b → y.blk? = some b → x.wr = false ∧ y.wr = false
  | [], _, i, j, x, y, b, _, hx, _, _, _ => by simp at hx
  | z :: ws, h, 0, 0, x, y, b, hij, _, _, _, _ => absurd rfl hij
  | z :: ws, h, 0, j + 1, x, y, b, hij, hx, hy, hb, hc => by
    simp at hx; subst hx
    exact winsBut_spec ((apartB_tail h).2 b hb) y (List.mem_of_getElem? (by simpa using hy)) hc
  | z :: ws, h, i + 1, 0, x, y, b, hij, hx, hy, hb, hc => by
    simp at hy; subst hy
    exact (winsBut_spec ((apartB_tail h).2 b hc) x (List.mem_of_getElem? (by simpa using hx)) hb).symm
  | z :: ws, h, i + 1, j + 1, x, y, b, hij, hx, hy, hb, hc => apartB_spec (apartB_tail h).1 i j x y b (by omega) (by simpa using hx) (by simpa using hy) hb hc

theorem Apart.sub {a b a' b' : Loc} (h : Apart a b) (h1 : a'.blk = a.blk) (h2 : a.sh ≤ a'.sh) (h3 : a'.sh + a'.ext ≤ a.sh + a.ext) (h4 : b'.blk = b.blk) (h5 : b.sh ≤ b'.sh) (h6 : b'.sh + b'.ext ≤ b.sh + b.ext) : Apart a' b' :=
  fun k e k1 k2 k3 k4 => h k (by rw [← h1, ← h4]; exact e) (by omega) (by omega) (by omega) (by omega)

/-- of two windows of which one may be written, neither lies in the other -/
theorem spots_apart {w0 w : World} {U : UG} {H : Hp} {top : Nat} {ρ ρc : Ren} (hh : HpR P w0 U ρ H top w) {ws : List Wd} (hap : apartB ws = true) {i j : Nat} {x y : Wd} {o o' : VObj} {l l' : Loc} (hij : i ≠ j) (hx : ws[i]? = some x) (hy : ws[j]? = some y)
    (h1 : Spot w H ρ ρc x o) (h2 : Spot w H ρ ρc y o') (hl : locW ρ x = some l) (hl' : locW ρ y = some l') (hw : writable o = true ∨ writable o' = true) : Apart l l' := by
  intro k ek k1 k2 k3 k4
  obtain ⟨l1, cs1, a1, _, _, a4, a5⟩ := h1
  obtain ⟨l2, cs2, b1, _, _, b4, b5⟩ := h2
  rw [hl] at a1; cases a1
  rw [hl'] at b1; cases b1
  rcases a5 with ⟨h0, _⟩ | ⟨b, lb, ob, g1, g2, g3, g4, g5, g6, g7⟩
  · omega
  · rcases b5 with ⟨h0, _⟩ | ⟨b', lb', ob', f1, f2, f3, f4, f5, f6, f7⟩
    · omega
    · by_cases hbb : b = b'
      · subst hbb
        obtain ⟨e1, e2⟩ := apartB_spec hap i j x y b hij hx hy g1 f1
        rw [a4] at e1; rw [b4] at e2
        rcases hw with hw | hw <;> simp_all
      · have ap : Apart lb lb' := by
          rcases hw with hw | hw
          · exact hh.dis _ _ _ _ _ _ hbb g2 f2 g3 f3 (g7 (a4.trans hw))
          · exact (hh.dis _ _ _ _ _ _ (Ne.symm hbb) f2 g2 f3 g3 (f7 (b4.trans hw))).symm
        exact ap.sub g4 g5 g6 f4 f5 f6 k ek k1 k2 k3 k4

/-! what a call leaves of the memory around it -/
theorem Keep.cell {u : Nat → Nat → Prop} {w w' : World} (h : Keep (.of u) w w') {b k : Nat} (hb : b < w.heap.size) (hu : ¬ u b k) (h0 : (w.cell? ⟨b, k, none⟩).isSome = true) :
    w'.cell? ⟨b, k, none⟩ = w.cell? ⟨b, k, none⟩ ∧ w'.frozen? ⟨b, k, none⟩ = w.frozen? ⟨b, k, none⟩ := by
  have := h.block b hb
  cases hx : w.heap[b]? with
  | none => rw [World.cell?, hx] at h0; simp at h0
  | some x =>
    cases x with
    | cells arr T fr =>
      rw [hx] at this
      obtain ⟨arr', fr', e, s, q, g⟩ := this
      have hk : k < arr.size := by simpa [World.cell?, hx] using h0
      obtain ⟨g1, g2⟩ := g k hu
      simp only [World.cell?, World.frozen?, hx, e]
      refine ⟨g1, ?_⟩
      have := g2 hk
      obtain ⟨fa, fb⟩ := fr
      obtain ⟨ga, gb⟩ := fr'
      simp only at this ⊢
      rw [Bool.eq_iff_iff]
      simpa using this.symm
    | _ => simp [World.cell?, hx] at h0

theorem Keep.other {u : Nat → Nat → Prop} {w w' : World} (h : Keep (.of u) w w') {b : Nat} (hb : b < w.heap.size) (hu : ¬ u b 0) (hn : ∀ c t f, w.heap[b]? ≠ some (.cells c t f)) : w'.heap[b]? = w.heap[b]? := by
  have := h.block b hb
  cases hx : w.heap[b]? with
  | none => rw [Array.getElem?_eq_none_iff] at hx; omega
  | some x =>
    rw [hx] at this
    cases x with
    | cells arr T fr => exact absurd hx (hn _ _ _)
    | _ =>
      rcases this with hz | he
      · exact absurd hz hu
      · exact he

theorem Keep.trans {U : UG} {u : Nat → Nat → Prop} {w0 w w' : World} (h : Keep U w0 w) (k : Keep (.of u) w w') (hu : ∀ b i, u b i → U.u b i ∨ w0.heap.size ≤ b) : Keep U w0 w' where
  os := k.os.trans h.os
  tape := k.tape.trans h.tape
  output := k.output.trans h.output
  size := Nat.le_trans h.size k.size
  block b hb := by
    have h1 := h.block b hb
    have h2 := k.block b (Nat.lt_of_lt_of_le hb h.size)
    have hz : ∀ i, ¬ U.u b i → ¬ u b i := fun i hn hx => by
      rcases hu b i hx with h' | h'
      · exact hn h'
      · omega
    cases hx : w0.heap[b]? with
    | none => rw [Array.getElem?_eq_none_iff] at hx; omega
    | some x =>
      rw [hx] at h1
      cases x with
      | cells arr T fr =>
        obtain ⟨arr', fr', e1, s1, q1, g1⟩ := h1
        rw [e1] at h2
        obtain ⟨arr2, fr2, e2, s2, q2, g2⟩ := h2
        refine ⟨arr2, fr2, e2, s2.trans s1, ?_, fun i hi => ⟨((g2 i (hz i hi)).1).trans (g1 i hi).1, fun hk => ((g1 i hi).2 hk).trans ((g2 i (hz i hi)).2 (by omega))⟩⟩
        rcases q2 with q2 | ⟨i, hi⟩
        · rcases q1 with q1 | q1
          · exact .inl (q2.trans q1)
          · exact .inr q1
        · rcases hu b i hi with h' | h'
          · exact .inr ⟨i, h'⟩
          · omega
      | _ =>
        rcases h1 with h1 | h1
        · exact .inl h1
        · rw [h1] at h2
          rcases h2 with h2 | h2
          · by_cases hU : U.u b 0
            · exact .inl hU
            · exact absurd h2 (hz 0 hU)
          · exact .inr (h2.trans rfl)

theorem Keep.shape {u : Nat → Nat → Prop} {w w' : World} (h : Keep (.of u) w w') {b : Nat} (hb : b < w.heap.size) {x : TypeId × Nat} (hx : w.shape? b = some x) : w'.shape? b = some x := by
  have := h.block b hb
  unfold World.shape? at hx ⊢
  split at hx
  · rename_i c e f hh
    rw [hh] at this
    obtain ⟨arr', fr', e1, s, _⟩ := this
    rw [e1]; simp only [s]; exact hx
  · cases hx

/-- an object none of whose places may be written -/
theorem ObjR.keep {u : Nat → Nat → Prop} {w w' : World} (hk : Keep (.of u) w w') {ρ ρ' : Ren} (x : Ext ρ ρ') {l : Loc} {o : VObj} (q2 : ObjR P ρ w l o) (hu : ∀ q, q < l.ext → ¬ u l.blk (l.sh + q)) : ObjR P ρ' w' l o := by
  have h0 : (∀ cs own, o ≠ .cells cs ∧ o ≠ .row own cs) → (∀ t cs, o ≠ .ty t cs) → 0 < l.ext → l.sh = 0 ∧ l.ext = 1 ∧ w'.heap[l.blk]? = w.heap[l.blk]? := fun hn hm he => by
    cases o with
    | cells cs => exact absurd rfl (hn cs true).1
    | row own cs => exact absurd rfl (hn cs own).2
    | ty t cs => exact absurd rfl (hm t cs)
    | siter sb p => exact ⟨q2.2.1, q2.2.2, Keep.other hk (q2.lt he) (by have := hu 0 he; rwa [q2.2.1] at this) (by rw [q2.1]; simp)⟩
    | loop r => exact ⟨q2.2.1, q2.2.2, Keep.other hk (q2.lt he) (by have := hu 0 he; rwa [q2.2.1] at this) (by obtain ⟨⟨r', a, _⟩, _⟩ := q2; rw [a]; simp)⟩
    | marks => exact ⟨q2.2.1, q2.2.2, Keep.other hk (q2.lt he) (by have := hu 0 he; rwa [q2.2.1] at this) (by rw [q2.1]; simp)⟩
  refine q2.stay x (fun q hq => ?_) (fun q hq => ?_) (fun hn he => ?_) (fun he y hy => Keep.shape hk (q2.lt he) hy)
  · cases o with
    | cells cs' => exact (Keep.cell hk (q2.lt (by omega)) (hu q hq) (q2.2.2 q hq).1).1
    | row own cs' => exact (Keep.cell hk (q2.lt (by omega)) (hu q hq) (q2.2.2 q hq).1).1
    | ty t cs' => exact (Keep.cell hk (ObjR.lt q2 (by omega)) (hu q hq) (q2.1.2.2 q hq).1).1
    | siter sb p => exact World.cell?_of_block (w := w) (h0 (fun _ _ => ⟨by simp, by simp⟩) (fun _ _ => by simp) (by omega)).2.2
    | loop r => exact World.cell?_of_block (w := w) (h0 (fun _ _ => ⟨by simp, by simp⟩) (fun _ _ => by simp) (by omega)).2.2
    | marks => exact World.cell?_of_block (w := w) (h0 (fun _ _ => ⟨by simp, by simp⟩) (fun _ _ => by simp) (by omega)).2.2
  · cases o with
    | cells cs' => exact (Keep.cell hk (q2.lt (by omega)) (hu q hq) (q2.2.2 q hq).1).2
    | row own cs' => exact (Keep.cell hk (q2.lt (by omega)) (hu q hq) (q2.2.2 q hq).1).2
    | ty t cs' => exact (Keep.cell hk (ObjR.lt q2 (by omega)) (hu q hq) (q2.1.2.2 q hq).1).2
    | siter sb p => exact World.frozen?_of_block (w := w) (h0 (fun _ _ => ⟨by simp, by simp⟩) (fun _ _ => by simp) (by omega)).2.2
    | loop r => exact World.frozen?_of_block (w := w) (h0 (fun _ _ => ⟨by simp, by simp⟩) (fun _ _ => by simp) (by omega)).2.2
    | marks => exact World.frozen?_of_block (w := w) (h0 (fun _ _ => ⟨by simp, by simp⟩) (fun _ _ => by simp) (by omega)).2.2
  · have nocell : ∀ own cs', CellsR ρ w l own cs' → False := fun own cs' hc => by
      have := (hc.2.2 0 he).1
      unfold World.cell? at this
      cases hh' : w.heap[l.blk]? with
      | none => simp [hh'] at this
      | some y => cases y <;> simp [hh'] at this <;> exact hn _ _ _ hh'
    cases o with
    | cells cs' => exact (nocell _ _ q2).elim
    | row own cs' => exact (nocell _ _ q2).elim
    | ty t cs' => exact (nocell _ _ q2.1).elim
    | siter sb p => exact (h0 (fun _ _ => ⟨by simp, by simp⟩) (fun _ _ => by simp) he).2.2
    | loop r => exact (h0 (fun _ _ => ⟨by simp, by simp⟩) (fun _ _ => by simp) he).2.2
    | marks => exact (h0 (fun _ _ => ⟨by simp, by simp⟩) (fun _ _ => by simp) he).2.2

/-! what is written back -/
structure WB (s : Nat → Option Nat) (H H1 : Hp) (ws : List Wd) (wr : List (Option (List Value))) : Prop where
  same : ∀ b, (∀ (i : Nat) x, ws[i]? = some x → x.wr = true → x.blk? ≠ some b) → aget H1 b = aget H b
  win : ∀ (i : Nat) b off n, ws[i]? = some (.win b off n true) → ∃ c c' ob x ob', wr[i]? = some (some c) ∧ aget H b = some ob ∧ ob.wcs = some x ∧ renV.renL s c = some c' ∧ (c'.length = n ∧ off + n ≤ x.length) ∧ ob.wr (setAt x off c') = some ob' ∧ aget H1 b = some ob'
  blk : ∀ (i : Nat) b, ws[i]? = some (.blk b true) → aget H1 b = none ∨ ∃ c c' ob ob', wr[i]? = some (some c) ∧ aget H b = some ob ∧ (∃ y, ob.wcs = some y) ∧ renV.renL s c = some c' ∧ ob.wr c' = some ob' ∧ aget H1 b = some ob'

theorem WB.skip {s : Nat → Option Nat} {H H1 : Hp} {x : Wd} {c : Option (List Value)} {ws : List Wd} {wr : List (Option (List Value))} (h : WB s H H1 ws wr) (hx : x.wr = false ∨ x.blk? = none) : WB s H H1 (x :: ws) (c :: wr) where
  same b hb := h.same b fun i y hy hw => hb (i + 1) y (by simpa using hy) hw
  win i b off n hi := by
    cases i with
    | zero => simp at hi; subst hi; rcases hx with hx | hx <;> cases hx
    | succ i => simpa using h.win i b off n (by simpa using hi)
  blk i b hi := by
    cases i with
    | zero => simp at hi; subst hi; rcases hx with hx | hx <;> cases hx
    | succ i => simpa using h.blk i b (by simpa using hi)

theorem WB.step {s : Nat → Option Nat} {H H0 H1 : Hp} {x : Wd} {c : Option (List Value)} {ws : List Wd} {wr : List (Option (List Value))} {b0 : Nat} (h : WB s H0 H1 ws wr) (hx : x.wr = true) (hb0 : x.blk? = some b0) (hu : winsBut b0 x.wr ws = true)
    (hne : ∀ b, b ≠ b0 → aget H0 b = aget H b)
    (hw : ∀ off n, x = .win b0 off n true → ∃ d c' ob y ob', c = some d ∧ aget H b0 = some ob ∧ ob.wcs = some y ∧ renV.renL s d = some c' ∧ (c'.length = n ∧ off + n ≤ y.length) ∧ ob.wr (setAt y off c') = some ob' ∧ aget H0 b0 = some ob')
    (hk : x = .blk b0 true → aget H0 b0 = none ∨ ∃ d c' ob ob', c = some d ∧ aget H b0 = some ob ∧ (∃ y, ob.wcs = some y) ∧ renV.renL s d = some c' ∧ ob.wr c' = some ob' ∧ aget H0 b0 = some ob') : WB s H H1 (x :: ws) (c :: wr) := by
  have hrest : ∀ (i : Nat) y, ws[i]? = some y → y.wr = true → y.blk? ≠ some b0 := fun i y hy hyw e => by
    have := (winsBut_spec hu y (List.mem_of_getElem? hy) e).2
    rw [hyw] at this; cases this
  have h0 : aget H1 b0 = aget H0 b0 := h.same b0 hrest
  refine ⟨fun b hb => ?_, fun i b off n hi => ?_, fun i b hi => ?_⟩
  · have : b ≠ b0 := fun e => hb 0 x rfl hx (by rw [e]; exact hb0)
    rw [h.same b fun i y hy hw => hb (i + 1) y (by simpa using hy) hw, hne b this]
  · cases i with
    | zero =>
      simp at hi; subst hi
      simp only [Wd.blk?, Option.some.injEq] at hb0; subst hb0
      obtain ⟨d, c', ob, y, ob', rfl, r⟩ := hw off n rfl
      exact ⟨d, c', ob, y, ob', rfl, by rw [h0]; exact r⟩
    | succ i =>
      have hi' : ws[i]? = some (.win b off n true) := by simpa using hi
      obtain ⟨d, c', ob, y, ob', r1, r2, r3⟩ := h.win i b off n hi'
      have : b ≠ b0 := fun e => hrest i _ hi' rfl (by rw [e]; rfl)
      exact ⟨d, c', ob, y, ob', by simpa using r1, by rw [← hne b this]; exact r2, r3⟩
  · cases i with
    | zero =>
      simp at hi; subst hi
      simp only [Wd.blk?, Option.some.injEq] at hb0; subst hb0
      rcases hk rfl with hk | ⟨d, c', ob, ob', rfl, r⟩
      · exact .inl (h0.trans hk)
      · exact .inr ⟨d, c', ob, ob', rfl, by rw [h0]; exact r⟩
    | succ i =>
      have hi' : ws[i]? = some (.blk b true) := by simpa using hi
      have : b ≠ b0 := fun e => hrest i _ hi' rfl (by rw [e]; rfl)
      rcases h.blk i b hi' with r | ⟨d, c', ob, ob', r1, r2, r3⟩
      · exact .inl r
      · exact .inr ⟨d, c', ob, ob', by simpa using r1, by rw [← hne b this]; exact r2, r3⟩

theorem wback_spec (s : Nat → Option Nat) : ∀ {ws : List Wd} {wr : List (Option (List Value))} {H H1 : Hp}, apartB ws = true → wback H s ws wr = some H1 → WB s H H1 ws wr
  | [], [], H, H1, _, h => by
    simp only [wback, Option.some.injEq] at h; subst h
    exact ⟨fun _ _ => rfl, fun i b off n e => by simp at e, fun i b e => by simp at e⟩
  | [], _ :: _, H, H1, _, h => by simp [wback] at h
  | x :: ws, [], H, H1, _, hr => by
    cases x with
    | win b off n wr => cases wr <;> simp [wback] at hr
    | blk b wr => cases wr <;> simp [wback] at hr
    | _ => simp [wback] at hr
  | .no :: ws, c :: cs, H, H1, ha, hr => (wback_spec s (apartB_tail ha).1 (by simpa [wback] using hr)).skip (.inr rfl)
  | .emp w :: ws, c :: cs, H, H1, ha, hr => (wback_spec s (apartB_tail ha).1 (by simpa [wback] using hr)).skip (.inr rfl)
  | .win b off n false :: ws, c :: cs, H, H1, ha, hr => (wback_spec s (apartB_tail ha).1 (by simpa [wback] using hr)).skip (.inl rfl)
  | .blk b false :: ws, c :: cs, H, H1, ha, hr => (wback_spec s (apartB_tail ha).1 (by simpa [wback] using hr)).skip (.inl rfl)
  | .win b off n true :: ws, none :: cs, H, H1, ha, hr => by simp [wback] at hr
  | .win b off n true :: ws, some c :: cs, H, H1, ha, hr => by
    simp only [wback] at hr
    split at hr <;> try (cases hr; done)
    rename_i ob hob
    split at hr <;> try (cases hr; done)
    rename_i x hx
    split at hr <;> try (cases hr; done)
    rename_i c' hc'
    split at hr <;> try (cases hr; done)
    rename_i hc
    split at hr <;> try (cases hr; done)
    rename_i ob' hob'
    refine (wback_spec s (apartB_tail ha).1 hr).step rfl rfl ((apartB_tail ha).2 b rfl) (fun d hd => aget_aput_ne _ _ (Ne.symm hd)) (fun off' n' e => ?_) (fun e => by cases e)
    cases e
    exact ⟨c, c', ob, x, ob', rfl, hob, hx, hc', hc, hob', aget_aput_same _ _ _⟩
  | .blk b true :: ws, none :: cs, H, H1, ha, hr => by
    simp only [wback] at hr
    exact (wback_spec s (apartB_tail ha).1 hr).step rfl rfl ((apartB_tail ha).2 b rfl) (fun d hd => aget_adel_ne _ (Ne.symm hd)) (fun off' n' e => by cases e) (fun _ => .inl (aget_adel_same _ _))
  | .blk b true :: ws, some c :: cs, H, H1, ha, hr => by
    simp only [wback] at hr
    split at hr <;> try (cases hr; done)
    rename_i ob hob
    split at hr <;> try (cases hr; done)
    rename_i y hy
    split at hr <;> try (cases hr; done)
    rename_i c' hc'
    split at hr <;> try (cases hr; done)
    rename_i ob' hob'
    exact (wback_spec s (apartB_tail ha).1 hr).step rfl rfl ((apartB_tail ha).2 b rfl) (fun d hd => aget_aput_ne _ _ (Ne.symm hd)) (fun off' n' e => by cases e) (fun _ => .inr ⟨c, c', ob, ob', rfl, hob, ⟨y, hy⟩, hc', hob', aget_aput_same _ _ _⟩)

theorem addNew_spec {s : Nat → Option Nat} : ∀ {new : List (List Value)} {H H' : Hp} {top : Nat}, addNew H s top new = some H' → (∀ b, b < top ∨ top + new.length ≤ b → aget H' b = aget H b) ∧ ∀ (i : Nat) c, new[i]? = some c → ∃ c', renV.renL s c = some c' ∧ aget H' (top + i) = some (.row true c')
  | [], H, H', top, h => by simp only [addNew, Option.some.injEq] at h; subst h; exact ⟨fun _ _ => rfl, fun i c e => by simp at e⟩
  | c :: new, H, H', top, h => by
    simp only [addNew] at h
    split at h <;> try (cases h; done)
    rename_i c' hc'
    obtain ⟨g1, g2⟩ := addNew_spec h
    refine ⟨fun b hb => ?_, fun i d e => ?_⟩
    · simp only [List.length_cons] at hb
      rw [g1 b (by omega), aget_aput_ne _ _ (by omega)]
    · cases i with
      | zero => simp at e; subst e; exact ⟨c', hc', by rw [Nat.add_zero, g1 top (by omega), aget_aput_same]⟩
      | succ i =>
        obtain ⟨d', e1, e2⟩ := g2 i d (by simpa using e)
        exact ⟨d', e1, by rw [← e2]; congr 1; omega⟩
theorem addEmp_spec : ∀ (n : Nat) {H : Hp} {m : Nat}, (∀ b, b < m ∨ m + n ≤ b → aget (addEmp H m n) b = aget H b) ∧ ∀ b, m ≤ b → b < m + n → aget (addEmp H m n) b = some (.row true [])
  | 0, H, m => ⟨fun _ _ => rfl, fun b h1 h2 => by omega⟩
  | n + 1, H, m => by
    obtain ⟨g1, g2⟩ := addEmp_spec n (H := aput H m (.row true [])) (m := m + 1)
    refine ⟨fun b hb => ?_, fun b h1 h2 => ?_⟩
    · simp only [addEmp]; rw [g1 b (by omega), aget_aput_ne _ _ (by omega)]
    · simp only [addEmp]
      by_cases hb : b = m
      · subst hb; rw [g1 b (by omega), aget_aput_same]
      · exact g2 b (by omega) (by omega)

theorem numW_spec : ∀ {ws : List Wd} {m j k : Nat}, numW m ws j = some k → (∃ b wr, ws[j]? = some (.blk b wr) ∧ k = b) ∨ (∃ w, ws[j]? = some (.emp w) ∧ m ≤ k ∧ k < m + emps ws)
  | [], m, j, k, h => by simp [numW] at h
  | x :: ws, m, 0, k, h => by
    cases x with
    | blk b wr => simp only [numW, Option.some.injEq] at h; subst h; exact .inl ⟨b, wr, rfl, rfl⟩
    | emp w => simp only [numW, Option.some.injEq] at h; subst h; exact .inr ⟨w, rfl, Nat.le_refl _, by simp only [emps]; omega⟩
    | _ => simp [numW] at h
  | x :: ws, m, j + 1, k, h => by
    have up : ∀ m', numW m' ws j = some k → m ≤ m' → m' + emps ws ≤ m + emps (x :: ws) → (∃ b wr, (x :: ws)[j + 1]? = some (.blk b wr) ∧ k = b) ∨ (∃ w, (x :: ws)[j + 1]? = some (.emp w) ∧ m ≤ k ∧ k < m + emps (x :: ws)) := fun m' h1 h2 h3 => by
      rcases numW_spec h1 with ⟨b, wr, e1, e2⟩ | ⟨w, e1, e2, e3⟩
      · exact .inl ⟨b, wr, by simpa using e1, e2⟩
      · exact .inr ⟨w, by simpa using e1, by omega, by omega⟩
    cases x with
    | emp w => exact up (m + 1) (by simpa [numW] using h) (by omega) (by simp only [emps]; omega)
    | no => exact up m (by simpa [numW] using h) (Nat.le_refl _) (by simp [emps])
    | win => exact up m (by simpa [numW] using h) (Nat.le_refl _) (by simp [emps])
    | blk => exact up m (by simpa [numW] using h) (Nat.le_refl _) (by simp [emps])

theorem newOK_get {H : Hp} {s : Nat → Option Nat} : ∀ {js : List Nat} {new : List (List Value)}, newOK H s js new → js.length = new.length ∧ ∀ (i : Nat) j, js[i]? = some j → ∃ c c', new[i]? = some c ∧ renV.renL s c = some c' ∧ Has H j c'
  | [], [], _ => ⟨rfl, fun i j e => by simp at e⟩
  | j :: js, c :: new, h => by
    obtain ⟨h1, h2⟩ := newOK_get h.2
    refine ⟨by simp [h1], fun i x e => ?_⟩
    cases i with
    | zero => simp at e; subst e; obtain ⟨c', a, b⟩ := h.1; exact ⟨c, c', rfl, a, b⟩
    | succ i => simpa using h2 i x (by simpa using e)
  | [], _ :: _, h => h.elim
  | _ :: _, [], h => h.elim
theorem wrOK_get {H : Hp} {s : Nat → Option Nat} : ∀ {wr : List (Option (List Value))} {k : Nat}, wrOK H s k wr → ∀ (i : Nat) c, wr[i]? = some (some c) → ∃ c', renV.renL s c = some c' ∧ Has H (k + i) c'
  | [], k, h, i, c, e => by simp at e
  | none :: wr, k, h, i, c, e => by
    cases i with
    | zero => simp at e
    | succ i =>
      obtain ⟨c', a, b⟩ := wrOK_get (k := k + 1) (wr := wr) h i c (by simpa using e)
      exact ⟨c', a, by rw [show k + (i + 1) = k + 1 + i by omega]; exact b⟩
  | some d :: wr, k, h, i, c, e => by
    cases i with
    | zero => simp at e; subst e; exact h.1
    | succ i =>
      obtain ⟨c', a, b⟩ := wrOK_get (k := k + 1) (wr := wr) h.2 i c (by simpa using e)
      exact ⟨c', a, by rw [show k + (i + 1) = k + 1 + i by omega]; exact b⟩

theorem Has.obj {H : Hp} {j : Nat} {c : List Value} (h : Has H j c) : ∃ o, aget H j = some o ∧ writable o = true ∧ ∀ {P : Program} {ρ : Ren} {w : World} {l : Loc}, ObjR P ρ w l o → CellsR ρ w l true c := by
  rcases h with h | h | ⟨d, m, h, rfl⟩
  · exact ⟨_, h, rfl, fun h => h⟩
  · exact ⟨_, h, rfl, fun h => h⟩
  · refine ⟨_, h, rfl, fun {P ρ w l} ⟨g1, g2, g3⟩ => ⟨by simp; omega, fun i v e => g2 i v ?_, g3⟩⟩
    rw [List.getElem?_take] at e
    split at e
    · exact e
    · cases e

theorem pw_of {α : Type} {R : α → α → Prop} : ∀ {l : List α}, (∀ (i j : Nat) a b, i < j → l[i]? = some a → l[j]? = some b → R a b) → l.Pairwise R
  | [], _ => .nil
  | x :: l, h => by
    rw [List.pairwise_cons]
    refine ⟨fun y hy => ?_, pw_of fun i j a b hij ha hb => h (i + 1) (j + 1) a b (by omega) (by simpa using ha) (by simpa using hb)⟩
    obtain ⟨j, hj⟩ := List.getElem?_of_mem hy
    exact h 0 (j + 1) x y (by omega) rfl (by simpa using hj)

theorem locs_of {ρ : Ren} : ∀ {js : List Nat}, (∀ j ∈ js, ∃ l, ρ j = some l) → ∃ ls : List Loc, ls.length = js.length ∧ ∀ (i : Nat) j, js[i]? = some j → ∃ l, ls[i]? = some l ∧ ρ j = some l
  | [], _ => ⟨[], rfl, fun i j e => by simp at e⟩
  | j :: js, h => by
    obtain ⟨l, hl⟩ := h j (by simp)
    obtain ⟨ls, g1, g2⟩ := locs_of (js := js) fun x hx => h x (by simp [hx])
    refine ⟨l :: ls, by simp [g1], fun i x e => ?_⟩
    cases i with
    | zero => simp at e; subst e; exact ⟨l, rfl, hl⟩
    | succ i => simpa using g2 i x (by simpa using e)

theorem wcs_wr {ob ob' : VObj} {x y : List Value} (hw : ob.wcs = some x) (hx : ob.wr y = some ob') : isObj ob' y ∧ writable ob' = true ∧ writable ob = true := by
  unfold VObj.wr at hx
  split at hx <;> cases hx
  · exact ⟨.inr (.inl rfl), rfl, rfl⟩
  · exact ⟨.inr (.inr rfl), rfl, rfl⟩
  · cases hw

theorem SumOK.of_leads (hF : FnsOK P F) {f : Nat} {s : Summ}
    (h : ∀ aqs os r, kindsOK (kindsL s.modes) os → s.run aqs (conts os) = some r → ∃ c, enterF F f aqs = some c ∧ Leads P f os.length ⟨c, [], rowsW 0 os, os.length⟩ (fun v' H' _ => Res os.length r v' H'))
    (hfn : ∃ fn, P.funcs[f]? = some fn ∧ fn.name ≠ "runtime.NumGoroutine" ∧ fn.body.isSome = true) : SumOK P f s where
  fn := hfn
  calls := by
    intro w0 U ρ H top w vals rvals v H' top' hlo hg hh hv hs cs
    unfold sumRun at hs
    split at hs <;> try (cases hs; done)
    rename_i aqs os has
    split at hs <;> try (cases hs; done)
    rename_i v0 new wr hrun
    split at hs <;> try (cases hs; done)
    rename_i hap
    split at hs <;> try (cases hs; done)
    rename_i H1 hwb
    split at hs <;> try (cases hs; done)
    rename_i H2 hadd
    split at hs <;> try (cases hs; done)
    rename_i v2 hren
    cases hs
    obtain ⟨a1, a2, a3⟩ := args_fit hh (ρc := renW ρ (winL H s.modes vals)) (k := 0) has hv (fun i x e => by simp [renW, e])
    have kinds := readArgs_kinds has
    generalize winL H s.modes vals = ws at *
    obtain ⟨c, hc, hl⟩ := h aqs os _ kinds hrun
    have hρc : ∀ (i : Nat) x, ws[i]? = some x → renW ρ ws i = locW ρ x := fun i x e => by simp [renW, e]
    have spot : ∀ (i : Nat) o, os[i]? = some (some o) → ∃ x, ws[i]? = some x ∧ Spot w H ρ (renW ρ ws) x o := fun i o e => by
      have hi : i < ws.length := by rw [← a2]; exact (List.getElem?_eq_some_iff.1 e).1
      exact ⟨ws[i], List.getElem?_eq_getElem hi, (a3 i _ (List.getElem?_eq_getElem hi)).1 o e⟩
    have spotW : ∀ (i : Nat) x, ws[i]? = some x → x ≠ .no → ∃ o, os[i]? = some (some o) ∧ Spot w H ρ (renW ρ ws) x o := fun i x e hn => by
      have hi : i < os.length := by rw [a2]; exact (List.getElem?_eq_some_iff.1 e).1
      cases ho : os[i] with
      | none => exact absurd ((a3 i x e).2 (by rw [List.getElem?_eq_getElem hi, ho])) hn
      | some o => exact ⟨o, by rw [List.getElem?_eq_getElem hi, ho], (a3 i x e).1 o (by rw [List.getElem?_eq_getElem hi, ho])⟩
    let u : Nat → Nat → Prop := fun b k => ∃ (i : Nat) (x : Wd) (o : VObj) (l : Loc), ws[i]? = some x ∧ os[i]? = some (some o) ∧ writable o = true ∧ locW ρ x = some l ∧ l.blk = b ∧ l.sh ≤ k ∧ k < l.sh + l.ext
    have hpc : HpR P w (.of u) (renW ρ ws) (rowsW 0 os) os.length w :=
      { obj := fun i o e => by
          obtain ⟨_, e2⟩ := rowsW_get e
          rw [Nat.sub_zero] at e2
          obtain ⟨x, hx, l, cs', q1, q2, q3, q4, _⟩ := spot i o e2
          exact ⟨l, by rw [hρc i x hx]; exact q1, q2.objR q3, fun hw k k1 k2 => .inl ⟨i, x, o, l, hx, e2, hw, q1, rfl, k1, k2⟩⟩
        dis := fun i j oi oj li lj hij hi hj hli hlj hw => by
          have e1 := (rowsW_get hi).2
          have e2 := (rowsW_get hj).2
          rw [Nat.sub_zero] at e1 e2
          obtain ⟨x, hx, sx⟩ := spot i oi e1
          obtain ⟨y, hy, sy⟩ := spot j oj e2
          rw [hρc i x hx] at hli
          rw [hρc j y hy] at hlj
          exact spots_apart hh hap hij hx hy sx sy hli hlj (.inl hw)
        lt := fun i l e => by
          refine .inr ⟨Nat.zero_le _, ?_⟩
          rw [a2]
          unfold renW at e
          split at e
          · rename_i x hx; exact (List.getElem?_eq_some_iff.1 hx).1
          · cases e
        keep := Keep.refl _ _ }
    obtain ⟨ρ', rv, fr', w', v', Hc, tc, g1, g2, g3, g4, g5, g6, ⟨js, r1, r2, r3, r4, r5⟩⟩ := hl.get w u (renW ρ ws) _ [] w cs ⟨(enter_ok hF hc a1).1, .nil, hpc⟩
    obtain ⟨n1, n2⟩ := newOK_get r2
    replace n1 : js.length = new.length := n1
    have hwr := wrOK_get r5
    -- a writable place is in a window
    have huwin : ∀ b k, u b k → ∃ (i : Nat) (x : Wd) (bb : Nat) (lb : Loc) (ob : VObj) (l : Loc), ws[i]? = some x ∧ x.wr = true ∧ x.blk? = some bb ∧ aget H bb = some ob ∧ writable ob = true ∧ ρ bb = some lb ∧ b = lb.blk ∧ locW ρ x = some l ∧ l.blk = b ∧ l.sh ≤ k ∧ k < l.sh + l.ext ∧ lb.sh ≤ k ∧ k < lb.sh + lb.ext := by
      rintro b k ⟨i, x, o, l, e1, e2, e3, e4, e5, e6, e7⟩
      obtain ⟨x', hx', l', cs', q1, q2, q3, q4, q5⟩ := spot i o e2
      rw [e1] at hx'; cases hx'
      rw [e4] at q1; cases q1
      rcases q5 with ⟨h0, _⟩ | ⟨bb, lb, ob, f1, f2, f3, f4, f5, f6, f7⟩
      · omega
      · have hw : x.wr = true := q4.trans e3
        exact ⟨i, x, bb, lb, ob, l, e1, hw, f1, f2, f7 hw, f3, by rw [← f4, e5], e4, e5, e6, e7, by omega, by omega⟩
    have huU : ∀ b k, u b k → U.u b k ∨ w0.heap.size ≤ b := fun b k hu => by
      obtain ⟨i, x, bb, lb, ob, l, f1, f2, f3, f4, f5, f6, rfl, f8, f9, f10, f11, f12, f13⟩ := huwin b k hu
      obtain ⟨l', hl', _, hU⟩ := hh.obj _ _ f4
      rw [f6] at hl'; cases hl'
      exact hU f5 k f12 f13
    have hkeep : Keep U w0 w' := hh.keep.trans g5.keep huU
    have WBs := wback_spec _ hap hwb
    obtain ⟨N1, N2⟩ := addNew_spec hadd
    obtain ⟨E1, E2⟩ := addEmp_spec (emps ws) (H := H2) (m := top + new.length)
    -- an object of the caller's: where it may be written, it is a window's
    have hcell : ∀ i o l, aget H i = some o → ρ i = some l → ∀ k, l.sh ≤ k → k < l.sh + l.ext → u l.blk k → ∃ (q : Nat) (x : Wd) (lq : Loc), ws[q]? = some x ∧ x.wr = true ∧ x.blk? = some i ∧ locW ρ x = some lq ∧ lq.blk = l.blk ∧ lq.sh ≤ k ∧ k < lq.sh + lq.ext := fun i o l hi hl k k1 k2 hu => by
      obtain ⟨q, x, bb, lb, ob, lq, f1, f2, f3, f4, f5, f6, f7, f8, f9, f10, f11, f12, f13⟩ := huwin _ _ hu
      by_cases hxi : bb = i
      · subst hxi; exact ⟨q, x, lq, f1, f2, f3, f8, f9, f10, f11⟩
      · exact (hh.dis bb i ob o lb l hxi f4 hi f6 hl f5 k f7.symm f12 f13 k1 k2).elim
    -- the windows' contents
    have hwin : ∀ (i : Nat) x l c, ws[i]? = some x → locW ρ x = some l → wr[i]? = some (some c) → ∃ c', renV.renL (resR js os.length) c = some c' ∧ CellsR ρ' w' l true c' ∧ ∃ o, aget Hc i = some o ∧ writable o = true ∧ ρ' i = some l := fun i x l c hx hlx hi => by
      obtain ⟨c', q1, q2⟩ := hwr i c hi
      rw [Nat.zero_add] at q2
      obtain ⟨o, q3, q4, q5⟩ := q2.obj
      obtain ⟨l', q6, q7, _⟩ := g5.obj i o q3
      have hlt : i < os.length := by rw [a2]; exact (List.getElem?_eq_some_iff.1 hx).1
      have := g6 i l hlt (by rw [hρc i x hx]; exact hlx)
      rw [this] at q6; cases q6
      exact ⟨c', q1, q5 q7, o, q3, q4, this⟩
    -- the new rows
    have hnew : ∀ j ∈ js, ∃ l o, ρ' j = some l ∧ aget Hc j = some o ∧ writable o = true ∧ ∀ k, l.sh ≤ k → k < l.sh + l.ext → u l.blk k ∨ w.heap.size ≤ l.blk := fun j hj => by
      obtain ⟨i, hi⟩ := List.getElem?_of_mem hj
      obtain ⟨c, c', _, _, hcj⟩ := n2 i j hi
      obtain ⟨o, ho, hwo, _⟩ := hcj.obj
      obtain ⟨l, q1, _, q3⟩ := g5.obj j o ho
      exact ⟨l, o, q1, ho, hwo, fun k k1 k2 => q3 hwo k k1 k2⟩
    obtain ⟨ls, m1, m2⟩ := locs_of (ρ := ρ') (js := js) fun j hj => let ⟨l, _, h, _⟩ := hnew j hj; ⟨l, h⟩
    let ρ2 : Ren := fun i => if i < top then ρ i else if i < top + new.length then ls[i - top]? else if i < top + new.length + emps ws then some ⟨0, 0, 0⟩ else ρ i
    have hout : ∀ i l, ρ i = some l → i < top ∨ top + new.length + emps ws ≤ i := fun i l e => by
      rcases h1 : hh.lt i l e with h2 | h2
      · rcases Nat.lt_or_ge i top with h3 | h3
        · exact .inl h3
        · rcases Nat.lt_or_ge i (top + new.length + emps ws) with h4 | h4
          · exact absurd h2 (hg i h3 h4)
          · exact .inr h4
      · exact .inl h2.2
    have hx2 : Ext ρ ρ2 := fun i l e => by
      rcases hout i l e with h1 | h1
      · show (if i < top then ρ i else _) = _
        rw [if_pos h1]; exact e
      · show (if i < top then ρ i else if i < top + new.length then ls[i - top]? else if i < top + new.length + emps ws then some ⟨0, 0, 0⟩ else ρ i) = _
        rw [if_neg (by omega), if_neg (by omega), if_neg (by omega)]; exact e
    have hnewR : ∀ (i : Nat), i < new.length → ρ2 (top + i) = ls[i]? := fun i hi => by
      show (if top + i < top then ρ (top + i) else if top + i < top + new.length then ls[top + i - top]? else _) = _
      rw [if_neg (by omega), if_pos (by omega), Nat.add_sub_cancel_left]
    have hempR : ∀ i, top + new.length ≤ i → i < top + new.length + emps ws → ρ2 i = some ⟨0, 0, 0⟩ := fun i h1 h2 => by
      show (if i < top then ρ i else if i < top + new.length then ls[i - top]? else if i < top + new.length + emps ws then some ⟨0, 0, 0⟩ else ρ i) = _
      rw [if_neg (by omega), if_neg (by omega), if_pos h2]
    -- the numbers of the answer
    have hsren : ∀ i k l, numR top new.length ws i = some k → comp (resR js os.length) ρ' i = some l → ρ2 k = some l := fun i k l e1 e2 => by
      unfold numR at e1
      unfold comp resR at e2
      cases hb : Nat.blt i new.length with
      | true =>
        have hi : i < new.length := Nat.blt_eq.mp hb
        rw [hb, cond_true, Option.some.injEq] at e1
        subst e1
        have hij : i < js.length := by omega
        rw [List.getElem?_eq_getElem hij] at e2
        simp only at e2
        obtain ⟨l', f1, f2⟩ := m2 i _ (List.getElem?_eq_getElem hij)
        rw [e2] at f2; cases f2
        rw [hnewR i hi, f1]
      | false =>
        have hi : ¬ i < new.length := fun h => by rw [← Nat.blt_eq] at h; rw [h] at hb; cases hb
        rw [hb, cond_false] at e1
        rw [List.getElem?_eq_none (by omega)] at e2
        simp only at e2
        rw [n1] at e2
        cases hb2 : Nat.blt (i - new.length) os.length with
        | false => rw [hb2] at e2; cases e2
        | true =>
          have hlt : i - new.length < os.length := Nat.blt_eq.mp hb2
          rw [hb2] at e2
          simp only [cond_true] at e2
          rcases numW_spec e1 with ⟨b, wq, f1, rfl⟩ | ⟨_, f1, f2, f3⟩
          · obtain ⟨o, _, l1, cs', q1, _⟩ := spotW _ _ f1 (by simp)
            have := g6 _ l1 hlt (by rw [hρc _ _ f1]; exact q1)
            rw [e2] at this; cases this
            exact hx2 _ _ q1
          · have := g6 _ ⟨0, 0, 0⟩ hlt (by rw [hρc _ _ f1]; rfl)
            rw [e2] at this; cases this
            exact hempR k f2 f3
    have hcells : ∀ {own : Bool} {l : Loc} {c c' c2 : List Value}, CellsR ρ' w' l own c' → renV.renL (resR js os.length) c = some c' → renV.renL (numR top new.length ws) c = some c2 → CellsR ρ2 w' l own c2 := fun h1 h2 h3 =>
      CellsR.ren (CellsR.unren h1 h2 id) hsren h3
    -- an object of the caller's, afterwards
    have hold : ∀ i o, aget H1 i = some o → ∃ o', aget H i = some o' ∧ writable o' = writable o ∧ ∃ l, ρ i = some l ∧ ObjR P ρ2 w' l o := fun i o ho => by
      by_cases hwd : ∃ (q : Nat) (x : Wd), ws[q]? = some x ∧ x.wr = true ∧ x.blk? = some i
      · obtain ⟨q, x, hx, hxw, hxb⟩ := hwd
        obtain ⟨oq, hoq, sp⟩ := spotW q x hx (fun e => by subst e; cases hxb)
        cases x with
        | no => cases hxb
        | emp _ => cases hxb
        | blk b wq =>
          simp only [Wd.blk?, Option.some.injEq] at hxb; subst hxb
          simp only [Wd.wr] at hxw; subst hxw
          rcases WBs.blk q b hx with e | ⟨d, d', ob, ob', f1, f2, ⟨y, f2'⟩, f3, f4, f5⟩
          · rw [ho] at e; cases e
          · rw [ho] at f5; cases f5
            obtain ⟨z1, z2, z3⟩ := wcs_wr f2' f4
            obtain ⟨l, hl, _⟩ := hh.obj b ob f2
            obtain ⟨c', k1, k2, _⟩ := hwin q _ l d hx hl f1
            have := hcells k2 k1 f3
            exact ⟨ob, f2, by rw [z2, z3], l, hl, z1.objR (by rw [z2]; exact this)⟩
        | win b off n wq =>
          simp only [Wd.blk?, Option.some.injEq] at hxb; subst hxb
          simp only [Wd.wr] at hxw; subst hxw
          obtain ⟨d, d', ob, x, ob', f1, f2, f3, f4, ⟨f5, f5x⟩, f6, f7⟩ := WBs.win q b off n hx
          rw [ho] at f7; cases f7
          obtain ⟨z1, z2, z3⟩ := wcs_wr f3 f6
          obtain ⟨lb, hlb, hor, _⟩ := hh.obj b ob f2
          have hlw : locW ρ (.win b off n true) = some ⟨lb.blk, lb.sh + off, n⟩ := by simp only [locW, hlb]
          obtain ⟨c', k1, k2, _⟩ := hwin q _ _ d hx hlw f1
          have hin := hcells k2 k1 f4
          obtain ⟨_, q2, q3⟩ := wcs_cs f3
          have hcr : CellsR ρ w lb true x := by rcases q3 with rfl | rfl <;> exact hor
          obtain ⟨l', cs', s1, s2, s3, s4, s5⟩ := sp
          rw [hlw] at s1; cases s1
          have hle : off + n ≤ lb.ext := by
            rcases s5 with ⟨h0, hb⟩ | ⟨b', lb', ob2, t1, t2, t3, t4, t5, t6, t7⟩
            · cases hb
            · simp only [Wd.blk?, Option.some.injEq] at t1; subst t1
              rw [hlb] at t3; cases t3
              simp only at t6; omega
          refine ⟨ob, f2, by rw [z2, z3], lb, hlb, z1.objR ?_⟩
          rw [z2]
          have hlen := setAt_length d' x off
          have hkc : ∀ i, i < lb.ext → ¬ (off ≤ i ∧ i < off + n) → w'.cell? ⟨lb.blk, lb.sh + i, none⟩ = w.cell? ⟨lb.blk, lb.sh + i, none⟩ ∧ w'.frozen? ⟨lb.blk, lb.sh + i, none⟩ = w.frozen? ⟨lb.blk, lb.sh + i, none⟩ := fun i hi hni => by
            have hnu : ¬ u lb.blk (lb.sh + i) := fun hu => by
              obtain ⟨q', x', lq, p1, p2, p3, p4, p5, p6, p7⟩ := hcell b ob lb f2 hlb (lb.sh + i) (by omega) (by omega) hu
              by_cases hqq : q' = q
              · subst hqq
                rw [hx] at p1; cases p1
                rw [hlw] at p4; cases p4
                simp only at p6 p7; omega
              · have := (apartB_spec hap q' q _ _ b hqq p1 hx p3 rfl).2
                cases this
            exact Keep.cell g5.keep (hor.lt (by omega)) hnu (hcr.2.2 i hi).1
          refine ⟨by rw [hlen]; exact hcr.1, fun i v e => ?_, fun i hi => ?_⟩
          · have hi : i < x.length := by
              rcases Nat.lt_or_ge i x.length with h | h
              · exact h
              · rw [List.getElem?_eq_none (by omega)] at e; cases e
            by_cases hin' : off ≤ i ∧ i < off + n
            · rw [setAt_get d' x off i (by omega), if_pos (by omega)] at e
              obtain ⟨v', y1, y2⟩ := hin.2.1 (i - off) v e
              exact ⟨v', by rw [← y1]; congr 2; simp only; omega, y2⟩
            · rw [setAt_get d' x off i (by omega), if_neg (by omega)] at e
              obtain ⟨v', y1, y2⟩ := hcr.2.1 i v e
              exact ⟨v', by rw [(hkc i (by have := hcr.1; omega) hin').1]; exact y1, y2.mono hx2⟩
          · by_cases hin' : off ≤ i ∧ i < off + n
            · have := hin.2.2 (i - off) (by simp only; omega)
              simp only [show lb.sh + off + (i - off) = lb.sh + i by omega] at this
              exact ⟨this.1, fun _ => this.2 trivial⟩
            · have := hkc i hi hin'
              rw [this.1, this.2]; exact hcr.2.2 i hi
      · have hH : aget H i = some o := by rw [← WBs.same i fun q x hx hxw hxb => hwd ⟨q, x, hx, hxw, hxb⟩]; exact ho
        obtain ⟨l, hl, hor, _⟩ := hh.obj i o hH
        refine ⟨o, hH, rfl, l, hl, hor.keep g5.keep hx2 fun q hq hu => ?_⟩
        obtain ⟨q', x', lq, p1, p2, p3, _⟩ := hcell i o l hH hl (l.sh + q) (by omega) (by omega) hu
        exact hwd ⟨q', x', p1, p2, p3⟩
    -- each object afterwards
    have hobj : ∀ i o, aget (addEmp H2 (top + new.length) (emps ws)) i = some o →
        (top + new.length ≤ i ∧ i < top + new.length + emps ws ∧ o = .row true []) ∨ (∃ a, a < new.length ∧ i = top + a ∧ ∃ c c2, new[a]? = some c ∧ renV.renL (numR top new.length ws) c = some c2 ∧ o = .row true c2) ∨ ((i < top ∨ top + new.length + emps ws ≤ i) ∧ aget H1 i = some o) := fun i o e => by
      rcases Nat.lt_or_ge i top with h1 | h1
      · rw [E1 i (by omega), N1 i (by omega)] at e; exact .inr (.inr ⟨.inl h1, e⟩)
      · rcases Nat.lt_or_ge i (top + new.length) with h2 | h2
        · have ha : i - top < new.length := by omega
          obtain ⟨c2, e1, e2⟩ := N2 (i - top) _ (List.getElem?_eq_getElem ha)
          rw [E1 i (by omega), show i = top + (i - top) by omega, e2] at e
          cases e
          exact .inr (.inl ⟨i - top, ha, by omega, _, c2, List.getElem?_eq_getElem ha, e1, rfl⟩)
        · rcases Nat.lt_or_ge i (top + new.length + emps ws) with h3 | h3
          · rw [E2 i h2 h3] at e; cases e; exact .inl ⟨h2, h3, rfl⟩
          · rw [E1 i (by omega), N1 i (by omega)] at e; exact .inr (.inr ⟨.inr h3, e⟩)
    have hjs : ∀ a, a < new.length → ∃ j l c c', js[a]? = some j ∧ ls[a]? = some l ∧ ρ' j = some l ∧ new[a]? = some c ∧ renV.renL (resR js os.length) c = some c' ∧ CellsR ρ' w' l true c' ∧ ∃ o, aget Hc j = some o ∧ writable o = true ∧ ∀ k, l.sh ≤ k → k < l.sh + l.ext → u l.blk k ∨ w.heap.size ≤ l.blk := fun a ha => by
      have hj : a < js.length := by omega
      obtain ⟨l, e1, e2⟩ := m2 a _ (List.getElem?_eq_getElem hj)
      obtain ⟨c, c', e3, e4, e5⟩ := n2 a _ (List.getElem?_eq_getElem hj)
      obtain ⟨o, q1, q2, q3⟩ := e5.obj
      obtain ⟨l', q4, q5, _⟩ := g5.obj _ _ q1
      rw [e2] at q4; cases q4
      obtain ⟨l2, o2, p1, p2, p3, p4⟩ := hnew _ (List.getElem_mem hj)
      rw [e2] at p1; cases p1
      rw [q1] at p2; cases p2
      exact ⟨_, l, c, c', List.getElem?_eq_getElem hj, e1, e2, e3, e4, q3 q5, o, q1, q2, p4⟩
    -- a new row and an object of the caller's
    have hapN : ∀ a la i o li, a < new.length → ls[a]? = some la → aget H1 i = some o → ρ i = some li → Apart la li := fun a la i o li ha hla hi hli k ek k1 k2 k3 k4 => by
      obtain ⟨j, l, c, c', e1, e2, e3, e4, e5, e6, oj, e7, e8, e9⟩ := hjs a ha
      rw [hla] at e2; cases e2
      obtain ⟨o', f1, f2, _⟩ := hold i o hi
      rcases e9 k k1 k2 with hu | hge
      · rw [ek] at hu
        obtain ⟨q, x, lq, p1, p2, p3, p4, p5, p6, p7⟩ := hcell i o' li f1 hli k k3 k4 hu
        -- the window is still there
        have hcw : ∃ d, wr[q]? = some (some d) := by
          cases x with
          | no => cases p3
          | emp _ => cases p3
          | win b off n wq =>
            simp only [Wd.wr] at p2; subst p2
            obtain ⟨d, _, _, _, _, f, _⟩ := WBs.win q b off n p1
            exact ⟨d, f⟩
          | blk b wq =>
            simp only [Wd.wr] at p2; subst p2
            simp only [Wd.blk?, Option.some.injEq] at p3; subst p3
            rcases WBs.blk q b p1 with e | ⟨d, _, _, _, f, _⟩
            · rw [hi] at e; cases e
            · exact ⟨d, f⟩
        obtain ⟨d, hd⟩ := hcw
        obtain ⟨_, _, _, oq, w1, w2, w3⟩ := hwin q x lq d p1 p4 hd
        have hne : j ≠ q := fun e => by
          subst e
          have hqq := (List.getElem?_eq_some_iff.1 p1).1
          rcases r4 j (List.mem_of_getElem? e1) with h4 | h4
          · omega
          · have h4' : wr[j]? = some none := h4
            rw [hd] at h4'; cases h4'
        exact g5.dis j q oj oq la lq hne e7 w1 e3 w3 e8 k (by rw [ek, p5]) k1 k2 p6 p7
      · have := hh.blk_lt f1 hli (by omega)
        omega
    have hfin : HpR P w0 U ρ2 (addEmp H2 (top + new.length) (emps ws)) (top + new.length + emps ws) w' :=
      { obj := fun i o e => by
          rcases hobj i o e with ⟨h1, h2, rfl⟩ | ⟨a, ha, rfl, c, c2, h3, h4, rfl⟩ | ⟨_, h3⟩
          · exact ⟨⟨0, 0, 0⟩, hempR i h1 h2, ⟨Nat.zero_le _, fun i v e => by simp at e, fun i hi => absurd hi (Nat.not_lt_zero _)⟩, fun _ k k1 k2 => absurd k2 (by simp)⟩
          · obtain ⟨j, l, d, d', e1, e2, e3, e4, e5, e6, oj, e7, e8, e9⟩ := hjs a ha
            rw [h3] at e4; cases e4
            refine ⟨l, by rw [hnewR a ha]; exact e2, hcells e6 e5 h4, fun _ k k1 k2 => ?_⟩
            rcases e9 k k1 k2 with hu | hge
            · exact huU _ _ hu
            · exact .inr (Nat.le_trans hh.keep.size hge)
          · obtain ⟨o', f1, f2, l, f3, f4⟩ := hold i o h3
            obtain ⟨l', q1, _, q3⟩ := hh.obj i o' f1
            rw [f3] at q1; cases q1
            exact ⟨l, hx2 _ _ f3, f4, fun hw => q3 (f2.trans hw)⟩
        dis := fun i j oi oj li lj hij hi hj hli hlj hw => by
          have emp0 : ∀ i, top + new.length ≤ i → i < top + new.length + emps ws → ∀ l, ρ2 i = some l → l.ext = 0 := fun i h1 h2 l e => by rw [hempR i h1 h2] at e; cases e; rfl
          rcases hobj i oi hi with ⟨h1, h2, rfl⟩ | ⟨a, ha, rfl, c, c2, h3, h4, rfl⟩ | ⟨hi1, h3⟩
          · intro k _ k1 k2 _ _
            have := emp0 i h1 h2 li hli
            omega
          · rw [hnewR a ha] at hli
            rcases hobj j oj hj with ⟨h1, h2, rfl⟩ | ⟨a', ha', rfl, c', c2', h3', h4', rfl⟩ | ⟨hj1, h3'⟩
            · intro k _ _ _ k1 k2
              have := emp0 j h1 h2 lj hlj
              omega
            · rw [hnewR a' ha'] at hlj
              obtain ⟨j1, l1, _, _, e1, e2, e3, _, _, _, o1, e7, e8, _⟩ := hjs a ha
              obtain ⟨j2, l2, _, _, f1, f2, f3, _, _, _, o2, f7, f8, _⟩ := hjs a' ha'
              rw [hli] at e2; cases e2
              rw [hlj] at f2; cases f2
              refine g5.dis j1 j2 o1 o2 li lj (fun e => ?_) e7 f7 e3 f3 e8
              subst e
              have h1 : a < js.length := by omega
              have := (List.getElem?_inj h1 r3).1 (e1.trans f1.symm)
              omega
            · obtain ⟨o', f1, f2, l, f3, f4⟩ := hold j oj h3'
              have := hx2 _ _ f3
              rw [hlj] at this; cases this
              exact hapN a li j oj lj ha hli h3' f3
          · obtain ⟨o', f1, f2, l, f3, f4⟩ := hold i oi h3
            have := hx2 _ _ f3
            rw [hli] at this; cases this
            rcases hobj j oj hj with ⟨h1, h2, rfl⟩ | ⟨a', ha', rfl, c', c2', h3', h4', rfl⟩ | ⟨hj1, h3'⟩
            · intro k _ _ _ k1 k2
              have := emp0 j h1 h2 lj hlj
              omega
            · rw [hnewR a' ha'] at hlj
              exact (hapN a' lj i oi li ha' hlj h3 f3).symm
            · obtain ⟨o2', p1, p2, l2, p3, p4⟩ := hold j oj h3'
              have := hx2 _ _ p3
              rw [hlj] at this; cases this
              exact hh.dis i j o' o2' li lj hij f1 p1 f3 p3 (f2.trans hw)
        lt := fun i l e => by
          have e' : (if i < top then ρ i else if i < top + new.length then ls[i - top]? else if i < top + new.length + emps ws then some ⟨0, 0, 0⟩ else ρ i) = some l := e
          split at e'
          · exact (hh.lt i l e').imp id fun h => ⟨h.1, by omega⟩
          · split at e'
            · exact .inr ⟨by omega, by omega⟩
            · split at e'
              · exact .inr ⟨by omega, by omega⟩
              · exact (hh.lt i l e').imp id fun h => ⟨h.1, by omega⟩
        keep := hkeep }
    exact ⟨.returned rv, w', fr', ⟨ρ2, rv, rfl, VR.ren hsren v0 hren (VR.unren v0 r1 g4), hfin, hx2⟩, g1, g2, g3⟩

end
end Go.Vm
