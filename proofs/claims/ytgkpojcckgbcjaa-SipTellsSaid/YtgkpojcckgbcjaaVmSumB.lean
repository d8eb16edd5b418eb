/- The engine, part 22: a summary from a walk. -/
import Derived.Test.YtgkpojcckgbcjaaVmSum
namespace Go.Vm
open Go Go.RowKit

section
variable {P : Program} {F : Fns} {S : Sums}

theorem aget_cons {α : Type} (k : Nat) (x : α) (l : List (Nat × α)) (i : Nat) : aget ((k, x) :: l) i = if k = i then some x else aget l i := by
  simp only [aget]
  cases hb : Nat.beq k i with
  | true => rw [if_pos (Nat.eq_of_beq_eq_true hb)]; rfl
  | false => rw [if_neg (fun e => by subst e; simp at hb)]; rfl

theorem winL_cons {m : Md} {v : Value} {ms : List Md} {vs : List Value} {w : Option Win} (h : winOf m v = some w) : winL (m :: ms) (v :: vs) = w :: winL ms vs := by simp only [winL, h]
theorem winL_skip {m : Md} {v : Value} {ms : List Md} {vs : List Value} (h : winOf m v = none) : winL (m :: ms) (v :: vs) = winL ms vs := by simp only [winL, h]

theorem winOf_v {m : Md} {v : Value} (hm : m = .v ∨ (∃ n, m = .pt n) ∧ v = .pointer none) : winOf m v = none := by
  rcases hm with rfl | ⟨⟨n, rfl⟩, rfl⟩
  · cases v <;> rfl
  · rfl

theorem winOf_sl {sz : Nat} {v : Value} {x : Win} (h : winOf (.sl sz) v = some (some x)) : x.wr = false := by
  cases v with
  | slice a n c => cases a <;> simp only [winOf, Option.some.injEq, reduceCtorEq] at h; subst h; rfl
  | _ => simp [winOf] at h

/-- what lies at one of the call's own numbers -/
structure Spot (w : World) (H : Hp) (ρ : Ren) (ws : List (Option Win)) (o : VObj) (l : Loc) : Prop where
  obj : (∃ cs, o = .row false cs ∧ ∀ ρ', CellsR ρ' w l false cs) ∨ (∃ cs, o = .cells cs ∧ ∀ ρ', CellsR ρ' w l true cs)
  at_ : l.ext = 0 ∧ writable o = false ∨ ∃ win lb ob, some win ∈ ws ∧ win.wr = writable o ∧ aget H win.b = some ob ∧ ρ win.b = some lb ∧ l.blk = lb.blk ∧ lb.sh ≤ l.sh ∧ l.sh + l.ext ≤ lb.sh + lb.ext ∧
    (win.wr = true → writable ob = true ∧ l.sh = lb.sh + win.off ∧ l.ext = win.n)

theorem Spot.tail {w : World} {H : Hp} {ρ : Ren} {ws ws' : List (Option Win)} {o : VObj} {l : Loc} (h : Spot w H ρ ws o l) (hs : ∀ x, some x ∈ ws → some x ∈ ws') : Spot w H ρ ws' o l :=
  ⟨h.obj, h.at_.imp id fun ⟨win, lb, ob, a, b⟩ => ⟨win, lb, ob, hs _ a, b⟩⟩

theorem Fit.spots {w0 w : World} {U : UG} {H : Hp} {top : Nat} {ρ ρc : Ren} (hh : HpR P w0 U ρ H top w) : ∀ {k : Nat} {ms : List Md} {vs rvs : List Value} {aqs : List SArg}, Fit w H ρ ρc k ms vs rvs aqs →
    ∀ i o, aget (rowsOf k aqs) i = some o → k ≤ i ∧ ∃ l, ρc i = some l ∧ Spot w H ρ (winL ms vs) o l
  | _, _, _, _, _, .nil k, i, o, e => by simp [rowsOf, aget] at e
  | _, _, _, _, _, .v hm hf hr t, i, o, e => by
    rw [winL_skip (winOf_v hm)]
    exact t.spots hh i o e
  | k, _, _, _, _, .sl hw hl hc hn hf hr hs t, i, o, e => by
    rw [winL_cons hw]
    simp only [rowsOf] at e
    rw [aget_cons] at e
    split at e
    · rename_i hk
      cases e; subst hk
      refine ⟨Nat.le_refl _, _, hl, .inl ⟨_, rfl, hc⟩, ?_⟩
      rcases hs with h0 | ⟨win, lb, ob, rfl, h1, h2, h3, h4, h5, h6⟩
      · exact .inl ⟨h0, rfl⟩
      · exact .inr ⟨win, lb, ob, by simp, h1, h2, h3, h4, h5, h6, fun h => by rw [h1] at h; cases h⟩
    · obtain ⟨h1, l, h2, h3⟩ := t.spots hh i o e
      exact ⟨by omega, l, h2, h3.tail fun x hx => by simp [hx]⟩
  | k, _, _, _, _, .pt (n := n) (b := b) (off := off) (lb := lb) hl hc hn hf hr hob hx hlb hle t, i, o, e => by
    rw [winL_cons (w := some ⟨b, off, n, true⟩) rfl]
    simp only [rowsOf] at e
    rw [aget_cons] at e
    split at e
    · rename_i hk
      cases e; subst hk
      obtain ⟨_, e2, e3⟩ := wcs_cs hx
      obtain ⟨l, hl', hor, _⟩ := hh.obj _ _ hob
      rw [hlb] at hl'; cases hl'
      have hext : _ ≤ lb.ext := (hor.cells (wcs_cs hx).1).choose_spec.1
      exact ⟨Nat.le_refl _, _, hl, .inr ⟨_, rfl, hc⟩, .inr ⟨⟨b, off, n, true⟩, lb, _, by simp, rfl, hob, hlb, rfl, by simp, by simp only; omega, fun _ => ⟨e2, rfl, rfl⟩⟩⟩
    · obtain ⟨h1, l, h2, h3⟩ := t.spots hh i o e
      exact ⟨by omega, l, h2, h3.tail fun x hx => by simp [hx]⟩

theorem winsBut_spec {w : Win} : ∀ {ws : List (Option Win)}, winsBut w ws = true → ∀ x, some x ∈ ws → w.b = x.b → w.wr = false ∧ x.wr = false
  | [], _, x, h, _ => by cases h
  | none :: l, h, x, hx, e => by
    simp only [winsBut] at h
    exact winsBut_spec h x (by simpa using hx) e
  | some y :: l, h, x, hx, e => by
    simp only [winsBut] at h
    rcases List.mem_cons.1 hx with hxy | hx
    · cases hxy
      rw [e, Nat.beq_refl, cond_true] at h
      cases h1 : w.wr <;> cases h2 : y.wr <;> simp_all
    · cases hb : Nat.beq w.b y.b with
      | false => rw [hb, cond_false] at h; exact winsBut_spec h x hx e
      | true =>
        rw [hb, cond_true] at h
        cases h1 : w.wr <;> cases h2 : y.wr <;> simp only [h1, h2, cond_true, cond_false] at h <;> try (cases h; done)
        have := winsBut_spec h x hx e
        rwa [h1] at this

theorem apartB_cons {w : Win} {ws : List (Option Win)} (h : apartB (some w :: ws) = true) : winsBut w ws = true ∧ apartB ws = true := by
  simp only [apartB] at h
  cases hb : winsBut w ws with
  | true => rw [hb, cond_true] at h; exact ⟨rfl, h⟩
  | false => rw [hb, cond_false] at h; cases h

/-- a writable window's block is no other window's -/
theorem apartB_uniq : ∀ {ws : List (Option Win)}, apartB ws = true → ∀ x y, some x ∈ ws → some y ∈ ws → x.b = y.b → x.wr = true → x = y
  | [], _, x, _, h, _, _, _ => by cases h
  | none :: l, h, x, y, hx, hy, e, hw => apartB_uniq (by simpa [apartB] using h) x y (by simpa using hx) (by simpa using hy) e hw
  | some z :: l, h, x, y, hx, hy, e, hw => by
    obtain ⟨h1, h2⟩ := apartB_cons h
    rcases List.mem_cons.1 hx with hx | hx <;> rcases List.mem_cons.1 hy with hy | hy
    · cases hx; cases hy; rfl
    · cases hx
      have := (winsBut_spec h1 y hy e).1
      rw [hw] at this; cases this
    · cases hy
      have := (winsBut_spec h1 x hx e.symm).2
      rw [hw] at this; cases this
    · exact apartB_uniq h2 x y hx hy e hw

theorem Apart.sub {a b a' b' : Loc} (h : Apart a b) (h1 : a'.blk = a.blk) (h2 : a.sh ≤ a'.sh) (h3 : a'.sh + a'.ext ≤ a.sh + a.ext) (h4 : b'.blk = b.blk) (h5 : b.sh ≤ b'.sh) (h6 : b'.sh + b'.ext ≤ b.sh + b.ext) : Apart a' b' :=
  fun k e k1 k2 k3 k4 => h k (by rw [← h1, ← h4]; exact e) (by omega) (by omega) (by omega) (by omega)

/-- of two windows of which one may be written, neither lies in the other -/
theorem spots_apart {w0 w : World} {U : UG} {H : Hp} {top : Nat} {ρ : Ren} (hh : HpR P w0 U ρ H top w) {win : Win} {ws : List (Option Win)} (hb : winsBut win ws = true) {l l' : Loc} {o o' : VObj}
    (h1 : Spot w H ρ [some win] o l) (h2 : Spot w H ρ ws o' l') (hw : writable o = true ∨ writable o' = true) : Apart l l' := by
  intro k ek k1 k2 k3 k4
  rcases h1.at_ with ⟨h0, _⟩ | ⟨x, lb, ob, hx, hxw, g1, g2, g3, g4, g5, g6⟩
  · omega
  · rcases h2.at_ with ⟨h0, _⟩ | ⟨y, lb', ob', hy, hyw, f1, f2, f3, f4, f5, f6⟩
    · omega
    · have hx' : x = win := by simpa using hx
      subst hx'
      by_cases hxy : x.b = y.b
      · obtain ⟨e1, e2⟩ := winsBut_spec hb y hy hxy
        rw [hxw] at e1; rw [hyw] at e2
        rcases hw with hw | hw <;> simp_all
      · have ap : Apart lb lb' := by
          rcases hw with hw | hw
          · exact hh.dis _ _ _ _ _ _ hxy g1 f1 g2 f2 (g6 (hxw.trans hw)).1
          · exact (hh.dis _ _ _ _ _ _ (Ne.symm hxy) f1 g1 f2 g2 (f6 (hyw.trans hw)).1).symm
        exact ap.sub g3 g4 g5 f3 f4 f5 k ek k1 k2 k3 k4

theorem Fit.dis {w0 w : World} {U : UG} {H : Hp} {top : Nat} {ρ ρc : Ren} (hh : HpR P w0 U ρ H top w) : ∀ {k : Nat} {ms : List Md} {vs rvs : List Value} {aqs : List SArg}, Fit w H ρ ρc k ms vs rvs aqs → apartB (winL ms vs) = true →
    ∀ i j oi oj li lj, i < j → aget (rowsOf k aqs) i = some oi → aget (rowsOf k aqs) j = some oj → ρc i = some li → ρc j = some lj → writable oi = true ∨ writable oj = true → Apart li lj
  | _, _, _, _, _, .nil k, _, i, j, oi, oj, li, lj, hij, hi, _, _, _, _ => by simp [rowsOf, aget] at hi
  | _, _, _, _, _, .v hm hf hr t, ha, i, j, oi, oj, li, lj, hij, hi, hj, hli, hlj, hw => by
    rw [winL_skip (winOf_v hm)] at ha
    exact t.dis hh ha i j oi oj li lj hij hi hj hli hlj hw
  | k, _, _, _, _, .sl (ms := ms) (vs := vs) (l := l) (ow := ow) hwo hl hc hn hf hr hs t, ha, i, j, oi, oj, li, lj, hij, hi, hj, hli, hlj, hw => by
    rw [winL_cons hwo] at ha
    simp only [rowsOf] at hi hj
    rw [aget_cons] at hi hj
    have tailA : apartB (winL ms vs) = true := by
      cases ow with
      | none => simpa [apartB] using ha
      | some x => exact (apartB_cons ha).2
    split at hj
    · rename_i hk
      exfalso
      rw [if_neg (by omega)] at hi
      have := (t.spots hh i oi hi).1; omega
    · split at hi
      · rename_i hk
        cases hi; subst hk
        rw [hl] at hli; cases hli
        rcases hs with h0 | ⟨win, lb, ob, rfl, h1, h2, h3, h4, h5, h6⟩
        · intro q _ k1 k2 _ _; omega
        · obtain ⟨_, l2, e2, s2⟩ := t.spots hh j oj hj
          rw [hlj] at e2; cases e2
          exact spots_apart hh (apartB_cons ha).1 ⟨.inl ⟨_, rfl, hc⟩, .inr ⟨win, lb, ob, by simp, h1, h2, h3, h4, h5, h6, fun h => by rw [h1] at h; cases h⟩⟩ s2 hw
      · exact t.dis hh tailA i j oi oj li lj hij hi hj hli hlj hw
  | k, _, _, _, _, .pt (n := n) (b := b) (off := off) (lb := lb) hl hc hn hf hr hob hx hlb hle t, ha, i, j, oi, oj, li, lj, hij, hi, hj, hli, hlj, hw => by
    rw [winL_cons (w := some ⟨b, off, n, true⟩) rfl] at ha
    simp only [rowsOf] at hi hj
    rw [aget_cons] at hi hj
    split at hj
    · rename_i hk
      exfalso
      rw [if_neg (by omega)] at hi
      have := (t.spots hh i oi hi).1; omega
    · split at hi
      · rename_i hk
        cases hi; subst hk
        rw [hl] at hli; cases hli
        obtain ⟨_, l2, e2, s2⟩ := t.spots hh j oj hj
        rw [hlj] at e2; cases e2
        obtain ⟨_, q2, q3⟩ := wcs_cs hx
        obtain ⟨l', hl', hor, _⟩ := hh.obj _ _ hob
        rw [hlb] at hl'; cases hl'
        have hext : _ ≤ lb.ext := (hor.cells (wcs_cs hx).1).choose_spec.1
        exact spots_apart hh (apartB_cons ha).1 ⟨.inr ⟨_, rfl, hc⟩, .inr ⟨⟨b, off, n, true⟩, lb, _, by simp, rfl, hob, hlb, rfl, by simp, by simp only; omega, fun _ => ⟨q2, rfl, rfl⟩⟩⟩ s2 hw
      · exact t.dis hh (apartB_cons ha).2 i j oi oj li lj hij hi hj hli hlj hw

/-! what a call leaves of the memory around it -/
theorem Keep.cell {u : Nat → Nat → Prop} {w w' : World} (h : Keep (.of u) w w') {b k : Nat} (hb : b < w.heap.size) (hu : ¬ u b k) (h0 : (w.cell? ⟨b, k, none⟩).isSome = true) :
    w'.cell? ⟨b, k, none⟩ = w.cell? ⟨b, k, none⟩ ∧ w'.frozen? ⟨b, k, none⟩ = w.frozen? ⟨b, k, none⟩ := by
  have := h.block b hb
  cases hx : w.heap[b]? with
  | none => rw [World.cell?, hx] at h0; simp at h0
  | some x =>
    cases x with
    | cells arr T fr =>
      rw [hx] at this
      obtain ⟨arr', e, s, g⟩ := this
      simp only [World.cell?, World.frozen?, hx, e]
      exact ⟨g k hu, by trivial⟩
    | _ => simp [World.cell?, hx] at h0

theorem Keep.other {u : Nat → Nat → Prop} {w w' : World} (h : Keep (.of u) w w') {b : Nat} (hb : b < w.heap.size) (hu : ¬ u b 0) (hn : ∀ c t f, w.heap[b]? ≠ some (.cells c t f)) : w'.heap[b]? = w.heap[b]? := by
  have := h.block b hb
  cases hx : w.heap[b]? with
  | none => rw [Array.getElem?_eq_none_iff] at hx; omega
  | some x =>
    rw [hx] at this
    cases x with
    | cells arr T fr => exact absurd hx (hn _ _ _)
    | _ =>
      rcases this with hz | he
      · exact absurd hz hu
      · exact he

theorem Keep.trans {U : UG} {u : Nat → Nat → Prop} {w0 w w' : World} (h : Keep U w0 w) (k : Keep (.of u) w w') (hu : ∀ b i, u b i → U.u b i ∨ w0.heap.size ≤ b) : Keep U w0 w' where
  os := k.os.trans h.os
  tape := k.tape.trans h.tape
  output := k.output.trans h.output
  size := Nat.le_trans h.size k.size
  block b hb := by
    have h1 := h.block b hb
    have h2 := k.block b (Nat.lt_of_lt_of_le hb h.size)
    have hz : ∀ i, ¬ U.u b i → ¬ u b i := fun i hn hx => by
      rcases hu b i hx with h' | h'
      · exact hn h'
      · omega
    cases hx : w0.heap[b]? with
    | none => rw [Array.getElem?_eq_none_iff] at hx; omega
    | some x =>
      rw [hx] at h1
      cases x with
      | cells arr T fr =>
        obtain ⟨arr', e1, s1, g1⟩ := h1
        rw [e1] at h2
        obtain ⟨arr2, e2, s2, g2⟩ := h2
        exact ⟨arr2, e2, s2.trans s1, fun i hi => (g2 i (hz i hi)).trans (g1 i hi)⟩
      | _ =>
        rcases h1 with h1 | h1
        · exact .inl h1
        · rw [h1] at h2
          rcases h2 with h2 | h2
          · by_cases hU : U.u b 0
            · exact .inl hU
            · exact absurd h2 (hz 0 hU)
          · exact .inr (h2.trans rfl)

def GoodB (P : Program) (w0 : World) (U : UG) (ρ : Ren) (w' : World) (i : Nat) (o : VObj) : Prop := ∃ l, ρ i = some l ∧ ObjR P ρ w' l o ∧ (writable o = true → ∀ k, l.sh ≤ k → k < l.sh + l.ext → U.u l.blk k ∨ w0.heap.size ≤ l.blk)

/-- the memory around a call, written back -/
theorem Fit.back {w0 w w' : World} {U : UG} {H : Hp} {top : Nat} {ρ ρc : Ren} (hh : HpR P w0 U ρ H top w) {Hc : Hp} (hcan : ∀ i c l, aget Hc i = some (.cells c) → ρc i = some l → ∀ ρ', flatV.flatL c = true → CellsR ρ' w' l true c) :
    ∀ {k : Nat} {ms : List Md} {vs rvs : List Value} {aqs : List SArg}, Fit w H ρ ρc k ms vs rvs aqs → apartB (winL ms vs) = true →
    (∀ x lb, some x ∈ winL ms vs → x.wr = true → ρ x.b = some lb → ∀ q, q < lb.ext → ¬ (x.off ≤ q ∧ q < x.off + x.n) → w'.cell? ⟨lb.blk, lb.sh + q, none⟩ = w.cell? ⟨lb.blk, lb.sh + q, none⟩ ∧ w'.frozen? ⟨lb.blk, lb.sh + q, none⟩ = w.frozen? ⟨lb.blk, lb.sh + q, none⟩) →
    ∀ {wr : List (List Value)} {G G1 : Hp}, wback G (winL ms vs) wr = some G1 → wrOK Hc k aqs wr →
    (∀ i o, (∀ x, some x ∈ winL ms vs → x.wr = true → x.b ≠ i) → aget G i = some o → GoodB P w0 U ρ w' i o) →
    (∀ x, some x ∈ winL ms vs → x.wr = true → aget G x.b = aget H x.b) →
    (∀ i o, aget G i = some o → ∃ o', aget H i = some o' ∧ writable o' = writable o) →
    (∀ i o, aget G1 i = some o → GoodB P w0 U ρ w' i o) ∧ (∀ i o, aget G1 i = some o → ∃ o', aget H i = some o' ∧ writable o' = writable o)
  | _, _, _, _, _, .nil k, ha, hout, wr, G, G1, hb, hw, h1, h2, h3 => by
    cases wr with
    | nil =>
      simp only [winL, wback, Option.some.injEq] at hb; subst hb
      exact ⟨fun i o e => h1 i o (fun x hx => by simp [winL] at hx) e, h3⟩
    | cons c wr => simp [winL, wback] at hb
  | _, _, _, _, _, .v hm hf hr t, ha, hout, wr, G, G1, hb, hw, h1, h2, h3 => by
    rw [winL_skip (winOf_v hm)] at *
    exact t.back hh hcan ha hout hb hw h1 h2 h3
  | k, _, _, _, _, .sl (l := l) (ow := ow) hwo hl hc hn hf hr hs t, ha, hout, wr, G, G1, hb, hw, h1, h2, h3 => by
    rw [winL_cons hwo] at *
    cases ow with
    | none =>
      exact t.back hh hcan (by simpa [apartB] using ha) (fun x lb hx => hout x lb (by simp [hx])) (by simpa [wback] using hb) hw (fun i o hx => h1 i o fun x hx' => hx x (by simpa using hx')) (fun x hx => h2 x (by simp [hx])) h3
    | some win =>
      have hwr : win.wr = false := winOf_sl hwo
      obtain ⟨wb, wo, wn, ww⟩ := win
      simp only at hwr
      subst hwr
      exact t.back hh hcan (apartB_cons ha).2 (fun x lb hx => hout x lb (by simp [hx])) (by simpa [wback] using hb) hw
        (fun i o hx => h1 i o fun x hx' hxw => by
          rcases List.mem_cons.1 hx' with hx' | hx'
          · cases hx'; cases hxw
          · exact hx x hx' hxw) (fun x hx => h2 x (by simp [hx])) h3
  | k, _, _, _, _, .pt (n := n) (b := b) (off := off) (cs := cs) (x := x) (lb := lb) (ob := ob) hl hc hn hf hr hob hx hlb hle t, ha, hout, wr, G, G1, hb, hw, h1, h2, h3 => by
    rw [winL_cons (w := some ⟨b, off, n, true⟩) rfl] at *
    cases wr with
    | nil => simp [wback] at hb
    | cons c wr =>
      obtain ⟨hu, ha'⟩ := apartB_cons ha
      simp only [wback] at hb
      rw [h2 ⟨b, off, n, true⟩ (by simp) rfl, hob] at hb
      simp only [hx] at hb
      split at hb <;> try (cases hb; done)
      rename_i hcn
      split at hb <;> try (cases hb; done)
      rename_i ob' hob'
      obtain ⟨hw1, hw2, hw3⟩ := hw
      obtain ⟨q1, q2, q3⟩ := wcs_cs hx
      obtain ⟨l', hl', hor, hU⟩ := hh.obj _ _ hob
      rw [hlb] at hl'; cases hl'
      have hcr : CellsR ρ w lb true x := by rcases q3 with rfl | rfl <;> exact hor
      have hcr' : ∀ ρ', CellsR ρ' w' ⟨lb.blk, lb.sh + off, n⟩ true c := fun ρ' => hcan k c _ hw1 hl ρ' hcn.2
      -- the block's cells now
      have hnew : CellsR ρ w' lb true (setAt x off c) := by
        have hlen := setAt_length c x off
        refine ⟨by rw [hlen]; exact hcr.1, fun i v e => ?_, fun i hi => ?_⟩
        · have hi : i < x.length := by
            rcases Nat.lt_or_ge i x.length with h | h
            · exact h
            · rw [List.getElem?_eq_none (by omega)] at e; cases e
          rw [setAt_get c x off i (by omega)] at e
          split at e
          · rename_i hin
            obtain ⟨v', g1, g2⟩ := (hcr' ρ).2.1 (i - off) v e
            exact ⟨v', by rw [← g1]; congr 2; simp only; omega, g2⟩
          · rename_i hin
            obtain ⟨v', g1, g2⟩ := hcr.2.1 i v e
            exact ⟨v', by rw [(hout ⟨b, off, n, true⟩ lb (by simp) rfl hlb i (by have := hcr.1; omega) (by simp only; omega)).1]; exact g1, g2⟩
        · by_cases hin : off ≤ i ∧ i < off + n
          · have := (hcr' ρ).2.2 (i - off) (by simp only; omega)
            simp only [show lb.sh + off + (i - off) = lb.sh + i by omega] at this
            exact ⟨this.1, fun _ => this.2 trivial⟩
          · have := hout ⟨b, off, n, true⟩ lb (by simp) rfl hlb i hi hin
            rw [this.1, this.2]; exact hcr.2.2 i hi
      have hobj' : ObjR P ρ w' lb ob' ∧ writable ob' = true := by
        rcases q3 with rfl | rfl <;> simp only [VObj.wr, Option.some.injEq] at hob' <;> subst hob' <;> exact ⟨hnew, rfl⟩
      refine t.back hh hcan ha' (fun x lb hx => hout x lb (by simp [hx])) hb hw3 (fun i o hx' e => ?_) (fun y hy hyw => ?_) (fun i o e => ?_)
      · rw [aget_aput] at e
        split at e
        · rename_i hbi
          cases e; subst hbi
          exact ⟨lb, hlb, hobj'.1, fun _ => hU q2⟩
        · rename_i hbi
          refine h1 i o (fun y hy hyw => ?_) e
          rcases List.mem_cons.1 hy with hy | hy
          · cases hy; exact hbi
          · exact hx' y hy hyw
      · have hne : b ≠ y.b := fun e => by
          have := (winsBut_spec hu y hy e).2
          rw [hyw] at this; cases this
        rw [aget_aput_ne _ _ hne]
        exact h2 y (by simp [hy]) hyw
      · rw [aget_aput] at e
        split at e
        · rename_i hbi
          cases e; subst hbi
          exact ⟨ob, hob, by rw [q2, hobj'.2]⟩
        · exact h3 i o e

/-- an object more; the world has it already -/
theorem HpR.add {w0 w : World} {U : UG} {ρ : Ren} {H : Hp} {top : Nat} [hn : NG U top] (h : HpR P w0 U ρ H top w) {l : Loc} {o : VObj} (ho : ObjR P (upd ρ top l) w l o)
    (hap : ∀ i oi li, aget H i = some oi → ρ i = some li → Apart l li) (hu : ∀ k, l.sh ≤ k → k < l.sh + l.ext → U.u l.blk k ∨ w0.heap.size ≤ l.blk) : HpR P w0 U (upd ρ top l) (aput H top o) (top + 1) w where
  obj i x hx := by
    rw [aget_aput] at hx
    by_cases hi : top = i
    · subst hi
      rw [if_pos rfl] at hx; cases hx
      exact ⟨l, upd_same _ _ _, ho, fun _ => hu⟩
    · rw [if_neg hi] at hx
      obtain ⟨l', hl', hr, hw⟩ := h.obj i x hx
      exact ⟨l', by rw [upd_ne _ _ hi]; exact hl', hr.same (Ext.upd h.off0) (fun _ => rfl), hw⟩
  dis i j oi oj li lj hij hi hj hli hlj hw := by
    rw [aget_aput] at hi hj
    by_cases h1 : top = i
    · subst h1
      rw [if_neg hij] at hj
      rw [upd_same] at hli; cases hli
      rw [upd_ne _ _ hij] at hlj
      exact hap j oj lj hj hlj
    · rw [if_neg h1] at hi
      rw [upd_ne _ _ h1] at hli
      by_cases h2 : top = j
      · subst h2
        rw [upd_same] at hlj; cases hlj
        exact (hap i oi li hi hli).symm
      · rw [if_neg h2] at hj
        rw [upd_ne _ _ h2] at hlj
        exact h.dis i j oi oj li lj hij hi hj hli hlj hw
  lt i l' e := by
    by_cases hi : top = i
    · have := hn.le; omega
    · rw [upd_ne _ _ hi] at e; exact (h.lt i l' e).imp id (fun h => by omega)
  keep := h.keep

theorem addNew_ok {w0 w : World} {U : UG} : ∀ {new : List (List Value)} {ls : List Loc} {ρ : Ren} {H H' : Hp} {top top' : Nat}, HpR P w0 U ρ H top w → U.lo ≤ top → (∀ j, top ≤ j → j < top' → ¬ U.g j) → ls.length = new.length →
    (∀ (i : Nat) c l, new[i]? = some c → ls[i]? = some l → (∀ ρ', flatV.flatL c = true → CellsR ρ' w l true c) ∧ ∀ k, l.sh ≤ k → k < l.sh + l.ext → w0.heap.size ≤ l.blk) → ls.Pairwise Apart →
    (∀ i oi li, aget H i = some oi → ρ i = some li → ∀ l ∈ ls, Apart l li) → addNew H top new = some (H', top') →
    ∃ ρ', HpR P w0 U ρ' H' top' w ∧ Ext ρ ρ' ∧ ∀ (i : Nat) l, ls[i]? = some l → ρ' (top + i) = some l
  | [], ls, ρ, H, H', top, top', hh, hlo, hg, hlen, hc, hp, hap, ha => by
    simp only [addNew, Option.some.injEq, Prod.mk.injEq] at ha
    obtain ⟨rfl, rfl⟩ := ha
    have : ls = [] := List.eq_nil_of_length_eq_zero (by simpa using hlen)
    subst this
    exact ⟨ρ, hh, Ext.refl ρ, fun i l e => by simp at e⟩
  | c :: new, [], ρ, H, H', top, top', hh, hlo, hg, hlen, hc, hp, hap, ha => by simp at hlen
  | c :: new, l :: ls, ρ, H, H', top, top', hh, hlo, hg, hlen, hc, hp, hap, ha => by
    simp only [addNew] at ha
    split at ha <;> try (cases ha; done)
    rename_i hflat
    obtain ⟨_, _, htop, _⟩ := addNew_loc new (aput H top (.row true c)) (aput H top (.row true c)) H' (top + 1) top' ha
    haveI : NG U top := ⟨hg top (Nat.le_refl _) (by omega), hlo⟩
    rw [List.pairwise_cons] at hp
    obtain ⟨c1, c2⟩ := hc 0 c l rfl rfl
    have h1 := hh.add (o := .row true c) (l := l) (c1 _ hflat) (fun i oi li e1 e2 => hap i oi li e1 e2 l (by simp)) (fun k k1 k2 => .inr (c2 k k1 k2))
    obtain ⟨ρ', g1, g2, g3⟩ := addNew_ok h1 (by omega) (fun j j1 j2 => hg j (by omega) j2) (by simpa using hlen) (fun i c l e1 e2 => hc (i + 1) c l (by simpa using e1) (by simpa using e2)) hp.2 (fun i oi li e1 e2 l' hl' => by
      rw [aget_aput] at e1
      split at e1
      · rename_i hi
        subst hi
        rw [upd_same] at e2; cases e2
        exact (hp.1 l' hl').symm
      · rename_i hi
        rw [upd_ne _ _ hi] at e2
        exact hap i oi li e1 e2 l' (by simp [hl'])) ha
    refine ⟨ρ', g1, (Ext.upd hh.off0).trans g2, fun i l' e => ?_⟩
    cases i with
    | zero => simp at e; subst e; exact g2 _ _ (upd_same _ _ _)
    | succ i => rw [show top + (i + 1) = top + 1 + i by omega]; exact g3 i l' (by simpa using e)


theorem newOK_get {H : Hp} : ∀ {js : List Nat} {new : List (List Value)}, newOK H js new → js.length = new.length ∧ ∀ (i : Nat) j, js[i]? = some j → ∃ c, new[i]? = some c ∧ (aget H j = some (.row true c) ∨ aget H j = some (.cells c))
  | [], [], _ => ⟨rfl, fun i j e => by simp at e⟩
  | j :: js, c :: new, h => by
    obtain ⟨h1, h2⟩ := newOK_get h.2
    refine ⟨by simp [h1], fun i x e => ?_⟩
    cases i with
    | zero => simp at e; subst e; exact ⟨c, rfl, h.1⟩
    | succ i => simpa using h2 i x (by simpa using e)
  | [], _ :: _, h => h.elim
  | _ :: _, [], h => h.elim

theorem wrOK_get {H : Hp} : ∀ {k : Nat} {aqs : List SArg} {wr : List (List Value)}, wrOK H k aqs wr → ∀ i cs, aget (rowsOf k aqs) i = some (.cells cs) → ∃ c, aget H i = some (.cells c)
  | k, [], wr, h, i, cs, e => by simp [rowsOf, aget] at e
  | k, .v _ :: aqs, wr, h, i, cs, e => wrOK_get (k := k) (aqs := aqs) (wr := wr) (by cases wr <;> exact h) i cs (by simpa [rowsOf] using e)
  | k, .sl _ _ :: aqs, wr, h, i, cs, e => by
    simp only [rowsOf] at e
    rw [aget_cons] at e
    split at e
    · cases e
    · exact wrOK_get (k := k + 1) (aqs := aqs) (wr := wr) (by cases wr <;> exact h) i cs e
  | k, .pt _ :: aqs, [], h, i, cs, e => h.elim
  | k, .pt _ :: aqs, c :: wr, h, i, cs, e => by
    simp only [rowsOf] at e
    rw [aget_cons] at e
    split at e
    · rename_i hk; subst hk; exact ⟨c, h.1⟩
    · exact wrOK_get h.2.2 i cs e

theorem rowsOf_lt : ∀ {k : Nat} {aqs : List SArg} {i : Nat} {o : VObj}, aget (rowsOf k aqs) i = some o → i < k + wins aqs
  | k, [], i, o, e => by simp [rowsOf, aget] at e
  | k, .v _ :: aqs, i, o, e => by simp only [rowsOf] at e; simp only [wins]; exact rowsOf_lt e
  | k, .sl _ _ :: aqs, i, o, e => by
    simp only [rowsOf] at e
    rw [aget_cons] at e
    simp only [wins]
    split at e
    · omega
    · have := rowsOf_lt e; omega
  | k, .pt _ :: aqs, i, o, e => by
    simp only [rowsOf] at e
    rw [aget_cons] at e
    simp only [wins]
    split at e
    · omega
    · have := rowsOf_lt e; omega

theorem pw_of {α : Type} {R : α → α → Prop} : ∀ {l : List α}, (∀ (i j : Nat) a b, i < j → l[i]? = some a → l[j]? = some b → R a b) → l.Pairwise R
  | [], _ => .nil
  | x :: l, h => by
    rw [List.pairwise_cons]
    refine ⟨fun y hy => ?_, pw_of fun i j a b hij ha hb => h (i + 1) (j + 1) a b (by omega) (by simpa using ha) (by simpa using hb)⟩
    obtain ⟨j, hj⟩ := List.getElem?_of_mem hy
    exact h 0 (j + 1) x y (by omega) rfl (by simpa using hj)

theorem locs_of {ρ : Ren} : ∀ {js : List Nat}, (∀ j ∈ js, ∃ l, ρ j = some l) → ∃ ls : List Loc, ls.length = js.length ∧ ∀ (i : Nat) j, js[i]? = some j → ∃ l, ls[i]? = some l ∧ ρ j = some l
  | [], _ => ⟨[], rfl, fun i j e => by simp at e⟩
  | j :: js, h => by
    obtain ⟨l, hl⟩ := h j (by simp)
    obtain ⟨ls, g1, g2⟩ := locs_of (js := js) fun x hx => h x (by simp [hx])
    refine ⟨l :: ls, by simp [g1], fun i x e => ?_⟩
    cases i with
    | zero => simp at e; subst e; exact ⟨l, rfl, hl⟩
    | succ i => simpa using g2 i x (by simpa using e)

theorem SumOK.of_leads (hF : FnsOK P F) {f : Nat} {s : Summ}
    (h : ∀ aqs r, argsOK s.modes aqs → s.run aqs = some r → ∃ c, enterF F f (entry 0 s.modes aqs) = some c ∧ Leads P f (wins aqs) ⟨c, [], rowsOf 0 aqs, wins aqs⟩ (fun v' H' _ => Res aqs r v' H'))
    (hfn : ∃ fn, P.funcs[f]? = some fn ∧ fn.name ≠ "runtime.NumGoroutine" ∧ fn.body.isSome = true) : SumOK P f s where
  fn := hfn
  calls := by
    intro w0 U ρ H top w vals rvals v H' top' hlo hg hh hv hs cs
    unfold sumRun at hs
    split at hs <;> try (cases hs; done)
    rename_i aqs has
    split at hs <;> try (cases hs; done)
    rename_i v0 new wr hrun
    split at hs <;> try (cases hs; done)
    rename_i hap
    split at hs <;> try (cases hs; done)
    rename_i H1 hwb
    split at hs <;> try (cases hs; done)
    rename_i H2 top2 hadd
    split at hs <;> try (cases hs; done)
    rename_i v2 hren
    cases hs
    obtain ⟨ρc, c1, fit⟩ := args_fit hh 0 has hv
    obtain ⟨hok, hvr⟩ := fit.args
    obtain ⟨c, hc, hl⟩ := h aqs _ hok hrun
    have hspot := fit.spots hh
    -- what the call may write
    let u : Nat → Nat → Prop := fun b k => ∃ i cs l, aget (rowsOf 0 aqs) i = some (.cells cs) ∧ ρc i = some l ∧ l.blk = b ∧ l.sh ≤ k ∧ k < l.sh + l.ext
    have hpc : HpR P w (.of u) ρc (rowsOf 0 aqs) (wins aqs) w :=
      { obj := fun i o e => by
          obtain ⟨_, l, hl, sp⟩ := hspot i o e
          refine ⟨l, hl, ?_, fun hw k k1 k2 => .inl ?_⟩
          · rcases sp.obj with ⟨cs', rfl, a⟩ | ⟨cs', rfl, a⟩ <;> exact a ρc
          · rcases sp.obj with ⟨cs', rfl, a⟩ | ⟨cs', rfl, a⟩
            · cases hw
            · exact ⟨i, cs', l, e, hl, rfl, k1, k2⟩
        dis := fun i j oi oj li lj hij hi hj hli hlj hw => by
          rcases Nat.lt_or_gt_of_ne hij with h | h
          · exact fit.dis hh hap i j oi oj li lj h hi hj hli hlj (.inl hw)
          · exact (fit.dis hh hap j i oj oi lj li h hj hi hlj hli (.inr hw)).symm
        lt := fun i l e => by have := c1 i l e; exact .inr ⟨Nat.zero_le _, by omega⟩
        keep := Keep.refl _ _ }
    obtain ⟨ρ', rv, fr', w', v', Hc, tc, g1, g2, g3, g4, g5, g6, js, r1, r2, r3, r4, r5⟩ := hl.get w u ρc _ [] w cs ⟨(enter_ok hF hc hvr).1, .nil, hpc⟩
    -- a writable place is in a window
    have huwin : ∀ b k, u b k → ∃ x lb ob, some x ∈ winL s.modes vals ∧ x.wr = true ∧ aget H x.b = some ob ∧ writable ob = true ∧ ρ x.b = some lb ∧ b = lb.blk ∧ lb.sh + x.off ≤ k ∧ k < lb.sh + x.off + x.n ∧ k < lb.sh + lb.ext := by
      rintro b k ⟨i, cs', l, e1, e2, rfl, e4, e5⟩
      obtain ⟨_, l', hl', sp⟩ := hspot i _ e1
      rw [e2] at hl'; cases hl'
      rcases sp.at_ with ⟨_, hw⟩ | ⟨x, lb, ob, f1, f2, f3, f4, f5, f6, f7, f8⟩
      · cases hw
      · obtain ⟨q1, q2, q3⟩ := f8 f2
        exact ⟨x, lb, ob, f1, f2, f3, q1, f4, f5, by omega, by omega, by omega⟩
    have hkeep : Keep U w0 w' := hh.keep.trans g5.keep fun b k hu => by
      obtain ⟨x, lb, ob, f1, f2, f3, f4, f5, rfl, f7, f8, f9⟩ := huwin b k hu
      obtain ⟨l', hl', _, hU⟩ := hh.obj _ _ f3
      rw [f5] at hl'; cases hl'
      exact hU f4 k (by omega) f9
    have hcell : ∀ i o l, aget H i = some o → ρ i = some l → ∀ q, q < l.ext → (∀ x, some x ∈ winL s.modes vals → x.wr = true → x.b = i → ¬ (x.off ≤ q ∧ q < x.off + x.n)) → ¬ u l.blk (l.sh + q) := fun i o l hi hl q hq hx hu => by
      obtain ⟨x, lb, ob, f1, f2, f3, f4, f5, f6, f7, f8, f9⟩ := huwin _ _ hu
      by_cases hxi : x.b = i
      · subst hxi
        rw [hl] at f5; cases f5
        exact hx x f1 f2 rfl (by omega)
      · exact hh.dis x.b i ob o lb l hxi f3 hi f5 hl f4 (l.sh + q) f6.symm (by omega) (by omega) (by omega) (by omega)
    obtain ⟨b1, b2⟩ := fit.back (w' := w') hh (Hc := Hc) (fun i c l e1 e2 ρ'' hf => by
        have hlt := (c1 i l e2).2
        obtain ⟨l', q1, q2, _⟩ := g5.obj i _ e1
        rw [g6 i l (by omega) e2] at q1; cases q1
        exact CellsR.move q2 hf) hap (fun x lb f1 f2 f3 q hq hnq => by
        -- within a window's block, outside of the window
        obtain ⟨i, hi⟩ : ∃ ob, aget H x.b = some ob := by
          have : ∀ {k : Nat} {ms : List Md} {vs rvs : List Value} {aqs : List SArg}, Fit w H ρ ρc k ms vs rvs aqs → some x ∈ winL ms vs → ∃ ob, aget H x.b = some ob := by
            intro k ms vs rvs aqs ft hx
            induction ft with
            | nil => simp [winL] at hx
            | v hm hf hr t ih => rw [winL_skip (winOf_v hm)] at hx; exact ih hx
            | sl hw hl hc hn hf hr hs t ih =>
              rw [winL_cons hw] at hx
              rcases List.mem_cons.1 hx with hx | hx
              · subst hx
                have := winOf_sl hw
                rw [f2] at this; cases this
              · exact ih hx
            | pt hl hc hn hf hr hob hx' hlb hle t ih =>
              rw [winL_cons rfl] at hx
              rcases List.mem_cons.1 hx with hx | hx
              · cases hx; exact ⟨_, hob⟩
              · exact ih hx
          exact this fit f1
        obtain ⟨l', q1, q2, _⟩ := hh.obj _ _ hi
        rw [f3] at q1; cases q1
        have hnu := hcell x.b i lb hi f3 q hq fun y h1 h2 h3 => by
          have := apartB_uniq hap x y f1 h1 h3.symm f2
          subst this; exact hnq
        have hwcell : (w.cell? ⟨lb.blk, lb.sh + q, none⟩).isSome = true := by
          have hwx : ∃ own cs', CellsR ρ w lb own cs' := by
            have : ∀ {k : Nat} {ms : List Md} {vs rvs : List Value} {aqs : List SArg}, Fit w H ρ ρc k ms vs rvs aqs → some x ∈ winL ms vs → ∃ own cs', CellsR ρ w lb own cs' := by
              intro k ms vs rvs aqs ft hx
              induction ft with
              | nil => simp [winL] at hx
              | v hm hf hr t ih => rw [winL_skip (winOf_v hm)] at hx; exact ih hx
              | sl hw hl hc hn hf hr hs t ih =>
                rw [winL_cons hw] at hx
                rcases List.mem_cons.1 hx with hx | hx
                · subst hx
                  have := winOf_sl hw
                  rw [f2] at this; cases this
                · exact ih hx
              | pt hl hc hn hf hr hob hx' hlb hle t ih =>
                rw [winL_cons rfl] at hx
                rcases List.mem_cons.1 hx with hx | hx
                · cases hx
                  rw [hob] at hi; cases hi
                  obtain ⟨own, hq⟩ := q2.cells (wcs_cs hx').1
                  exact ⟨own, _, hq⟩
                · exact ih hx
            exact this fit f1
          obtain ⟨own, cs', hcr⟩ := hwx
          exact (hcr.2.2 q hq).1
        exact Keep.cell g5.keep (World.block_lt_of_cell? w _ (Option.some_get hwcell).symm) hnu hwcell) hwb r5 (fun i o hx e => by
        obtain ⟨l, q1, q2, q3⟩ := hh.obj i o e
        refine ⟨l, q1, q2.stay (Ext.refl ρ) (fun q hq => ?_) (fun q hq => ?_) (fun hn he => ?_), q3⟩
        · have hnu := hcell i o l e q1 q hq fun y h1 h2 h3 => absurd h3 (hx y h1 h2)
          cases hcl : w.cell? ⟨l.blk, l.sh + q, none⟩ with
          | none =>
            -- no cell: then the block is none of cells
            cases o with
            | cells cs' => have := (q2.2.2 q hq).1; rw [hcl] at this; cases this
            | row own cs' => have := (q2.2.2 q hq).1; rw [hcl] at this; cases this
            | siter sb p =>
              have h0 : w'.heap[l.blk]? = w.heap[l.blk]? := Keep.other g5.keep (q2.lt (by omega)) (by have := q2.2.1; rw [show l.sh + q = 0 by have := q2.2.2; omega] at hnu; exact hnu) (by rw [q2.1]; simp)
              rw [← hcl]; exact World.cell?_of_block (w := w) h0
            | loop r =>
              have h0 : w'.heap[l.blk]? = w.heap[l.blk]? := Keep.other g5.keep (q2.lt (by omega)) (by rw [show l.sh + q = 0 by have := q2.2.1; have := q2.2.2; omega] at hnu; exact hnu) (by obtain ⟨⟨r', a, _⟩, _⟩ := q2; rw [a]; simp)
              rw [← hcl]; exact World.cell?_of_block (w := w) h0
            | marks =>
              have h0 : w'.heap[l.blk]? = w.heap[l.blk]? := Keep.other g5.keep (q2.lt (by omega)) (by rw [show l.sh + q = 0 by have := q2.2.1; have := q2.2.2; omega] at hnu; exact hnu) (by rw [q2.1]; simp)
              rw [← hcl]; exact World.cell?_of_block (w := w) h0
          | some y => rw [← hcl]; exact (Keep.cell g5.keep (q2.lt (by omega)) hnu (by rw [hcl]; rfl)).1
        · have hnu := hcell i o l e q1 q hq fun y h1 h2 h3 => absurd h3 (hx y h1 h2)
          cases o with
          | cells cs' => exact (Keep.cell g5.keep (q2.lt (by omega)) hnu (q2.2.2 q hq).1).2
          | row own cs' => exact (Keep.cell g5.keep (q2.lt (by omega)) hnu (q2.2.2 q hq).1).2
          | siter sb p =>
            have h0 : w'.heap[l.blk]? = w.heap[l.blk]? := Keep.other g5.keep (q2.lt (by omega)) (by rw [show l.sh + q = 0 by have := q2.2.1; have := q2.2.2; omega] at hnu; exact hnu) (by rw [q2.1]; simp)
            exact World.frozen?_of_block (w := w) h0
          | loop r =>
            have h0 : w'.heap[l.blk]? = w.heap[l.blk]? := Keep.other g5.keep (q2.lt (by omega)) (by rw [show l.sh + q = 0 by have := q2.2.1; have := q2.2.2; omega] at hnu; exact hnu) (by obtain ⟨⟨r', a, _⟩, _⟩ := q2; rw [a]; simp)
            exact World.frozen?_of_block (w := w) h0
          | marks =>
            have h0 : w'.heap[l.blk]? = w.heap[l.blk]? := Keep.other g5.keep (q2.lt (by omega)) (by rw [show l.sh + q = 0 by have := q2.2.1; have := q2.2.2; omega] at hnu; exact hnu) (by rw [q2.1]; simp)
            exact World.frozen?_of_block (w := w) h0
        · have hsh : l.sh = 0 := by
            cases o with
            | cells cs' =>
              exfalso
              have := (q2.2.2 0 he).1
              unfold World.cell? at this
              cases hh' : w.heap[l.blk]? with
              | none => simp [hh'] at this
              | some y => cases y <;> simp [hh'] at this <;> exact hn _ _ _ hh'
            | row own cs' =>
              exfalso
              have := (q2.2.2 0 he).1
              unfold World.cell? at this
              cases hh' : w.heap[l.blk]? with
              | none => simp [hh'] at this
              | some y => cases y <;> simp [hh'] at this <;> exact hn _ _ _ hh'
            | siter => exact q2.2.1
            | loop => exact q2.2.1
            | marks => exact q2.2.1
          have hnu := hcell i o l e q1 0 he fun y h1 h2 h3 => absurd h3 (hx y h1 h2)
          rw [hsh] at hnu
          exact Keep.other g5.keep (q2.lt he) hnu hn) (fun _ _ _ => rfl) (fun i o e => ⟨o, e, rfl⟩)
    have hh1 : HpR P w0 U ρ H1 top w' :=
      { obj := b1
        dis := fun i j oi oj li lj hij hi hj hli hlj hw => by
          obtain ⟨oi', a1, a2⟩ := b2 i oi hi
          obtain ⟨oj', a3, a4⟩ := b2 j oj hj
          exact hh.dis i j oi' oj' li lj hij a1 a3 hli hlj (a2.trans hw)
        lt := hh.lt
        keep := hkeep }
    -- the new rows
    obtain ⟨n1, n2⟩ := newOK_get r2
    have hnew : ∀ j ∈ js, ∃ l o, ρ' j = some l ∧ aget Hc j = some o ∧ writable o = true ∧ ∀ k, l.sh ≤ k → k < l.sh + l.ext → w.heap.size ≤ l.blk := fun j hj => by
      obtain ⟨i, hi⟩ := List.getElem?_of_mem hj
      obtain ⟨c, _, hcj⟩ := n2 i j hi
      obtain ⟨o, ho, hwo⟩ : ∃ o, aget Hc j = some o ∧ writable o = true := by rcases hcj with h | h <;> exact ⟨_, h, rfl⟩
      obtain ⟨l, q1, _, q3⟩ := g5.obj j o ho
      refine ⟨l, o, q1, ho, hwo, fun k k1 k2 => ?_⟩
      rcases q3 hwo k k1 k2 with hu | hge
      · exfalso
        obtain ⟨i, cs', l0, e1, e2, e3, e4, e5⟩ := hu
        obtain ⟨c', hc'⟩ := wrOK_get r5 i cs' e1
        have hlt := rowsOf_lt e1
        have hij : i ≠ j := fun e => by have := r4 j hj; omega
        exact g5.dis i j _ o l0 l hij hc' ho (g6 i l0 (by omega) e2) q1 rfl k e3 e4 e5 k1 k2
      · exact hge
    obtain ⟨ls, m1, m2⟩ := locs_of (ρ := ρ') (js := js) fun j hj => let ⟨l, _, h, _⟩ := hnew j hj; ⟨l, h⟩
    have hback : ∀ (i : Nat) l, ls[i]? = some l → ∃ j, js[i]? = some j ∧ ρ' j = some l := fun i l e => by
      have hi : i < js.length := by
        rcases Nat.lt_or_ge i ls.length with h | h
        · omega
        · rw [List.getElem?_eq_none h] at e; cases e
      obtain ⟨l', e1, e2⟩ := m2 i js[i] (List.getElem?_eq_getElem hi)
      rw [e] at e1; cases e1
      exact ⟨_, List.getElem?_eq_getElem hi, e2⟩
    obtain ⟨ρ2, a1, a2, a3⟩ := addNew_ok (new := new) (ls := ls) hh1 hlo hg (m1.trans n1) (fun i c l e1 e2 => by
        obtain ⟨j, e3, e4⟩ := hback i l e2
        obtain ⟨c', f1, f2⟩ := n2 i j e3
        rw [e1] at f1; cases f1
        obtain ⟨l', o, q1, q2, q3, q4⟩ := hnew j (List.mem_of_getElem? e3)
        rw [e4] at q1; cases q1
        refine ⟨fun ρ'' hf => ?_, fun k k1 k2 => Nat.le_trans hh.keep.size (q4 k k1 k2)⟩
        rcases f2 with f2 | f2 <;>
        · obtain ⟨l', z1, z2, _⟩ := g5.obj j _ f2
          rw [e4] at z1; cases z1
          exact CellsR.move z2 hf) (pw_of fun i k a b hik ha hb => by
        obtain ⟨j1, e1, e2⟩ := hback i a ha
        obtain ⟨j2, e3, e4⟩ := hback k b hb
        obtain ⟨l1, o1, q1, q2, q3, _⟩ := hnew j1 (List.mem_of_getElem? e1)
        obtain ⟨l2, o2, p1, p2, p3, _⟩ := hnew j2 (List.mem_of_getElem? e3)
        rw [e2] at q1; cases q1
        rw [e4] at p1; cases p1
        refine g5.dis j1 j2 o1 o2 a b (fun e => ?_) q2 p2 e2 e4 q3
        subst e
        have h1 : i < js.length := by
          rcases Nat.lt_or_ge i js.length with h | h
          · exact h
          · rw [List.getElem?_eq_none h] at e1; cases e1
        have := (List.getElem?_inj h1 r3).1 (e1.trans e3.symm)
        omega) (fun i oi li e1 e2 l hl k ek k1 k2 k3 k4 => by
        obtain ⟨q, hq⟩ := List.getElem?_of_mem hl
        obtain ⟨j, e3, e4⟩ := hback q l hq
        obtain ⟨l', o, q1, _, _, q4⟩ := hnew j (List.mem_of_getElem? e3)
        rw [e4] at q1; cases q1
        have hge := q4 k k1 k2
        obtain ⟨o', f1, _⟩ := b2 i oi e1
        have := hh.blk_lt f1 e2 (by omega)
        omega) hadd
    refine ⟨.returned rv, w', fr', ⟨ρ2, rv, rfl, ?_, a1, a2⟩, g1, g2, g3⟩
    refine VR.ren (ρ := comp (fun i => js[i]?) ρ') (fun i k l hs hl => ?_) v0 hren (VR.unren v0 r1 g4)
    cases hb : Nat.blt i new.length with
    | false => rw [hb] at hs; cases hs
    | true =>
      rw [hb, cond_true, Option.some.injEq] at hs
      subst hs
      unfold comp at hl
      split at hl
      · rename_i j hj
        obtain ⟨l', e1, e2⟩ := m2 i j hj
        rw [hl] at e2; cases e2
        exact a3 i l e1
      · cases hl

end
end Go.Vm
