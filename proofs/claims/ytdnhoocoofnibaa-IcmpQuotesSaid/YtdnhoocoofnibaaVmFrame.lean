import Derived.Test.YtdnhoocoofnibaaVmLib
import Derived.Deep.Slices
import Derived.WideShapes
import Derived.ChangeShapes
namespace Go.Vm
open Go Go.RowKit Go.WideShapes
def structK (g : TypeId → Option (List SK)) (P : Program) (o : Nat) : List Field → Option (List SK)
  | [] => some []
  | f :: fs => if f.offset = o then match g f.type with
    | some a => if a.length = P.cellsOf f.type then match structK g P (o + a.length) fs with
      | some b => some (a ++ b)
      | none => none
      else none
    | none => none
    else none
def leafK (P : Program) : Nat → TypeId → Option (List SK)
  | 0, _ => none
  | n + 1, t => match P.underlying t with
    | some .bool => some [.bool]
    | some (.int k) => some [.int k]
    | some .string => some [.str]
    | some (.struct fs) => match structK (leafK P n) P 0 fs.toList with
      | some ks => if ks.length = P.cellsOf t then some ks else none
      | none => none
    | _ => none
def leafOK : SK → Value → Prop
  | .bool, v => ∃ b, v = .bool b
  | .int k, v => ∃ n, v = .int k n ∧ (Lit.int k n).wf = true
  | .str, v => ∃ s, v = .string s ∧ s.size ≤ maxLen
  | .oth, _ => False
def cellsOK : List SK → List Value → Prop
  | [], [] => True
  | k :: ks, v :: vs => leafOK k v ∧ cellsOK ks vs
  | _, _ => False
theorem cellsOK.append : ∀ {a b : List SK} {x y : List Value}, cellsOK a x → cellsOK b y → cellsOK (a ++ b) (x ++ y)
  | [], _, [], _, _, k => k
  | [], _, _ :: _, _, h, _ => h.elim
  | _ :: _, _, [], _, h, _ => h.elim
  | _ :: _, _, _ :: _, _, h, k => ⟨h.1, cellsOK.append h.2 k⟩
theorem cellsOK.length : ∀ {a : List SK} {x : List Value}, cellsOK a x → x.length = a.length
  | [], [], _ => rfl
  | [], _ :: _, h => h.elim
  | _ :: _, [], h => h.elim
  | _ :: _, _ :: _, h => by simp [cellsOK.length h.2]
theorem cellsOK.inv {k : SK} {ks : List SK} {cs : List Value} (h : cellsOK (k :: ks) cs) : ∃ v vs, cs = v :: vs ∧ leafOK k v ∧ cellsOK ks vs := by
  cases cs with
  | nil => exact h.elim
  | cons v vs => exact ⟨v, vs, rfl, h⟩
theorem cellsOK.inv0 {cs : List Value} (h : cellsOK [] cs) : cs = [] := by
  cases cs with
  | nil => rfl
  | cons => exact h.elim
section
variable {H : Type} {enc : TypeId × Value → H} {P : Program} {w : World} {base : Nat} {spare : Nat → Bool} {held : Bool}
theorem structK_ok {g : TypeId → Option (List SK)} {F : TypeId → List Value → Prop} (hg : ∀ t ks cs, g t = some ks → F t cs → cellsOK ks cs) {cs : List Value} :
    ∀ {fs : List Field} {o : Nat} {ks : List SK}, structK g P o fs = some ks → (∀ f ∈ fs, F f.type ((cs.drop f.offset).take (P.cellsOf f.type))) → cellsOK ks ((cs.drop o).take ks.length)
  | [], o, ks, h, _ => by simp only [structK, Option.some.injEq] at h; subst h; simp [cellsOK]
  | f :: fs, o, ks, h, hm => by
    simp only [structK] at h
    split at h <;> try (cases h; done)
    rename_i ho
    split at h <;> try (cases h; done)
    rename_i a ha
    split at h <;> try (cases h; done)
    rename_i hl
    split at h <;> cases h
    rename_i b hb
    have h1 := hg f.type a _ ha (hm f (by simp))
    have h2 := structK_ok hg hb (fun f' hf => hm f' (by simp [hf]))
    have h3 := h1.append h2
    rw [ho, ← hl] at h3
    rw [List.length_append, List.take_add, List.drop_drop]
    exact h3
theorem trod_flat : ∀ {n : Nat} {t : TypeId} {ks : List SK} {fuel : Nat} {cs : List Value} {x : DataW H × List MemPlace}, leafK P n t = some ks → DataW.trod enc P w base spare held fuel t cs = some x → cellsOK ks cs
  | 0, t, ks, fuel, cs, x, h, _ => by simp [leafK] at h
  | n + 1, t, ks, fuel, cs, x, h, hd => by
    simp only [leafK] at h
    split at h
    · rename_i ht
      cases h
      obtain ⟨b, rfl, _⟩ := DataW.trod_bool ht hd
      exact ⟨⟨_, rfl⟩, trivial⟩
    · rename_i k ht
      cases h
      obtain ⟨b, rfl, _, hw⟩ := DataW.trod_int ht hd
      exact ⟨⟨_, rfl, hw⟩, trivial⟩
    · rename_i ht
      cases h
      obtain ⟨b, rfl, _, hw⟩ := DataW.trod_string ht hd
      exact ⟨⟨_, rfl, hw⟩, trivial⟩
    · rename_i fs ht
      split at h <;> try (cases h; done)
      rename_i ks' hks
      split at h <;> cases h
      rename_i hlen
      obtain ⟨xs, m, _, _, hcl, hxl, hf⟩ := DataW.trod_struct ht hd
      have := structK_ok (P := P) (cs := cs) (F := fun t cs => ∃ x, DataW.trod enc P w base spare held m t cs = some x) (fun t ks cs h1 ⟨x, h2⟩ => trod_flat h1 h2) hks (fun f hfm => by
        obtain ⟨i, hi⟩ := List.getElem?_of_mem hfm
        rw [Array.getElem?_toList] at hi
        have hlt : i < xs.length := by rw [hxl]; exact (Array.getElem?_eq_some_iff.1 hi).1
        exact ⟨xs[i], by rw [hf i f hi, List.getElem?_eq_getElem hlt]⟩)
      rw [List.drop_zero, List.take_of_length_le (by omega)] at this
      exact this
    · cases h
theorem open_flat {r : Reach} {b0 n : Nat} {t : TypeId} {ks : List SK} {v : Value} {d : DataW H} {ps : List MemPlace} (hk : leafK P n t = some ks) (hval : Value.okWide P w r b0 t v) (hd : DataW.Trod enc P w base spare held t v d ps) :
    cellsOK ks (cellsL v) ∧ ((isAggB P t = true ∧ v = .agg ⟨cellsL v⟩) ∨ isAggB P t = false) := by
  obtain ⟨fuel, hf⟩ := hd
  refine ⟨trod_flat hk hf, ?_⟩
  unfold Value.okWide at hval
  unfold isAggB
  split at hval
  · rename_i hu; rw [hu]
    obtain ⟨cs, rfl, _⟩ := hval
    exact .inl ⟨rfl, rfl⟩
  · rename_i hu; rw [hu]
    obtain ⟨cs, rfl, _⟩ := hval
    exact .inl ⟨rfl, rfl⟩
  · rename_i h1 h2
    right
    split
    · rename_i hu; exact absurd hu (h1 _)
    · rename_i hu; exact absurd hu (h2 _ _)
    · rfl
def RowR (w : World) (k : SK) (a : Option Addr) (len cap : Nat) (zs : List Value) : Prop :=
  (a = none ∧ len = 0 ∧ cap = 0 ∧ zs = []) ∨ ∃ x, a = some x ∧ len ≤ cap ∧ cap ≤ maxLen ∧ zs.length = cap ∧ ∀ (i : Nat) v, zs[i]? = some v → w.cell? (x.add i) = some v ∧ leafOK k v
theorem open_row {r : Reach} {b0 n : Nat} {t e : TypeId} {k : SK} {v : Value} {d : DataW H} {ps : List MemPlace} (ht : P.underlying t = some (.slice e)) (hc : P.cellsOf e = 1) (hk : leafK P n e = some [k]) (hval : Value.okWide P w r b0 t v)
    (hd : DataW.Trod enc P w base (fun _ => true) held t v d ps) : ∃ a len cap zs, v = .slice a len cap ∧ RowR w k a len cap zs := by
  obtain ⟨a, len, cap, rfl⟩ := okWide_slice ht hval
  obtain ⟨fuel, hf⟩ := hd
  rcases Go.Deep.open_slice1 ht hc hf with ⟨h0, _⟩ | ⟨x, l, c, m, n', V, D, Pl, hcs, hb, hl, hm, hmm, _, hx⟩
  · simp [Value.cells] at h0
    obtain ⟨rfl, rfl, rfl⟩ := h0
    exact ⟨_, _, _, [], rfl, .inl ⟨rfl, rfl, rfl, rfl⟩⟩
  · simp [Value.cells] at hcs
    obtain ⟨rfl, rfl, rfl⟩ := hcs
    simp only [if_true] at hmm
    subst hmm
    refine ⟨_, _, _, (List.range m).map V, rfl, .inr ⟨x, rfl, hl, hm, by simp, fun i v e => ?_⟩⟩
    rw [List.getElem?_map] at e
    have hi : i < m := by
      rcases Nat.lt_or_ge i m with h | h
      · exact h
      · rw [List.getElem?_eq_none (by simpa using h)] at e; cases e
    rw [List.getElem?_range hi, Option.map_some, Option.some.injEq] at e
    subst e
    obtain ⟨h1, h2⟩ := hx i hi
    refine ⟨h1, ?_⟩
    obtain ⟨v', vs, e1, h3, _⟩ := (trod_flat hk h2).inv
    cases e1; exact h3
theorem leafOK.flat {k : SK} {v : Value} (h : leafOK k v) : flatV v = true := by
  cases k with
  | bool => obtain ⟨b, rfl⟩ := h; rfl
  | int k => obtain ⟨b, rfl, _⟩ := h; rfl
  | str => obtain ⟨b, rfl, _⟩ := h; rfl
  | oth => exact h.elim
theorem ArgR.row {k : SK} {w : World} {a : Option Addr} {len cap : Nat} {zs : List Value} (h : RowR w k a len cap zs) : ArgR w (.sl 1) (.sl len (zs.take len)) (.slice a len cap) ∧ (zs.take len).length = len ∧ (∀ v ∈ zs.take len, leafOK k v) ∧ len ≤ maxLen := by
  rcases h with ⟨rfl, rfl, rfl, rfl⟩ | ⟨x, rfl, hl, hm, hz, hc⟩
  · exact ⟨.inl ⟨⟨_, rfl⟩, rfl, rfl⟩, rfl, fun v hv => by simp at hv, by simp [maxLen]⟩
  · have hleaf : ∀ v ∈ zs.take len, leafOK k v := fun v hv => by
      obtain ⟨i, hi⟩ := List.getElem?_of_mem (List.mem_of_mem_take hv)
      exact (hc i v hi).2
    refine ⟨?_, by simp; omega, hleaf, by omega⟩
    rcases Nat.eq_zero_or_pos cap with h0 | h0
    · subst h0
      obtain rfl : len = 0 := by omega
      exact .inl ⟨⟨_, rfl⟩, rfl, by simp⟩
    · have hs : x.spot = none := by
        have := (hc 0 zs[0] (List.getElem?_eq_getElem (by omega))).1
        cases hx : x.spot with
        | none => rfl
        | some q =>
          simp only [Addr.add, ↓reduceIte, World.cell?] at this
          split at this
          · simp [hx] at this
          · cases this
      obtain ⟨b, o, q⟩ := x
      simp only at hs
      subst hs
      have hadd : ∀ i, (⟨b, o, none⟩ : Addr).add i = ⟨b, o + i, none⟩ := fun i => by
        unfold Addr.add; split
        · rename_i e; subst e; rfl
        · rfl
      refine .inr ⟨b, o, cap, rfl, hl, fun ρ => ⟨by simp; omega, fun i v e => ?_, fun i hi => ?_⟩⟩
      · have hi : i < len := by
          rcases Nat.lt_or_ge i len with h | h
          · exact h
          · rw [List.getElem?_eq_none (by simp; omega)] at e; cases e
        rw [List.getElem?_take_of_lt hi] at e
        obtain ⟨h1, h2⟩ := hc i v e
        rw [hadd] at h1
        exact ⟨v, h1, VR.flat ρ v h2.flat⟩
      · have hi' : i < zs.length := by simp at hi; omega
        obtain ⟨h1, _⟩ := hc i zs[i] (List.getElem?_eq_getElem hi')
        rw [hadd] at h1
        exact ⟨by simp [h1], fun e => by cases e⟩
theorem leaf_bools : ∀ {zs : List Value}, (∀ v ∈ zs, leafOK .bool v) → ∃ xs : List Bool, zs = xs.map .bool
  | [], _ => ⟨[], rfl⟩
  | v :: zs, h => by
    obtain ⟨b, rfl⟩ := h v (by simp)
    obtain ⟨xs, rfl⟩ := leaf_bools (zs := zs) fun v hv => h v (by simp [hv])
    exact ⟨b :: xs, rfl⟩
theorem leaf_ints {k : IntKind} : ∀ {zs : List Value}, (∀ v ∈ zs, leafOK (.int k) v) → ∃ xs : List Int, zs = xs.map (.int k) ∧ ∀ n ∈ xs, (Lit.int k n).wf = true
  | [], _ => ⟨[], rfl, fun _ h => by cases h⟩
  | v :: zs, h => by
    obtain ⟨b, rfl, hw⟩ := h v (by simp)
    obtain ⟨xs, rfl, hx⟩ := leaf_ints (zs := zs) fun v hv => h v (by simp [hv])
    exact ⟨b :: xs, rfl, fun n hn => by rcases List.mem_cons.1 hn with rfl | hn; exact hw; exact hx n hn⟩
theorem leaf_strs : ∀ {zs : List Value}, (∀ v ∈ zs, leafOK .str v) → ∃ xs : List ByteArray, zs = xs.map .string ∧ ∀ s ∈ xs, s.size ≤ maxLen
  | [], _ => ⟨[], rfl, fun _ h => by cases h⟩
  | v :: zs, h => by
    obtain ⟨b, rfl, hw⟩ := h v (by simp)
    obtain ⟨xs, rfl, hx⟩ := leaf_strs (zs := zs) fun v hv => h v (by simp [hv])
    exact ⟨b :: xs, rfl, fun n hn => by rcases List.mem_cons.1 hn with rfl | hn; exact hw; exact hx n hn⟩
end
theorem wf_u8 {n : Int} (h : (Lit.int .u8 n).wf = true) : 0 ≤ n ∧ n < 256 := by simp [Lit.wf, IntKind.min, IntKind.max, IntKind.signed, IntKind.bits] at h; omega
theorem wf_u16 {n : Int} (h : (Lit.int .u16 n).wf = true) : 0 ≤ n ∧ n < 65536 := by simp [Lit.wf, IntKind.min, IntKind.max, IntKind.signed, IntKind.bits] at h; omega
theorem wf_u32 {n : Int} (h : (Lit.int .u32 n).wf = true) : 0 ≤ n ∧ n < 4294967296 := by simp [Lit.wf, IntKind.min, IntKind.max, IntKind.signed, IntKind.bits] at h; omega
theorem wf_u64 {n : Int} (h : (Lit.int .u64 n).wf = true) : 0 ≤ n ∧ n < 18446744073709551616 := by simp [Lit.wf, IntKind.min, IntKind.max, IntKind.signed, IntKind.bits] at h; omega
theorem wf_i64 {n : Int} (h : (Lit.int .i64 n).wf = true) : -9223372036854775808 ≤ n ∧ n < 9223372036854775808 := by simp [Lit.wf, IntKind.min, IntKind.max, IntKind.signed, IntKind.bits] at h; omega
end Go.Vm
