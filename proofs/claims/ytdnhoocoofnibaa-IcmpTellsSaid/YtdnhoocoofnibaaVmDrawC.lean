import Derived.Test.YtdnhoocoofnibaaVmDrawB
import Derived.Test.YtdnhoocoofnibaaVmStep
import Derived.Orders
namespace Go.Vm
open Go Go.RowKit
theorem bitAt_eq (m i : Nat) : bitAt m i = m.testBit i := by
  unfold bitAt Nat.testBit
  rw [show Nat.shiftRight m i = m >>> i from rfl, show Nat.land 1 (m >>> i) = 1 &&& (m >>> i) from rfl]
  rw [Nat.one_and_eq_mod_two]
  rcases Nat.mod_two_eq_zero_or_one (m >>> i) with h | h <;> rw [h] <;> rfl
theorem memB_iff {x : Nat} : ∀ {l : List Nat}, memB x l = true ↔ x ∈ l
  | [] => by simp [memB]
  | y :: l => by
    simp only [memB, List.mem_cons]
    cases hb : Nat.beq x y with
    | true => simp [Nat.eq_of_beq_eq_true hb]
    | false =>
      have : x ≠ y := fun e => by subst e; simp at hb
      simp [this, memB_iff]
theorem disjB_iff : ∀ {l k : List Nat}, disjB l k = true → ∀ x ∈ l, x ∉ k
  | [], _, _, x, h => by cases h
  | y :: l, k, h, x, hx => by
    simp only [disjB] at h
    cases hb : memB y k with
    | true => rw [hb] at h; cases h
    | false =>
      rw [hb, cond_false] at h
      rcases List.mem_cons.1 hx with rfl | hx
      · intro hk; rw [memB_iff.2 hk] at hb; cases hb
      · exact disjB_iff h x hx
theorem okCol_spec {i : Nat} {f : Fp} : ∀ {ms : List Nat} {fs : List Fp}, okCol i f ms fs = true → ∀ (q : Nat) g, fs[q]? = some g → ∃ m, ms[q]? = some m ∧ (m.testBit i = true ∨ noConf f g = true)
  | _, [], _, q, g, h => by simp at h
  | [], _ :: _, h, _, _, _ => by simp [okCol] at h
  | m :: ms, x :: fs, h, q, g, hq => by
    simp only [okCol, Bool.and_eq_true, Bool.or_eq_true, bitAt_eq] at h
    cases q with
    | zero => simp at hq; subst hq; exact ⟨m, rfl, h.1⟩
    | succ q => simpa using okCol_spec h.2 q g (by simpa using hq)
theorem okAll_spec : ∀ {i : Nat} {ms : List Nat} {fs : List Fp}, okAll i ms fs = true → ∀ (p q : Nat) f g, p < q → fs[p]? = some f → fs[q]? = some g → ∃ m, ms[q]? = some m ∧ (m.testBit (i + p) = true ∨ noConf f g = true)
  | _, _, [], _, p, q, f, g, _, h, _ => by simp at h
  | _, [], _ :: _, h, _, _, _, _, _, _, _ => by simp [okAll] at h
  | i, m :: ms, x :: fs, h, p, q, f, g, hpq, hp, hq => by
    simp only [okAll, Bool.and_eq_true] at h
    obtain ⟨q, rfl⟩ : ∃ r, q = r + 1 := ⟨q - 1, by omega⟩
    cases p with
    | zero =>
      simp at hp; subst hp
      simpa using okCol_spec h.1 q g (by simpa using hq)
    | succ p =>
      obtain ⟨m', h1, h2⟩ := okAll_spec h.2 p q f g (by omega) (by simpa using hp) (by simpa using hq)
      exact ⟨m', by simpa using h1, by rwa [show i + (p + 1) = i + 1 + p by omega]⟩
theorem frCol_spec {i : Nat} {a : VOp} : ∀ {ms : List Nat} {os : List VOper} {j : Nat} (q : Nat) (o : VOper), os[q]? = some o → ∀ m, ms[q]? = some m → m.testBit i = true ∨ pairFree a o.op = true ∨ (i, j + q) ∈ frCol i j a ms os
  | [], _, _, q, o, _, m, h => by simp at h
  | _ :: _, [], _, q, o, h, _, _ => by simp at h
  | m0 :: ms, x :: os, j, q, o, ho, m, hm => by
    simp only [frCol]
    cases q with
    | zero =>
      simp at ho hm; subst ho; subst hm
      cases hb : bitAt m0 i with
      | true => exact .inl (by rw [← bitAt_eq]; exact hb)
      | false =>
        cases hp : pairFree a x.op with
        | true => exact .inr (.inl rfl)
        | false => exact .inr (.inr (by simp))
    | succ q =>
      rcases frCol_spec (i := i) (a := a) (ms := ms) (os := os) (j := j + 1) q o (by simpa using ho) m (by simpa using hm) with h | h | h
      · exact .inl h
      · exact .inr (.inl h)
      · refine .inr (.inr ?_)
        rw [show j + 1 + q = j + (q + 1) by omega] at h
        cases (bitAt m0 i || pairFree a x.op) with
        | true => exact h
        | false => exact List.mem_cons_of_mem _ h
theorem freePairs_spec : ∀ {i : Nat} {ms : List Nat} {os : List VOper} (p q : Nat) (a b : VOper), p < q → os[p]? = some a → os[q]? = some b → ∀ m, ms[q]? = some m → m.testBit (i + p) = true ∨ pairFree a.op b.op = true ∨ (i + p, i + q) ∈ freePairs i ms os
  | _, [], _, p, q, a, b, _, _, _, m, h => by simp at h
  | _, _ :: _, [], p, q, a, b, _, h, _, _, _ => by simp at h
  | i, m0 :: ms, x :: os, p, q, a, b, hpq, ha, hb, m, hm => by
    simp only [freePairs]
    obtain ⟨q, rfl⟩ : ∃ r, q = r + 1 := ⟨q - 1, by omega⟩
    cases p with
    | zero =>
      simp at ha; subst ha
      rcases frCol_spec (i := i) (a := x.op) (j := i + 1) q b (by simpa using hb) m (by simpa using hm) with h | h | h
      · exact .inl h
      · exact .inr (.inl h)
      · refine .inr (.inr (List.mem_append_left _ ?_))
        rwa [show i + 1 + q = i + (q + 1) by omega] at h
    | succ p =>
      rcases freePairs_spec (i := i + 1) (ms := ms) (os := os) p q a b (by omega) (by simpa using ha) (by simpa using hb) m (by simpa using hm) with h | h | h
      · exact .inl (by rwa [show i + (p + 1) = i + 1 + p by omega])
      · exact .inr (.inl h)
      · refine .inr (.inr (List.mem_append_right _ ?_))
        rwa [show i + 1 + p = i + (p + 1) by omega, show i + 1 + q = i + (q + 1) by omega] at h
theorem okPairs_spec {fps : List Fp} : ∀ {l : List (Nat × Nat)}, okPairs fps l = true → ∀ i j, (i, j) ∈ l → ∀ a b, fps[i]? = some a → fps[j]? = some b → noConf a b = true
  | [], _, i, j, h, _, _, _, _ => by cases h
  | (p, q) :: l, h, i, j, hm, a, b, ha, hb => by
    simp only [okPairs, Bool.and_eq_true] at h
    rcases List.mem_cons.1 hm with e | hm
    · cases e
      have := h.1
      rw [ha, hb] at this; exact this
    · exact okPairs_spec h.2 i j hm a b ha hb
def preds (ops : Array Oper) (j : Nat) : List Nat := match ops[j]? with
  | some o => (o.after.toList.filter (Region.binds .any)).map (·.on)
  | none => []
def Ranked (md : Region.Mode) (ops : Array Oper) : Prop := ∃ rk : Nat → Nat, ∀ (j : Nat) o, ops[j]? = some o → ∀ e ∈ o.after.toList, Region.binds md e = true → e.on < ops.size ∧ rk e.on < rk j
theorem rankB_spec {md : Region.Mode} {rk : Nat → Nat} {n : Nat} : ∀ {l : List Oper} {i : Nat}, rankB md rk n i l = true → ∀ (k : Nat) o, l[k]? = some o → ∀ e ∈ o.after.toList, Region.binds md e = true → e.on < n ∧ rk e.on < rk (i + k)
  | [], _, _, k, o, h => by simp at h
  | x :: l, i, h, k, o, hk => by
    simp only [rankB, Bool.and_eq_true, List.all_eq_true, Bool.or_eq_true] at h
    cases k with
    | zero =>
      simp at hk; subst hk
      intro e he hb
      rcases h.1 e he with h1 | h1
      · rw [hb] at h1; cases h1
      · exact ⟨Nat.blt_eq.mp h1.1, Nat.blt_eq.mp h1.2⟩
    | succ k =>
      intro e he hb
      have := rankB_spec h.2 k o (by simpa using hk) e he hb
      rwa [show i + 1 + k = i + (k + 1) by omega] at this
theorem ranked_of {ops : Array Oper} (h : ordersB ops = true) (md : Region.Mode) (hd : md = .any ∨ Region.departs ops = true) : Ranked md ops := by
  simp only [ordersB, Bool.and_eq_true, Bool.or_eq_true] at h
  have key : ∀ {md rk}, rankB md rk ops.size 0 ops.toList = true → Ranked md ops := fun {md rk} h =>
    ⟨rk, fun j o ho e he hb => by simpa using rankB_spec h j o (by rw [Array.getElem?_toList]; exact ho) e he hb⟩
  rcases hd with rfl | hd
  · exact key h.1
  · rcases h.2 with h2 | h2
    · rw [hd] at h2; cases h2
    · cases md
      · exact key h2.1
      · exact key h2.2
      · exact key h.1
theorem backs_spec {ops : Array Oper} (h : ordersB ops = true) (k : Nat) (o : Oper) (hk : ops.toList[k]? = some o) : ∀ e ∈ o.after.toList, Region.binds .any e = true → e.on < k := by
  simp only [ordersB, Bool.and_eq_true] at h
  intro e he hb
  simpa using (rankB_spec h.1 k o hk e he hb).2
theorem fold_bits (acc : List Nat) : ∀ (l : List Edge) (s i : Nat), (l.foldl (fun s e => if Region.binds .any e then s ||| 2 ^ e.on ||| acc.getD e.on 0 else s) s).testBit i = true →
    s.testBit i = true ∨ ∃ e ∈ l, Region.binds .any e = true ∧ (i = e.on ∨ (acc.getD e.on 0).testBit i = true)
  | [], s, i, h => .inl h
  | e :: l, s, i, h => by
    rw [List.foldl_cons] at h
    rcases fold_bits acc l _ i h with h | ⟨e', h1, h2, h3⟩
    · split at h
      · rename_i hb
        rw [Nat.testBit_or, Nat.testBit_or, Bool.or_eq_true, Bool.or_eq_true] at h
        rcases h with (h | h) | h
        · exact .inl h
        · rw [Nat.testBit_two_pow] at h
          exact .inr ⟨e, by simp, hb, .inl (by simpa using h : e.on = i).symm⟩
        · exact .inr ⟨e, by simp, hb, .inr h⟩
      · exact .inl h
    · exact .inr ⟨e', by simp [h1], h2, h3⟩
theorem ordGo_spec : ∀ (l : List Oper) (acc : List Nat), (∀ k, k < acc.length → (ordOf.go acc l)[k]? = acc[k]?) ∧ (ordOf.go acc l).length = acc.length + l.length ∧
    ∀ (k : Nat) o, l[k]? = some o → (∀ e ∈ o.after.toList, Region.binds .any e = true → e.on < acc.length + k) → ∀ i, ((ordOf.go acc l).getD (acc.length + k) 0).testBit i = true →
      ∃ e ∈ o.after.toList, Region.binds .any e = true ∧ (i = e.on ∨ ((ordOf.go acc l).getD e.on 0).testBit i = true)
  | [], acc => ⟨fun _ _ => rfl, rfl, fun k o h => by simp at h⟩
  | x :: l, acc => by
    obtain ⟨g1, g2, g3⟩ := ordGo_spec l (acc ++ [x.after.toList.foldl (fun s e => if Region.binds .any e then s ||| 2 ^ e.on ||| acc.getD e.on 0 else s) 0])
    have hs : ∀ k, k < acc.length + 1 → (ordOf.go acc (x :: l))[k]? = (acc ++ [x.after.toList.foldl (fun s e => if Region.binds .any e then s ||| 2 ^ e.on ||| acc.getD e.on 0 else s) 0])[k]? := fun k hk => g1 k (by simp; omega)
    refine ⟨fun k hk => ?_, by simp only [ordOf.go]; rw [g2]; simp; omega, fun k o hk hb i hi => ?_⟩
    · rw [hs k (by omega), List.getElem?_append_left hk]
    · cases k with
      | zero =>
        simp at hk; subst hk
        rw [Nat.add_zero, List.getD_eq_getElem?_getD, hs _ (by omega), List.getElem?_append_right (by omega), Nat.sub_self] at hi
        simp only [List.getElem?_cons_zero, Option.getD_some] at hi
        rcases fold_bits acc _ 0 i hi with h | ⟨e, h1, h2, h3⟩
        · simp at h
        · refine ⟨e, h1, h2, h3.imp id fun h => ?_⟩
          have he := hb e h1 h2
          rw [List.getD_eq_getElem?_getD, hs _ (by omega), List.getElem?_append_left (by omega), ← List.getD_eq_getElem?_getD]; exact h
      | succ k =>
        have := g3 k o (by simpa using hk) (fun e he hbe => by have := hb e he hbe; simp; omega) i (by simp only [List.length_append, List.length_cons, List.length_nil]; simp only [ordOf.go] at hi; rwa [show acc.length + (0 + 1) + k = acc.length + (k + 1) by omega])
        exact this
theorem ord_listed {ops : Array Oper} (hb : ordersB ops = true) {D : Nat → Prop} (hc : ∀ j, D j → ∀ i ∈ preds ops j, D i) : ∀ (j : Nat), (∀ i ∈ preds ops j, D i) → ∀ i, ((ordOf ops.toList).getD j 0).testBit i = true → D i := by
  intro j
  induction j using Nat.strongRecOn with
  | ind j ih =>
    intro hj i hi
    cases ho : ops.toList[j]? with
    | none =>
      have hl : (ordOf ops.toList).length = ops.toList.length := by simpa [ordOf] using (ordGo_spec ops.toList []).2.1
      rw [List.getD_eq_getElem?_getD, List.getElem?_eq_none (by rw [hl]; exact List.getElem?_eq_none_iff.1 ho)] at hi
      simp at hi
    | some o =>
      obtain ⟨e, h1, h2, h3⟩ := (ordGo_spec ops.toList []).2.2 j o ho (fun e he hbe => by simpa using backs_spec hb j o ho e he hbe) i (by simpa [ordOf] using hi)
      have hlt : e.on < j := backs_spec hb j o ho e h1 h2
      have hp : e.on ∈ preds ops j := by
        rw [Array.getElem?_toList] at ho
        simp only [preds, ho, List.mem_map, List.mem_filter]
        exact ⟨e, ⟨h1, h2⟩, rfl⟩
      rcases h3 with rfl | h3
      · exact hj _ hp
      · exact ih e.on hlt (hc _ (hj _ hp)) i h3
inductive Lin (md : Region.Mode) (ops : Array Oper) : List Nat → Array Bool → Prop
  | nil {listed} (h : ∀ j, j < ops.size → listed.getD j true = true) : Lin md ops [] listed
  | cons {j l listed} (h : j ∈ Region.ready md ops listed) (t : Lin md ops l (listed.setIfInBounds j true)) : Lin md ops (j :: l) listed
def left (ops : Array Oper) (listed : Array Bool) : Nat := ((List.range ops.size).filter fun j => !listed.getD j true).length
theorem filter_lt {p q : Nat → Bool} : ∀ {l : List Nat}, (∀ x ∈ l, q x = true → p x = true) → ∀ y ∈ l, p y = true → q y = false → (l.filter q).length < (l.filter p).length
  | [], _, y, h, _, _ => by cases h
  | x :: l, hi, y, hy, hp, hq => by
    have hle : (l.filter q).length ≤ (l.filter p).length := by
      rw [← List.countP_eq_length_filter, ← List.countP_eq_length_filter]
      exact List.countP_mono_left fun x hx hh => hi x (by simp [hx]) hh
    rcases List.mem_cons.1 hy with rfl | hy
    · rw [List.filter_cons_of_pos hp, List.filter_cons_of_neg (by simp [hq])]
      simp; omega
    · have ih := filter_lt (fun x hx => hi x (by simp [hx])) y hy hp hq
      cases hqx : q x with
      | true =>
        rw [List.filter_cons_of_pos hqx, List.filter_cons_of_pos (hi x (by simp) hqx)]; simpa using ih
      | false =>
        rw [List.filter_cons_of_neg (by simp [hqx])]
        cases hpx : p x with
        | true => rw [List.filter_cons_of_pos hpx]; simp; omega
        | false => rw [List.filter_cons_of_neg (by simp [hpx])]; exact ih
theorem ready_ne {md : Region.Mode} {ops : Array Oper} {listed : Array Bool} (hb : Ranked md ops) (hsz : listed.size = ops.size) : ∀ (j : Nat), j < ops.size → listed.getD j true = false → Region.ready md ops listed ≠ [] := by
  obtain ⟨rk, hb⟩ := hb
  have key : ∀ (n j : Nat), rk j = n → j < ops.size → listed.getD j true = false → Region.ready md ops listed ≠ [] := by
    intro n
    induction n using Nat.strongRecOn with
    | ind n ih =>
      intro j hn hj hl
      have ho : ops[j]? = some ops[j] := Array.getElem?_eq_getElem hj
      by_cases hall : ∀ e ∈ ops[j].after, Region.binds md e = true → listed.getD e.on false = true
      · intro he
        have : j ∈ Region.ready md ops listed := mem_ready.2 ⟨hl, _, ho, hall⟩
        rw [he] at this; cases this
      · simp only [Classical.not_forall] at hall
        obtain ⟨e, h1, h2, h3⟩ := hall
        obtain ⟨hlt, hrk⟩ := hb j _ ho e (by simpa using h1) h2
        refine ih _ (hn ▸ hrk) e.on rfl hlt ?_
        have hlt' : e.on < listed.size := by omega
        have hf : listed.getD e.on false = listed[e.on] := by simp [hlt']
        have ht : listed.getD e.on true = listed[e.on] := by simp [hlt']
        rw [hf] at h3
        rw [ht]; simpa using h3
  exact fun j => key _ j rfl
theorem lin_go {md : Region.Mode} {ops : Array Oper} (hb : Ranked md ops) : ∀ (fuel t : Nat) (listed : Array Bool), listed.size = ops.size → left ops listed ≤ fuel → Lin md ops (Region.linearise.go md ops fuel t listed []) listed
  | fuel, t, listed, hsz, hl => by
    have empty : left ops listed = 0 → ∀ j, j < ops.size → listed.getD j true = true := fun h j hj => by
      unfold left at h
      have := List.eq_nil_of_length_eq_zero h
      rw [List.filter_eq_nil_iff] at this
      simpa using this j (List.mem_range.2 hj)
    cases fuel with
    | zero =>
      simp only [Region.linearise.go, List.reverse_nil]
      exact .nil (empty (by omega))
    | succ fuel =>
      simp only [Region.linearise.go]
      change Lin md ops (match (Region.ready md ops listed)[t % (Region.ready md ops listed).length]? with
        | some i => Region.linearise.go md ops fuel (t / (Region.ready md ops listed).length) (listed.setIfInBounds i true) [i]
        | none => [].reverse) listed
      cases hi : (Region.ready md ops listed)[t % (Region.ready md ops listed).length]? with
      | none =>
        have hnil : Region.ready md ops listed = [] := by
          cases hr : Region.ready md ops listed with
          | nil => rfl
          | cons x xs =>
            rw [hr] at hi
            have hlt : t % (x :: xs).length < (x :: xs).length := Nat.mod_lt _ (by simp)
            rw [List.getElem?_eq_getElem hlt] at hi; cases hi
        simp only [List.reverse_nil]
        refine .nil fun j hj => ?_
        cases hlj : listed.getD j true with
        | true => rfl
        | false => exact absurd hnil (ready_ne hb hsz j hj hlj)
      | some i =>
        simp only []
        rw [linearise_go_acc, List.reverse_singleton, List.singleton_append]
        have hm := List.mem_of_getElem? hi
        obtain ⟨h1, o, h2, h3⟩ := mem_ready.1 hm
        have hlt : i < ops.size := (Array.getElem?_eq_some_iff.1 h2).1
        refine .cons hm (lin_go hb fuel _ _ (by simpa using hsz) ?_)
        have : left ops (listed.setIfInBounds i true) < left ops listed := by
          refine filter_lt (fun x hx hq => ?_) i (List.mem_range.2 hlt) (by simpa using h1) (by simp [hsz, hlt])
          by_cases hix : i = x
          · subst hix; simp [hsz, hlt] at hq
          · rwa [getD_set_ne true hix] at hq
        omega
theorem lin_schedule {ops : Array Oper} (hb : ordersB ops = true) (mixed : Bool) (t : Nat) : ∃ md, Lin md ops (Region.schedule mixed ops t) (Array.replicate ops.size false) := by
  have key : ∀ md t, (md = .any ∨ Region.departs ops = true) → Lin md ops (Region.linearise md ops t) (Array.replicate ops.size false) := fun md t hd =>
    lin_go (ranked_of hb md hd) ops.size t _ (by simp) (by unfold left; exact Nat.le_trans (List.length_filter_le _ _) (by simp))
  unfold Region.schedule
  split
  · exact ⟨_, key _ _ (.inl rfl)⟩
  · rename_i hn
    have hd : Region.departs ops = true := by
      cases h : Region.departs ops with
      | true => rfl
      | false => rw [h] at hn; simp at hn
    split <;> exact ⟨_, key _ _ (.inr hd)⟩
theorem binds_any {md : Region.Mode} {e : Edge} (h : Region.binds .any e = true) : Region.binds md e = true := by
  obtain ⟨on, g⟩ := e
  cases g <;> first | rfl | exact absurd h (by simp only [Region.binds]; decide)
end Go.Vm
