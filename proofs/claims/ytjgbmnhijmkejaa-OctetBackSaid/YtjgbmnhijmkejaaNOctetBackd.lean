import Derived.Test.YtjgbmnhijmkejaaNOctetBackc
namespace Go.Vm.Code
open Go Go.Vm
def hv (b : UInt8) : Int := ixB dgs (b.toNat : Int)
def unhexS : List UInt8 → Option (List UInt8)
  | [] => some []
  | [_] => none
  | a :: b :: l => if hv a < 0 ∨ hv b < 0 then none else (unhexS l).map (UInt8.ofNat (16 * hv a + hv b).toNat :: ·)
def ansU (pre : List UInt8) (r : Option (List UInt8)) : List UInt8 × Bool := match r with
  | some l => (pre ++ l, true)
  | none => ([], false)
theorem byte_all {p : Nat → Prop} (h : ∀ k : Fin 256, p k.val) (b : UInt8) : p b.toNat := h ⟨b.toNat, b.toNat_lt⟩
theorem hv_rng (b : UInt8) : -1 ≤ hv b ∧ hv b < 16 := by
  have : ∀ k : Fin 256, -1 ≤ ixB dgs (k.val : Int) ∧ ixB dgs (k.val : Int) < 16 := by decide +kernel
  exact byte_all (p := fun n => -1 ≤ ixB dgs (n : Int) ∧ ixB dgs (n : Int) < 16) this b
theorem hv_dig {n : Nat} (h : n < 16) : hv (dig n) = n := by
  have : ∀ k : Fin 16, hv (dig k.val) = (k.val : Int) := by decide +kernel
  exact this ⟨n, h⟩
theorem unhex_hex : ∀ s : List UInt8, unhexS (hexS s) = some s
  | [] => rfl
  | b :: s => by
    have hb := b.toNat_lt
    rw [hexS_cons, unhexS, hv_dig (by omega), hv_dig (by omega), if_neg (by omega), unhex_hex s, Option.map_some]
    congr 2
    apply UInt8.toNat_inj.1
    simp; omega
theorem unhex_odd : ∀ {s : List UInt8}, s.length % 2 = 1 → unhexS s = none
  | [], h => absurd h (by decide)
  | [_], _ => rfl
  | a :: b :: l, h => by
    rw [unhexS, unhex_odd (s := l) (by simp only [List.length_cons] at h; omega)]
    split <;> rfl
theorem dec_small {s : List UInt8} {i : Nat} (h : i < s.length) (hb : s[i].toNat < 128) : Utf8.decode ⟨⟨s⟩⟩ i = (s[i].toNat, 1) := by
  have e : ((⟨⟨s⟩⟩ : ByteArray).get! (i + 0)) = s[i] := by
    show (⟨s⟩ : Array UInt8)[i]! = s[i]
    simp [h]
  unfold Utf8.decode
  simp only [e]
  rw [if_pos (by omega)]
theorem dec_big {s : List UInt8} {i : Nat} (h : i < s.length) (hb : 128 ≤ s[i].toNat) : 128 ≤ (Utf8.decode ⟨⟨s⟩⟩ i).1 := by
  have e : ((⟨⟨s⟩⟩ : ByteArray).get! (i + 0)) = s[i] := by
    show (⟨s⟩ : Array UInt8)[i]! = s[i]
    simp [h]
  unfold Utf8.decode
  simp only [e]
  rw [if_neg (by omega)]
  split
  · split
    · assumption
    · decide
  split
  · split
    · rename_i h2
      simp only [ge_iff_le, Bool.and_eq_true, decide_eq_true_eq] at h2
      exact Nat.le_trans (by decide) h2.1
    · decide
  split
  · split
    · rename_i h2
      simp only [ge_iff_le, Bool.and_eq_true, decide_eq_true_eq] at h2
      exact Nat.le_trans (by decide) h2.1
    · decide
  · decide
theorem ofNat_big (n : Nat) : 128 ≤ (UInt8.ofNat (0x80 + n % 64)).toNat := by simp; omega
theorem enc_big {r : Int} (h : 128 ≤ r) : ∃ l b, encR r = l ++ [b] ∧ 1 ≤ l.length ∧ l.length ≤ 3 ∧ 128 ≤ b.toNat := by
  unfold encR Utf8.encode
  have hc : 128 ≤ (if Utf8.valid r then r.toNat else Utf8.runeError) := by
    split
    · omega
    · decide
  generalize (if Utf8.valid r then r.toNat else Utf8.runeError) = c at hc
  simp only []
  rw [if_neg (by omega)]
  split
  · exact ⟨[_], _, rfl, by simp, by simp, ofNat_big c⟩
  split
  · exact ⟨[_, _], _, rfl, by simp, by simp, ofNat_big c⟩
  · exact ⟨[_, _, _], _, rfl, by simp, by simp, ofNat_big c⟩
theorem ixB_big {l : List UInt8} {b : UInt8} (hl : ∀ x ∈ l, x.toNat < 128) (hb : 128 ≤ b.toNat) : ixB l (b.toNat : Int) = -1 := by
  unfold ixB
  have : l.findIdx? (fun x => x == (b.toNat : Int).toNat.toUInt8) = none := by
    rw [List.findIdx?_eq_none_iff]
    intro x hx
    have := hl x hx
    have e : (b.toNat : Int).toNat.toUInt8 = b := by rw [Int.toNat_natCast]; apply UInt8.toNat_inj.1; simp
    rw [e]
    simp only [beq_eq_false_iff_ne]
    intro e2
    subst e2; omega
  rw [this]
theorem dgs_small : ∀ x ∈ dgs, x.toNat < 128 := by decide
theorem sib_eq (s : List UInt8) (c : Int) : strings_IndexByte s c = some (ixB s c) := rfl
theorem rune_big {r : Int} (h : 128 ≤ r) : strings_IndexRune dgs r = some (-1) := by
  unfold strings_IndexRune strings_IndexRuneF
  rw [cond_p (by omega), cond_n (by omega)]
  by_cases h1 : r = 65533
  · rw [show (r == 65533) = true by simpa using h1, cond_true]
    decide +kernel
  rw [show (r == 65533) = false by simpa using h1, cond_false]
  have hvr : ∃ v, unicode_utf8_ValidRune r = some v := by
    unfold unicode_utf8_ValidRune unicode_utf8_ValidRuneF
    simp only [cond_dec]
    repeat' split
    all_goals exact ⟨_, rfl⟩
  obtain ⟨v, hvr⟩ := hvr
  rw [hvr, Option.bind_some]
  cases v
  · rfl
  rw [Bool.not_true, cond_false]
  show iter _ (18446744073709551615 + 1) _ = _
  rw [iter]
  have : strings_IndexRune_s3 strings_IndexByte dgs r = some (.inr (-1)) := by
    obtain ⟨l, b, e, l1, l3, hb⟩ := enc_big h
    unfold strings_IndexRune_s3
    rw [e]
    have el : ((l ++ [b]).length : Int) = (l.length : Int) + 1 := by simp
    have e1 : wI .i64 ((l.length : Int) + 1 - 1) = (l.length : Int) := by rw [wI64 (by omega) (by omega)]; omega
    have e2 : wI .i64 ((l.length : Int) + 1) = (l.length : Int) + 1 := by rw [wI64 (by omega) (by omega)]
    have hd : l.length < dgs.length := Nat.lt_of_le_of_lt l3 (by decide)
    simp only [el, e1, e2, Int.toNat_natCast]
    rw [cond_p (by omega), oreq_p (by omega), List.getElem?_eq_getElem hd, Option.bind_some, oreq_p (by omega), List.getElem?_append_right (Nat.le_refl _), Nat.sub_self]
    simp only [List.getElem?_cons_zero, Option.bind_some]
    have hs := dgs_small dgs[l.length] (List.getElem_mem hd)
    rw [show ((dgs[l.length].toNat : Int) != (b.toNat : Int)) = true by simp; omega, cond_true, oreq_p (by omega), oreq_p (by omega), sib_eq, Option.bind_some, ixB_big (fun x hx => dgs_small x (List.mem_of_mem_drop (List.mem_of_mem_take hx))) hb]
    rfl
  simp only [this]
theorem rune_small {b : UInt8} (h : b.toNat < 128) : strings_IndexRune dgs (b.toNat : Int) = some (hv b) := by
  unfold strings_IndexRune strings_IndexRuneF
  rw [cond_p (by omega), cond_p (by omega), wU8 (by omega) (by omega), sib_eq]; rfl
theorem hv_big {b : UInt8} (h : 128 ≤ b.toNat) : hv b = -1 := ixB_big dgs_small h
theorem rune_at {s : List UInt8} {i : Nat} (h : i < s.length) : strings_IndexRune dgs ((Utf8.decode ⟨⟨s⟩⟩ i).1 : Int) = some (hv s[i]) ∧ (0 ≤ hv s[i] → (Utf8.decode ⟨⟨s⟩⟩ i).2 = 1) := by
  by_cases hb : s[i].toNat < 128
  · rw [dec_small h hb]; exact ⟨rune_small hb, fun _ => rfl⟩
  · rw [rune_big (by have := dec_big h (by omega); omega), hv_big (by omega)]; exact ⟨rfl, fun e => absurd e (by decide)⟩
theorem ior16 {x n : Int} (h0 : 0 ≤ x) (h1 : x < 16) (h2 : 0 ≤ n) (h3 : n < 16) : iorI .u8 (wI .u8 (x * 2 ^ 4)) (wI .u8 n) = 16 * x + n := by
  have : ∀ a b : Fin 16, iorI .u8 (wI .u8 ((a.val : Int) * 2 ^ 4)) (wI .u8 (b.val : Int)) = 16 * (a.val : Int) + (b.val : Int) := by decide +kernel
  have h := this ⟨x.toNat, by omega⟩ ⟨n.toNat, by omega⟩
  simp only [Int.toNat_of_nonneg h0, Int.toNat_of_nonneg h2] at h
  exact h
def unodd (x : Int) : List UInt8 → Option (List UInt8)
  | [] => none
  | a :: l => if hv a < 0 then none else (unhexS l).map (UInt8.ofNat (16 * x + hv a).toNat :: ·)
theorem unhex_two {a : UInt8} {l : List UInt8} (h : 0 ≤ hv a) : unhexS (a :: l) = unodd (hv a) l := by
  cases l with
  | nil => rfl
  | cons b l =>
    rw [unhexS, unodd]
    by_cases c : hv b < 0
    · rw [if_pos (.inr c), if_pos c]
    · rw [if_neg (by omega), if_neg c]
theorem unhex_bad {a : UInt8} {l : List UInt8} (h : hv a < 0) : unhexS (a :: l) = none := by
  cases l with
  | nil => rfl
  | cons b l => rw [unhexS, if_pos (.inl h)]
def goU (s : List UInt8) (p : Nat) (b : List Int) : List UInt8 × Bool :=
  ansU (iB (b.take (p / 2))) (if p % 2 = 0 then unhexS (s.drop p) else unodd ((b[p / 2]?).getD 0) (s.drop p))
theorem take_set_succ {b : List Int} {i : Nat} {v : Int} (h : i < b.length) : (b.set i v).take (i + 1) = b.take i ++ [v] := by
  rw [List.take_succ_eq_append_getElem (by simpa using h), List.take_set_of_le (Nat.le_refl _), List.getElem_set_self]
theorem ounhex_eq {s : List UInt8} (hs : s.length < 2 ^ 30) : octet_Unhex s = some (ansU [] (unhexS s)) := by
  unfold octet_Unhex octet_UnhexF
  by_cases hl : s.length % 2 = 1
  · rw [cond_p (by rw [Int.tmod_eq_emod_of_nonneg (by omega)]; omega), unhex_odd hl]; rfl
  have e0 : wI .i64 ((s.length : Int).tdiv 2) = ((s.length / 2 : Nat) : Int) := by rw [Int.tdiv_eq_ediv_of_nonneg (by omega), wI64 (by omega) (by omega)]; rfl
  rw [cond_n (by rw [Int.tmod_eq_emod_of_nonneg (by omega)]; omega), e0, oreq_p (by omega), Int.toNat_natCast]
  have key := iter_eq (step := fun (st : Int × List Int × Nat) => octet_Unhex_s1 strings_IndexRune s st.1 st.2.1 st.2.2) (fun st => goU s st.2.2 st.2.1) (fun st => st.1 = (st.2.2 : Int) ∧ st.2.2 ≤ s.length ∧ st.2.1.length = s.length / 2 ∧ (∀ j, (st.2.2 + 1) / 2 ≤ j → j < s.length / 2 → st.2.1[j]? = some 0) ∧ (st.2.2 % 2 = 1 → ∃ x, st.2.1[st.2.2 / 2]? = some x ∧ 0 ≤ x ∧ x < 16)) (fun st => s.length - st.2.2) ?_ FUEL (0, List.replicate (s.length / 2) 0, 0) ⟨rfl, by simp, by simp, fun j _ h => by simp [h], fun h => absurd h (by simp)⟩ (by rw [FUEL_eq]; simp only; omega)
  · rw [key]; simp [goU, iB]
  rintro ⟨y, b, p⟩ ⟨g1, g2, g3, g4, g5⟩
  simp only at g1 g2 g3 g4 g5 ⊢
  subst g1
  unfold octet_Unhex_s1
  rw [e0]
  by_cases hp : p < s.length
  · obtain ⟨r1, r2⟩ := rune_at hp
    rw [cond_p hp, show ([48, 49, 50, 51, 52, 53, 54, 55, 56, 57, 97, 98, 99, 100, 101, 102] : List UInt8) = dgs from rfl, r1, Option.bind_some]
    have ed : s.drop p = s[p] :: s.drop (p + 1) := List.drop_eq_getElem_cons hp
    have hr := hv_rng s[p]
    by_cases c1 : hv s[p] < 0
    · rw [cond_p c1]
      refine .inl ?_
      unfold goU
      rw [ed]
      split
      · rw [unhex_bad c1]; rfl
      · rw [unodd, if_pos c1]; rfl
    have e1 : wI .i64 ((p : Int).tdiv 2) = ((p / 2 : Nat) : Int) := by rw [Int.tdiv_eq_ediv_of_nonneg (by omega), wI64 (by omega) (by omega)]; rfl
    have hb : p / 2 < b.length := by omega
    have hx : ∃ x, b[p / 2]? = some x ∧ 0 ≤ x ∧ x < 16 ∧ (p % 2 = 0 → x = 0) := by
      by_cases c2 : p % 2 = 1
      · obtain ⟨x, x1, x2, x3⟩ := g5 c2
        exact ⟨x, x1, x2, x3, fun e => by omega⟩
      · exact ⟨0, g4 _ (by omega) (by omega), by decide, by decide, fun _ => rfl⟩
    obtain ⟨x, x1, x2, x3, x4⟩ := hx
    rw [cond_n c1, e1, oreq_p (by omega), Int.toNat_natCast, x1, Option.bind_some, oreq_p (by omega), oreq_p hb, ior16 x2 x3 (by omega) hr.2, r2 (by omega), wI64 (by omega) (by omega)]
    refine .inr ⟨(((p + 1 : Nat) : Int), b.set (p / 2) (16 * x + hv s[p]), p + 1), rfl, ⟨rfl, by simp only; omega, by simp only [List.length_set]; exact g3, fun j j1 j2 => ?_, fun hodd => ?_⟩, by simp only; omega, ?_⟩
    · simp only at j1 ⊢
      rw [List.getElem?_set_ne (by omega)]
      exact g4 j (by omega) j2
    · simp only at hodd ⊢
      have : (p + 1) / 2 = p / 2 := by omega
      rw [this, List.getElem?_set_self hb]
      have := x4 (by omega)
      exact ⟨_, rfl, by omega, by omega⟩
    · simp only
      unfold goU
      rw [ed]
      by_cases c2 : p % 2 = 0
      · have h2 : (p + 1) / 2 = p / 2 := by omega
        rw [if_neg (by omega), if_pos c2, h2, unhex_two (by omega), List.getElem?_set_self hb, List.take_set_of_le (Nat.le_refl _), x4 c2]
        simp
      · have h2 : (p + 1) / 2 = p / 2 + 1 := by omega
        rw [if_pos (by omega), if_neg c2, h2, x1, take_set_succ hb, unodd, if_neg c1, Option.getD_some]
        cases unhexS (s.drop (p + 1)) with
        | none => rfl
        | some l => simp [ansU, iB]
  · refine .inl ?_
    have : p = s.length := by omega
    subst this
    rw [cond_n (by omega), oreq_p (by omega), Int.toNat_natCast]
    unfold goU
    rw [if_pos (by omega), List.drop_of_length_le (Nat.le_refl _)]
    simp [unhexS, ansU]
end Go.Vm.Code
namespace Go.Vm.Code
open Go Go.Vm Go.Proofs
set_option maxRecDepth 100000
set_option maxHeartbeats 4000000
set_option linter.unusedVariables false
def law02_awakeF (octet_Hex : (List UInt8) → Option (List UInt8)) (octet_New : (List UInt8) → Option octet_Reader) (octet_Put : Int → Int → Option (List UInt8)) (octet_Reader_Num : octet_Reader → Int → Option (Int × octet_Reader)) (octet_Reader_Num_nil : Int → Option Int) (octet_Unhex : (List UInt8) → Option ((List UInt8) × Bool)) : Option Bool :=
  (octet_Unhex [48, 71]).bind fun u =>
  (octet_Put 258 2).bind fun p =>
  cond (p == [1, 2])
    (
    (octet_Hex [102, 102]).bind fun xh =>
    cond (xh == [54, 54, 54, 54])
      (
      cond (!u.2)
        (
        (octet_New [97]).bind fun n =>
        (octet_Reader_Num n 1).bind fun n1 =>
        some (n1.1 == 97))
        (
        some (false)))
      (
      some (false)))
    (
    some (false))
def rx21 (x : Bool) : SRes := ⟨.bool x, [], []⟩
def r21 (g : Option Bool) : Dec := dEnd (ofG (g) rx21)
theorem r21_c {g : Option Bool} {x : Bool} (hx : g = some x) : r21 g [] [] = some (rx21 x) := ofG_eq hx
def s21 (g : Option Bool) : Summ := ⟨[], r21 g⟩
theorem r21_eq {g : Option Bool} {x : Bool} (hx : g = some x) : (s21 g).run [] [] = some (rx21 x) := r21_c hx
abbrev sums21 (octet_Hex : (List UInt8) → Option (List UInt8)) (octet_New : (List UInt8) → Option octet_Reader) (octet_Put : Int → Int → Option (List UInt8)) (octet_Reader_Num : octet_Reader → Int → Option (Int × octet_Reader)) (octet_Reader_Num_nil : Int → Option Int) (octet_Unhex : (List UInt8) → Option ((List UInt8) × Bool)) : List (Nat × Summ) := [(28, s28 octet_Hex), (30, s30 octet_New), (26, s26 octet_Put), (31, s31 octet_Reader_Num octet_Reader_Num_nil), (24, s24 octet_Unhex)]
theorem leads21 (octet_Hex : (List UInt8) → Option (List UInt8)) (octet_New : (List UInt8) → Option octet_Reader) (octet_Put : Int → Int → Option (List UInt8)) (octet_Reader_Num : octet_Reader → Int → Option (Int × octet_Reader)) (octet_Reader_Num_nil : Int → Option Int) (octet_Unhex : (List UInt8) → Option ((List UInt8) × Bool)) (hS : SumsOK Try.prog (aget (sums21 octet_Hex octet_New octet_Put octet_Reader_Num octet_Reader_Num_nil octet_Unhex))) (res : Bool) (h : law02_awakeF octet_Hex octet_New octet_Put octet_Reader_Num octet_Reader_Num_nil octet_Unhex = some res) :
    Leads Try.prog 21 0 ⟨⟨21, 22, [], [.code k21_5], [], false, none⟩, [], [], 0⟩ (fun v H _ => Res 0 (rx21 res) v H) := by
  unfold law02_awakeF at h
  refine ev_ok tab_ok hS true 3000 ?_
  conv => whnf
  replace h := obind.elim h; obtain ⟨u, hy, h⟩ := h
  refine sumK.q rfl rfl (r24_eq hy) rfl rfl rfl ?_
  conv => whnf
  replace h := obind.elim h; obtain ⟨p, hy, h⟩ := h
  refine sumK.q rfl rfl (r26_eq hy) rfl rfl rfl ?_
  conv => whnf
  refine br.h2 h ?_ ?_ ?_
  · rfl
  · clear h; intro hb h; conv => whnf
    all_goals (cases h; exact Res.z rfl rfl rfl)
  clear h; intro hb h; conv => whnf
  replace h := obind.elim h; obtain ⟨xh, hy, h⟩ := h
  refine sumK.q rfl rfl (r28_eq hy) rfl rfl rfl ?_
  conv => whnf
  refine br.h2 h ?_ ?_ ?_
  · rfl
  · clear h; intro hb h; conv => whnf
    all_goals (cases h; exact Res.z rfl rfl rfl)
  clear h; intro hb h; conv => whnf
  refine br.h2 h ?_ ?_ ?_
  · rfl
  · clear h; intro hb h; conv => whnf
    all_goals (cases h; exact Res.z rfl rfl rfl)
  clear h; intro hb h; conv => whnf
  replace h := obind.elim h; obtain ⟨n, hy, h⟩ := h
  refine sumK.introF [0] (sumRun_of (aqs := [.string ⟨⟨[97]⟩⟩]) (ws := []) (n := 1) (m := 0) (t' := 1) (ra_cons rfl rfl ra_nil) rfl (by rfl) (r30_eq hy) rfl rfl rfl rfl wb_nil (an_cons (rfl) an_nil) rfl) ?_
  conv => whnf
  replace h := obind.elim h; obtain ⟨n1, hy, h⟩ := h
  refine sumK.introF [0] (sumRun_of (aqs := [.pointer (some ⟨0, 0, none⟩), .int .i64 1]) (ws := [.win 0 0 3 true]) (n := 0) (m := 0) (t' := 1) (ra_cons rfl rfl (ra_cons rfl rfl ra_nil)) rfl (by rfl) (r31_eq hy) rfl rfl rfl rfl (wb_win rfl rfl rfl ⟨rfl, Nat.le_of_ble_eq_true rfl⟩ rfl rfl wb_nil) an_nil rfl) ?_
  conv => whnf
  all_goals (cases h; exact Res.z rfl rfl rfl)
theorem ok21 (octet_Hex : (List UInt8) → Option (List UInt8)) (octet_New : (List UInt8) → Option octet_Reader) (octet_Put : Int → Int → Option (List UInt8)) (octet_Reader_Num : octet_Reader → Int → Option (Int × octet_Reader)) (octet_Reader_Num_nil : Int → Option Int) (octet_Unhex : (List UInt8) → Option ((List UInt8) × Bool)) (hS : SumsOK Try.prog (aget (sums21 octet_Hex octet_New octet_Put octet_Reader_Num octet_Reader_Num_nil octet_Unhex))) : SumOK Try.prog 21 (s21 (law02_awakeF octet_Hex octet_New octet_Put octet_Reader_Num octet_Reader_Num_nil octet_Unhex)) := by
  refine SumOK.of_leads tab_ok (fun ar os r ha hr => ?_) ⟨Try.f21, rfl, by decide, rfl⟩
  replace hr : r21 (law02_awakeF octet_Hex octet_New octet_Put octet_Reader_Num octet_Reader_Num_nil octet_Unhex) ar (conts os) = some r := hr
  unfold r21 at hr
  generalize hc : conts os = C at hr
  replace hr := dFin hr; obtain ⟨rfl, rfl, x, h, rfl⟩ := hr
  obtain rfl := kinds_nil hc
  exact ⟨_, rfl, leads21 octet_Hex octet_New octet_Put octet_Reader_Num octet_Reader_Num_nil octet_Unhex hS x h⟩
def law02_awake : Option Bool := law02_awakeF octet_Hex octet_New octet_Put octet_Reader_Num octet_Reader_Num_nil octet_Unhex
theorem lift21 : SumOK Try.prog 21 (s21 law02_awake) := ok21 octet_Hex octet_New octet_Put octet_Reader_Num octet_Reader_Num_nil octet_Unhex (SumsOK.of_tab ⟨lift28, lift30, lift26, lift31, lift24, trivial⟩)
def law02_OctetBackF (law02_awake : Option Bool) (octet_Get : (List UInt8) → Int → Int → Option (Int × Bool)) (octet_Hex : (List UInt8) → Option (List UInt8)) (octet_Put : Int → Int → Option (List UInt8)) (octet_Unhex : (List UInt8) → Option ((List UInt8) × Bool)) (n : Int) (k : Int) (s : List UInt8) : Option Bool :=
  cond (decide ((s.length : Int) > 60))
    (
    (law02_awake).bind fun a =>
    some (a))
    (
    (octet_Put n (wI .i64 (1 + ((wI .i64 k).tmod 8)))).bind fun p =>
    oreq (decide (p.length + s.length < 2 ^ 63)) <|
    (octet_Get (p ++ s) 0 (wI .i64 (1 + ((wI .i64 k).tmod 8)))).bind fun xg =>
    (octet_Hex s).bind fun xh =>
    (octet_Unhex xh).bind fun u =>
    let t := (p.length : Int) == (wI .i64 (1 + ((wI .i64 k).tmod 8)))
    cond (t)
      (
      cond (xg.2)
        (
        let t1 := wI .i64 (8 * (wI .i64 (1 + ((wI .i64 k).tmod 8))))
        oreq (decide (0 ≤ (wI .i64 (t1 - 1)))) <|
        let t2 := wI .u64 (1 * 2 ^ (min (wI .i64 (t1 - 1)).toNat 64))
        let t3 := wI .i64 (8 * (wI .i64 (1 + ((wI .i64 k).tmod 8))))
        oreq (decide (0 ≤ (wI .i64 (t3 - 1)))) <|
        let t4 := wI .u64 (1 * 2 ^ (min (wI .i64 (t3 - 1)).toNat 64))
        let t5 := andI .u64 n (wI .u64 ((wI .u64 (t2 - 1)) + t4))
        cond (xg.1 == t5)
          (
          cond (u.2)
            (
            cond (u.1 == s)
              (
              (octet_Hex s).bind fun xh1 =>
              let t6 := (xh1.length : Int) == (wI .i64 (2 * (s.length : Int)))
              cond (t6)
                (
                (law02_awake).bind fun a1 =>
                some (a1))
                (
                some (false)))
              (
              some (false)))
            (
            some (false)))
          (
          some (false)))
        (
        some (false)))
      (
      some (false)))
def rx6 (x : Bool) : SRes := ⟨.bool x, [], []⟩
abbrev sums6 (law02_awake : Option Bool) (octet_Get : (List UInt8) → Int → Int → Option (Int × Bool)) (octet_Hex : (List UInt8) → Option (List UInt8)) (octet_Put : Int → Int → Option (List UInt8)) (octet_Unhex : (List UInt8) → Option ((List UInt8) × Bool)) : List (Nat × Summ) := [(21, s21 law02_awake), (22, s22 octet_Get), (28, s28 octet_Hex), (26, s26 octet_Put), (24, s24 octet_Unhex)]
theorem leads6 (law02_awake : Option Bool) (octet_Get : (List UInt8) → Int → Int → Option (Int × Bool)) (octet_Hex : (List UInt8) → Option (List UInt8)) (octet_Put : Int → Int → Option (List UInt8)) (octet_Unhex : (List UInt8) → Option ((List UInt8) × Bool)) (hS : SumsOK Try.prog (aget (sums6 law02_awake octet_Get octet_Hex octet_Put octet_Unhex))) (n : Int) (k : Int) (s : List UInt8) (res : Bool) (h : law02_OctetBackF law02_awake octet_Get octet_Hex octet_Put octet_Unhex n k s = some res) :
    Leads Try.prog 6 0 ⟨⟨6, 81, [(0, .int .u64 n), (1, .int .u8 k), (2, .string ⟨⟨s⟩⟩)], [.code k6_17], [], false, none⟩, [], [], 0⟩ (fun v H _ => Res 0 (rx6 res) v H) := by
  unfold law02_OctetBackF at h
  refine ev_ok tab_ok hS true 3000 ?_
  conv => whnf
  refine br.h h ?_ ?_ ?_
  · rfl
  · clear h; intro hb h; conv => whnf
    replace h := obind.elim h; obtain ⟨a, hy, h⟩ := h
    refine sumK.q rfl rfl (r21_eq hy) rfl rfl rfl ?_
    conv => whnf
    all_goals (cases h; exact Res.z rfl rfl rfl)
  clear h; intro hb h; conv => whnf
  replace h := obind.elim h; obtain ⟨p, hy, h⟩ := h
  refine sumK.q rfl rfl (r26_eq hy) rfl rfl rfl ?_
  conv => whnf
  replace h := oreq.elim h; obtain ⟨hb, h⟩ := h
  first | (refine req.intro hb ?_; conv => whnf) | skip
  replace h := obind.elim h; obtain ⟨xg, hy, h⟩ := h
  refine sumK.q rfl rfl (r22_eq hy) rfl rfl rfl ?_
  conv => whnf
  replace h := obind.elim h; obtain ⟨xh, hy, h⟩ := h
  refine sumK.q rfl rfl (r28_eq hy) rfl rfl rfl ?_
  conv => whnf
  replace h := obind.elim h; obtain ⟨u, hy, h⟩ := h
  refine sumK.q rfl rfl (r24_eq hy) rfl rfl rfl ?_
  conv => whnf
  let t : Bool := (p.length : Int) == (wI .i64 (1 + ((wI .i64 k).tmod 8)))
  refine br.h2 h ?_ ?_ ?_
  · rfl
  · clear h; intro hb h; conv => whnf
    all_goals (cases h; exact Res.z rfl rfl rfl)
  clear h; intro hb h; conv => whnf
  refine br.h2 h ?_ ?_ ?_
  · rfl
  · clear h; intro hb h; conv => whnf
    all_goals (cases h; exact Res.z rfl rfl rfl)
  clear h; intro hb h; conv => whnf
  let t1 : Int := wI .i64 (8 * (wI .i64 (1 + ((wI .i64 k).tmod 8))))
  replace h := oreq.elim h; obtain ⟨hb, h⟩ := h
  first | (refine req.intro hb ?_; conv => whnf) | skip
  let t2 : Int := wI .u64 (1 * 2 ^ (min (wI .i64 (t1 - 1)).toNat 64))
  let t3 : Int := wI .i64 (8 * (wI .i64 (1 + ((wI .i64 k).tmod 8))))
  replace h := oreq.elim h; obtain ⟨hb, h⟩ := h
  first | (refine req.intro hb ?_; conv => whnf) | skip
  let t4 : Int := wI .u64 (1 * 2 ^ (min (wI .i64 (t3 - 1)).toNat 64))
  let t5 : Int := andI .u64 n (wI .u64 ((wI .u64 (t2 - 1)) + t4))
  refine br.h2 h ?_ ?_ ?_
  · rfl
  · clear h; intro hb h; conv => whnf
    all_goals (cases h; exact Res.z rfl rfl rfl)
  clear h; intro hb h; conv => whnf
  refine br.h2 h ?_ ?_ ?_
  · rfl
  · clear h; intro hb h; conv => whnf
    all_goals (cases h; exact Res.z rfl rfl rfl)
  clear h; intro hb h; conv => whnf
  refine br.h2 h ?_ ?_ ?_
  · rfl
  · clear h; intro hb h; conv => whnf
    all_goals (cases h; exact Res.z rfl rfl rfl)
  clear h; intro hb h; conv => whnf
  replace h := obind.elim h; obtain ⟨xh1, hy, h⟩ := h
  refine sumK.q rfl rfl (r28_eq hy) rfl rfl rfl ?_
  conv => whnf
  let t6 : Bool := (xh1.length : Int) == (wI .i64 (2 * (s.length : Int)))
  refine br.h2 h ?_ ?_ ?_
  · rfl
  · clear h; intro hb h; conv => whnf
    all_goals (cases h; exact Res.z rfl rfl rfl)
  clear h; intro hb h; conv => whnf
  replace h := obind.elim h; obtain ⟨a1, hy, h⟩ := h
  refine sumK.q rfl rfl (r21_eq hy) rfl rfl rfl ?_
  conv => whnf
  all_goals (cases h; exact Res.z rfl rfl rfl)
def law02_OctetBack : Int → Int → (List UInt8) → Option Bool := law02_OctetBackF law02_awake octet_Get octet_Hex octet_Put octet_Unhex
end Go.Vm.Code
namespace Go.Vm.Code
open Go Go.Vm
theorem awake02b : law02_awake = some true := by decide +kernel
theorem mask02 {k : Nat} (h1 : 1 ≤ k) (h8 : k ≤ 8) {n : Nat} (hn : n < 2 ^ 64) : andI .u64 (n : Int) (wI .u64 ((wI .u64 ((wI .u64 (1 * 2 ^ (min (wI .i64 ((wI .i64 (8 * (k : Int))) - 1)).toNat 64))) - 1)) + (wI .u64 (1 * 2 ^ (min (wI .i64 ((wI .i64 (8 * (k : Int))) - 1)).toNat 64))))) = ((n % 256 ^ k : Nat) : Int) := by
  have hm : wI .u64 ((wI .u64 ((wI .u64 (1 * 2 ^ (min (wI .i64 ((wI .i64 (8 * (k : Int))) - 1)).toNat 64))) - 1)) + (wI .u64 (1 * 2 ^ (min (wI .i64 ((wI .i64 (8 * (k : Int))) - 1)).toNat 64)))) = 2 ^ (8 * k) - 1 := by
    have : ∀ j : Fin 8, wI .u64 ((wI .u64 ((wI .u64 (1 * 2 ^ (min (wI .i64 ((wI .i64 (8 * ((j.val + 1 : Nat) : Int))) - 1)).toNat 64))) - 1)) + (wI .u64 (1 * 2 ^ (min (wI .i64 ((wI .i64 (8 * ((j.val + 1 : Nat) : Int))) - 1)).toNat 64)))) = 2 ^ (8 * (j.val + 1)) - 1 := by decide +kernel
    have h := this ⟨k - 1, by omega⟩
    simp only [show k - 1 + 1 = k by omega] at h
    exact h
  rw [hm, andU64_mask (8 * k) rfl (by omega) (by omega) (by omega)]
  have e : (2 : Int) ^ (8 * k) = ((256 ^ k : Nat) : Int) := by rw [show (256 : Nat) = 2 ^ 8 from rfl, ← Nat.pow_mul]; push_cast; rfl
  rw [e]; rfl
theorem octetBack (n k : Int) (s : List UInt8) (h0 : 0 ≤ n) (h1 : n < 2 ^ 64) (k0 : 0 ≤ k) (k1 : k < 256) : law02_OctetBack n k s = some true := by
  unfold law02_OctetBack law02_OctetBackF
  rw [awake02b]
  by_cases g : 60 < s.length
  · rw [cond_p (by omega)]; rfl
  obtain ⟨m, rfl⟩ := Int.eq_ofNat_of_zero_le h0
  obtain ⟨j, rfl⟩ := Int.eq_ofNat_of_zero_le k0
  have ek : wI .i64 (1 + ((wI .i64 (j : Int)).tmod 8)) = ((1 + j % 8 : Nat) : Int) := by
    rw [wI64 (n := (j : Int)) (by omega) (by omega), Int.tmod_eq_emod_of_nonneg (by omega), wI64 (by omega) (by omega)]; rfl
  have hz : 1 ≤ 1 + j % 8 ∧ 1 + j % 8 ≤ 8 := by omega
  rw [ek]
  generalize 1 + j % 8 = z at hz
  have ep : putS (m : Int) (z : Int) = be m z := by unfold putS; rw [if_pos (by omega)]; rfl
  rw [cond_n (by omega), octet_Put_eq (by omega), Option.bind_some, ep, oreq_p (by rw [be_len]; omega), octet_Get_eq (by rw [List.length_append, be_len]; omega), Option.bind_some, ohex_eq (by omega), Option.bind_some, ounhex_eq (by rw [hexS_len]; omega), Option.bind_some, unhex_hex]
  have eg : getS (be m z ++ s) 0 (z : Int) = (((m % 256 ^ z : Nat) : Int), true) := by
    unfold getS
    rw [if_pos (by rw [List.length_append, be_len]; omega), show (0 : Int).toNat = 0 from rfl, List.drop_zero, Int.toNat_natCast, List.take_append_of_le_length (by rw [be_len]; omega), List.take_of_length_le (by rw [be_len]; omega), val_be]
  rw [eg]
  simp only []
  have hw : 0 ≤ wI .i64 (wI .i64 (8 * (z : Int)) - 1) := by rw [wI64 (n := 8 * (z : Int)) (by omega) (by omega), wI64 (by omega) (by omega)]; omega
  rw [be_len, beq_self_eq_true, cond_true, cond_true, oreq_p hw, mask02 hz.1 hz.2 (by omega), beq_self_eq_true, cond_true]
  simp only [ansU, List.nil_append]
  rw [cond_true, beq_self_eq_true, cond_true, Option.bind_some, hexS_len, wI64 (n := 2 * (s.length : Int)) (by omega) (by omega)]
  rw [show (((2 * s.length : Nat) : Int) == 2 * (s.length : Int)) = true by simp, cond_true, oreq_p hw]; rfl
end Go.Vm.Code
