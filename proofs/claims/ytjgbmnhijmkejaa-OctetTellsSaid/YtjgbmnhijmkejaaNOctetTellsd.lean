import Derived.Test.YtjgbmnhijmkejaaNOctetTellsc
namespace Go.Vm.Code
open Go Go.Vm Go.Proofs
set_option maxRecDepth 100000
set_option maxHeartbeats 4000000
set_option linter.unusedVariables false
def octet_Unhex_s1 (strings_IndexRune : (List UInt8) → Int → Option Int) (s : List UInt8) (xat : Int) (b : List Int) (c : Nat) : Option (Sum (Int × (List Int) × Nat) ((List UInt8) × Bool)) :=
  cond (decide (c < s.length))
    (
    (strings_IndexRune [48, 49, 50, 51, 52, 53, 54, 55, 56, 57, 97, 98, 99, 100, 101, 102] ((Utf8.decode ⟨⟨s⟩⟩ c).1 : Int)).bind fun i =>
    cond (decide (i < 0))
      (
      some (.inr (([], false))))
      (
      oreq (decide ((0 : Int) ≤ (wI .i64 (xat.tdiv 2)) ∧ (wI .i64 (xat.tdiv 2)) < ((wI .i64 ((s.length : Int).tdiv 2)).toNat : Int))) <|
      (b[(wI .i64 (xat.tdiv 2)).toNat]?).bind fun (e : Int) =>
      oreq (decide ((0 : Int) ≤ (wI .i64 (xat.tdiv 2)) ∧ (wI .i64 (xat.tdiv 2)) < ((wI .i64 ((s.length : Int).tdiv 2)).toNat : Int))) <|
      oreq (decide ((wI .i64 (xat.tdiv 2)).toNat < b.length)) <|
      let row := b.set (wI .i64 (xat.tdiv 2)).toNat (iorI .u8 (wI .u8 (e * 2 ^ 4)) (wI .u8 i))
      some (.inl (wI .i64 (xat + 1), row, c + (Utf8.decode ⟨⟨s⟩⟩ c).2))))
    (
    oreq (decide ((wI .i64 ((s.length : Int).tdiv 2)).toNat ≤ b.length)) <|
    let t := iB (b.take (wI .i64 ((s.length : Int).tdiv 2)).toNat)
    some (.inr ((t, true))))
def octet_UnhexF (strings_IndexRune : (List UInt8) → Int → Option Int) (s : List UInt8) : Option ((List UInt8) × Bool) :=
  cond (decide (((s.length : Int).tmod 2) > 0))
    (
    some (([], false)))
    (
    oreq (decide (0 ≤ (wI .i64 ((s.length : Int).tdiv 2)) ∧ (wI .i64 ((s.length : Int).tdiv 2)) ≤ (wI .i64 ((s.length : Int).tdiv 2)) ∧ (wI .i64 ((s.length : Int).tdiv 2)) < 2 ^ 63 ∧ (1 : Int) * (wI .i64 ((s.length : Int).tdiv 2)) ≤ 2 ^ 48)) <|
    iter (fun st => octet_Unhex_s1 strings_IndexRune s st.1 st.2.1 st.2.2) FUEL (0, List.replicate (wI .i64 ((s.length : Int).tdiv 2)).toNat (0), 0))
def rx24 (x : (List UInt8) × Bool) : SRes := ⟨.tuple ⟨[.string ⟨⟨x.1⟩⟩, .bool x.2]⟩, [], []⟩
def r24 (g : (List UInt8) → Option ((List UInt8) × Bool)) : Dec := dV asS fun (y0 : List UInt8) => dEnd (ofG (g y0) rx24)
theorem r24_c {g : (List UInt8) → Option ((List UInt8) × Bool)} {y0 : List UInt8} {x : (List UInt8) × Bool} (hx : g y0 = some x) : r24 g [.string ⟨⟨y0⟩⟩] [] = some (rx24 x) := (dV_eq (asS_c)).trans (ofG_eq hx)
def s24 (g : (List UInt8) → Option ((List UInt8) × Bool)) : Summ := ⟨[.v], r24 g⟩
theorem r24_eq {g : (List UInt8) → Option ((List UInt8) × Bool)} {y0 : List UInt8} {x : (List UInt8) × Bool} (hx : g y0 = some x) : (s24 g).run [.string ⟨⟨y0⟩⟩] [] = some (rx24 x) := r24_c hx
abbrev sums24 (strings_IndexRune : (List UInt8) → Int → Option Int) : List (Nat × Summ) := [(48, s48 strings_IndexRune)]
def head24_1 (s : List UInt8) (xat : Int) (b : List Int) (c : Nat) : VM :=
  ⟨⟨24, 43, [(4, .slice (some ⟨0, 0, none⟩) (wI .i64 ((s.length : Int).tdiv 2)).toNat 1), (5, .int .i64 xat), (18, .pointer (some ⟨1, 0, none⟩))], [.code k24_26, .inLoop k24_26, .inBlock 0, .code k24_31], [], false, none⟩, [], [(0, .row true (vI .u8 b)), (1, .siter ⟨⟨s⟩⟩ c)], 2⟩
theorem loop24_1 (strings_IndexRune : (List UInt8) → Int → Option Int) (hS : SumsOK Try.prog (aget (sums24 strings_IndexRune))) (s : List UInt8) (res : (List UInt8) × Bool) : ∀ fuel (st : Int × (List Int) × Nat) (o : (List UInt8) × Bool), iter (fun st => octet_Unhex_s1 strings_IndexRune s st.1 st.2.1 st.2.2) fuel st = some o → (o = res) →
    Leads Try.prog 24 0 (head24_1 s st.1 st.2.1 st.2.2) (fun v H _ => Res 0 (rx24 res) v H) := by
  intro fuel st o h hc
  refine iter_leads (head := fun st => head24_1 s st.1 st.2.1 st.2.2) (C := fun o => (o = res)) ?_ fuel st o h hc
  clear h hc o st fuel
  intro st o h hc
  obtain ⟨xat, b, c⟩ := st
  replace h : octet_Unhex_s1 strings_IndexRune s xat b c = some o := h
  show Leads Try.prog 24 0 (head24_1 s xat b c) (fun v H _ => Res 0 (rx24 res) v H)
  unfold octet_Unhex_s1 at h
  refine ev_ok tab_ok hS true 3000 ?_
  conv => whnf
  refine br.h2 h ?_ ?_ ?_
  · rfl
  · clear h; intro hb h; conv => whnf
    replace h := oreq.elim h; obtain ⟨hb, h⟩ := h
    refine req.intro (by (first | rfl | (simp [wI, vI, vB, vS, bI, oneC, addrBlk, cellsL, Value.cells] at *; omega) | (simp [vI, vB, vS, bI, oneC, addrBlk, cellsL, Value.cells] at *; omega) | (simp [vI, vB, vS, bI, oneC, addrBlk, cellsL, Value.cells] at *; done))) ?_
    conv => whnf
    refine pk_b2s ?_
    conv => whnf
    let t : List UInt8 := iB (b.take (wI .i64 ((s.length : Int).tdiv 2)).toNat)
    all_goals (cases h; cases hc; exact Res.z rfl rfl rfl)
  clear h; intro hb h; conv => whnf
  replace h := obind.elim h; obtain ⟨i, hy, h⟩ := h
  refine sumK.q rfl rfl (r48_eq hy) rfl rfl rfl ?_
  conv => whnf
  refine br.h h ?_ ?_ ?_
  · rfl
  · clear h; intro hb h; conv => whnf
    all_goals (cases h; cases hc; exact Res.z rfl rfl rfl)
  clear h; intro hb h; conv => whnf
  replace h := oreq.elim h; obtain ⟨hb, h⟩ := h
  first | (refine req.intro hb ?_; conv => whnf) | skip
  replace h := obind.elim h; obtain ⟨e, hy, h⟩ := h
  refine rd.I hy (by first | rfl | (rw [Nat.zero_add, Nat.mul_one]; try rfl; done) | omega) ?_
  conv => whnf
  replace h := oreq.elim h; obtain ⟨hb, h⟩ := h
  first | (refine req.intro hb ?_; conv => whnf) | skip
  replace h := oreq.elim h; obtain ⟨hb, h⟩ := h
  refine st_I hb (by first | rfl | (rw [Nat.zero_add, Nat.mul_one]; try rfl; done) | omega) ?_
  conv => whnf
  let row : List Int := b.set (wI .i64 (xat.tdiv 2)).toNat (iorI .u8 (wI .u8 (e * 2 ^ 4)) (wI .u8 i))
  cases h; simp only [Sum.elim_inl, head24_1] at hc
  exact lrA0 hc [(0, 0), (1, 1)] rfl
theorem leads24 (strings_IndexRune : (List UInt8) → Int → Option Int) (hS : SumsOK Try.prog (aget (sums24 strings_IndexRune))) (s : List UInt8) (res : (List UInt8) × Bool) (h : octet_UnhexF strings_IndexRune s = some res) :
    Leads Try.prog 24 0 ⟨⟨24, 43, [(0, .string ⟨⟨s⟩⟩)], [.code k24_36], [], false, none⟩, [], [], 0⟩ (fun v H _ => Res 0 (rx24 res) v H) := by
  unfold octet_UnhexF at h
  refine ev_ok tab_ok hS true 3000 ?_
  conv => whnf
  refine br.h h ?_ ?_ ?_
  · rfl
  · clear h; intro hb h; conv => whnf
    all_goals (cases h; exact Res.z rfl rfl rfl)
  clear h; intro hb h; conv => whnf
  replace h := oreq.elim h; obtain ⟨hb, h⟩ := h
  first | (refine req.intro hb ?_; conv => whnf) | skip
  refine pk_mkI ?_
  conv => whnf
  have hl := loop24_1 strings_IndexRune hS _ res _ _ _ h rfl; simp only [head24_1] at hl
  exact lrA0 hl [(0, 0), (1, 1)] rfl
theorem ok24 (strings_IndexRune : (List UInt8) → Int → Option Int) (hS : SumsOK Try.prog (aget (sums24 strings_IndexRune))) : SumOK Try.prog 24 (s24 (octet_UnhexF strings_IndexRune)) := by
  refine SumOK.of_leads tab_ok (fun ar os r ha hr => ?_) ⟨Try.f24, rfl, by decide, rfl⟩
  replace hr : r24 (octet_UnhexF strings_IndexRune) ar (conts os) = some r := hr
  unfold r24 at hr
  generalize hc : conts os = C at hr
  replace hr := dV.elim hr; obtain ⟨v0, l1, y0, rfl, e0, hr⟩ := hr; obtain rfl := asS_eq _ _ e0
  replace hr := dFin hr; obtain ⟨rfl, rfl, x, h, rfl⟩ := hr
  obtain rfl := kinds_nil hc
  exact ⟨_, rfl, leads24 strings_IndexRune hS _ x h⟩
def octet_Unhex : (List UInt8) → Option ((List UInt8) × Bool) := octet_UnhexF strings_IndexRune
theorem lift24 : SumOK Try.prog 24 (s24 octet_Unhex) := ok24 strings_IndexRune (SumsOK.of_tab ⟨lift48, trivial⟩)
def R02_digitF (n : Int) : Option Int :=
  cond (decide (n < 10))
    (
    some (wI .u8 (wI .i64 (48 + n))))
    (
    let t := wI .u8 (wI .i64 ((wI .i64 (97 + n)) - 10))
    some (t))
def rx52 (x : Int) : SRes := ⟨.int .u8 x, [], []⟩
def r52 (g : Int → Option Int) : Dec := dV (asI .i64) fun (y0 : Int) => dEnd (ofG (g y0) rx52)
theorem r52_c {g : Int → Option Int} {y0 : Int} {x : Int} (hx : g y0 = some x) : r52 g [.int .i64 y0] [] = some (rx52 x) := (dV_eq (asI_c _)).trans (ofG_eq hx)
def s52 (g : Int → Option Int) : Summ := ⟨[.v], r52 g⟩
theorem r52_eq {g : Int → Option Int} {y0 : Int} {x : Int} (hx : g y0 = some x) : (s52 g).run [.int .i64 y0] [] = some (rx52 x) := r52_c hx
abbrev sums52 : List (Nat × Summ) := []
theorem leads52 (hS : SumsOK Try.prog (aget (sums52))) (n : Int) (res : Int) (h : R02_digitF n = some res) :
    Leads Try.prog 52 0 ⟨⟨52, 12, [(0, .int .i64 n)], [.code k52_9], [], false, none⟩, [], [], 0⟩ (fun v H _ => Res 0 (rx52 res) v H) := by
  unfold R02_digitF at h
  refine ev_ok tab_ok hS true 3000 ?_
  conv => whnf
  refine br.h h ?_ ?_ ?_
  · rfl
  · clear h; intro hb h; conv => whnf
    all_goals (cases h; exact Res.z rfl rfl rfl)
  clear h; intro hb h; conv => whnf
  let t : Int := wI .u8 (wI .i64 ((wI .i64 (97 + n)) - 10))
  all_goals (cases h; exact Res.z rfl rfl rfl)
theorem ok52 (hS : SumsOK Try.prog (aget (sums52))) : SumOK Try.prog 52 (s52 (R02_digitF)) := by
  refine SumOK.of_leads tab_ok (fun ar os r ha hr => ?_) ⟨Try.f52, rfl, by decide, rfl⟩
  replace hr : r52 (R02_digitF) ar (conts os) = some r := hr
  unfold r52 at hr
  generalize hc : conts os = C at hr
  replace hr := dV.elim hr; obtain ⟨v0, l1, y0, rfl, e0, hr⟩ := hr; obtain rfl := asI_eq _ _ _ e0
  replace hr := dFin hr; obtain ⟨rfl, rfl, x, h, rfl⟩ := hr
  obtain rfl := kinds_nil hc
  exact ⟨_, rfl, leads52 hS _ x h⟩
def R02_digit : Int → Option Int := R02_digitF
theorem lift52 : SumOK Try.prog 52 (s52 R02_digit) := ok52 (SumsOK.of_tab trivial)
def R02_Hex_s1 (R02_digit : Int → Option Int) (s : List UInt8) (i : Int) (b1 : List Int) : Option (Sum (Int × (List Int)) (List UInt8)) :=
  cond (decide (i < (s.length : Int)))
    (
    oreq (decide (0 ≤ i)) <|
    (s[i.toNat]?).bind fun (b2 : UInt8) =>
    let t := wI .i64 ((wI .i64 (b2.toNat : Int)).tdiv 16)
    (R02_digit t).bind fun d =>
    oreq (decide (0 ≤ i)) <|
    (s[i.toNat]?).bind fun (b3 : UInt8) =>
    (R02_digit ((wI .i64 (b3.toNat : Int)).tmod 16)).bind fun d1 =>
    oreq (decide ((b1.length + 2) * 1 ≤ 2 ^ 47)) <|
    let row := b1 ++ [d, d1]
    some (.inl (wI .i64 (i + 1), row)))
    (
    some (.inr (iB b1)))
def R02_HexF (R02_digit : Int → Option Int) (s : List UInt8) : Option (List UInt8) :=
  iter (fun st => R02_Hex_s1 R02_digit s st.1 st.2) FUEL (0, [])
def rx29 (x : List UInt8) : SRes := ⟨.string ⟨⟨x⟩⟩, [], []⟩
def r29 (g : (List UInt8) → Option (List UInt8)) : Dec := dV asS fun (y0 : List UInt8) => dEnd (ofG (g y0) rx29)
theorem r29_c {g : (List UInt8) → Option (List UInt8)} {y0 : List UInt8} {x : List UInt8} (hx : g y0 = some x) : r29 g [.string ⟨⟨y0⟩⟩] [] = some (rx29 x) := (dV_eq (asS_c)).trans (ofG_eq hx)
def s29 (g : (List UInt8) → Option (List UInt8)) : Summ := ⟨[.v], r29 g⟩
theorem r29_eq {g : (List UInt8) → Option (List UInt8)} {y0 : List UInt8} {x : List UInt8} (hx : g y0 = some x) : (s29 g).run [.string ⟨⟨y0⟩⟩] [] = some (rx29 x) := r29_c hx
abbrev sums29 (R02_digit : Int → Option Int) : List (Nat × Summ) := [(52, s52 R02_digit)]
def head29_1 (s : List UInt8) (i : Int) (b1 : List Int) : VM :=
  ⟨⟨29, 28, [(0, .string ⟨⟨s⟩⟩), (3, .slice (some ⟨0, 0, none⟩) b1.length 1), (4, .int .i64 i)], [.code k29_10, .inLoop k29_10, .inBlock 0, .code k29_15], [], false, none⟩, [], [(0, .row true (vI .u8 b1))], 1⟩
theorem loop29_1 (R02_digit : Int → Option Int) (hS : SumsOK Try.prog (aget (sums29 R02_digit))) (s : List UInt8) (res : List UInt8) : ∀ fuel (st : Int × (List Int)) (o : List UInt8), iter (fun st => R02_Hex_s1 R02_digit s st.1 st.2) fuel st = some o → (o = res) →
    Leads Try.prog 29 0 (head29_1 s st.1 st.2) (fun v H _ => Res 0 (rx29 res) v H) := by
  intro fuel st o h hc
  refine iter_leads (head := fun st => head29_1 s st.1 st.2) (C := fun o => (o = res)) ?_ fuel st o h hc
  clear h hc o st fuel
  intro st o h hc
  obtain ⟨i, b1⟩ := st
  replace h : R02_Hex_s1 R02_digit s i b1 = some o := h
  show Leads Try.prog 29 0 (head29_1 s i b1) (fun v H _ => Res 0 (rx29 res) v H)
  unfold R02_Hex_s1 at h
  refine ev_ok tab_ok hS true 3000 ?_
  conv => whnf
  refine br.h2 h ?_ ?_ ?_
  · rfl
  · clear h; intro hb h; conv => whnf
    refine req.intro (by simp) ?_
    conv => whnf
    refine pk_b2sA (by first | rfl | omega) (by simp) ?_
    conv => whnf
    all_goals (cases h; cases hc; exact Res.z rfl rfl rfl)
  clear h; intro hb h; conv => whnf
  replace h := oreq.elim h; obtain ⟨hb, h⟩ := h
  first | (refine req.intro hb ?_; conv => whnf) | skip
  replace h := obind.elim h; obtain ⟨b2, hy, h⟩ := h
  refine rdS.intro hy ?_
  conv => whnf
  let t : Int := wI .i64 ((wI .i64 (b2.toNat : Int)).tdiv 16)
  replace h := obind.elim h; obtain ⟨d, hy, h⟩ := h
  refine sumK.q rfl rfl (r52_eq hy) rfl rfl rfl ?_
  conv => whnf
  replace h := oreq.elim h; obtain ⟨hb, h⟩ := h
  first | (refine req.intro hb ?_; conv => whnf) | skip
  replace h := obind.elim h; obtain ⟨b3, hy, h⟩ := h
  refine rdS.intro hy ?_
  conv => whnf
  replace h := obind.elim h; obtain ⟨d1, hy, h⟩ := h
  refine sumK.q rfl rfl (r52_eq hy) rfl rfl rfl ?_
  conv => whnf
  replace h := oreq.elim h; obtain ⟨hb, h⟩ := h
  refine req.intro (ap_req (of_decide_eq_true hb) (by first | rfl | omega | (simp; done) | (simp; omega) | (simp at *; omega)) rfl (by first | rfl | omega | (simp; done) | (simp; omega) | (simp at *; omega)) (by first | rfl | exact vI_one _ _ | exact vS_one _ | exact vB_one _ | exact vT_one (by first | exact coctet_Reader_one | exact cR02_Step_one | exact cR02_Reader_one) _ | (rw [ofBytes_vI]; exact vI_one _ _) | (simp [vI_one, vS_one, vB_one, vI_drop, vI_take, vS_drop, vS_take]; done) | (simp; exact List.all_eq_true.1 (vT_one (by first | exact coctet_Reader_one | exact cR02_Step_one | exact cR02_Reader_one) _))) rfl) ?_
  conv => whnf
  let row : List Int := b1 ++ [d, d1]
  first | have hlen_row : row.length = _ := List.length_append .. | skip
  refine pk_apI (xs := b1) (ys := [d, d1]) rfl (by first | rfl | omega) (by first | rfl | omega | (simp; done) | (simp; omega) | (simp at *; omega)) (by first | rfl | omega | (simp; done) | (simp; omega) | (simp at *; omega)) ?_
  conv => whnf
  cases h; simp only [Sum.elim_inl, head29_1] at hc
  exact lrA0 hc [(0, 16)] rfl
theorem leads29 (R02_digit : Int → Option Int) (hS : SumsOK Try.prog (aget (sums29 R02_digit))) (s : List UInt8) (res : List UInt8) (h : R02_HexF R02_digit s = some res) :
    Leads Try.prog 29 0 ⟨⟨29, 28, [(0, .string ⟨⟨s⟩⟩)], [.code k29_18], [], false, none⟩, [], [], 0⟩ (fun v H _ => Res 0 (rx29 res) v H) := by
  unfold R02_HexF at h
  refine ev_ok tab_ok hS true 3000 ?_
  conv => whnf
  have hl := loop29_1 R02_digit hS _ res _ _ _ h rfl; simp only [head29_1] at hl
  refine Leads.nilT 3 1 ?_
  exact lrA0 hl [(0, 0)] rfl
theorem ok29 (R02_digit : Int → Option Int) (hS : SumsOK Try.prog (aget (sums29 R02_digit))) : SumOK Try.prog 29 (s29 (R02_HexF R02_digit)) := by
  refine SumOK.of_leads tab_ok (fun ar os r ha hr => ?_) ⟨Try.f29, rfl, by decide, rfl⟩
  replace hr : r29 (R02_HexF R02_digit) ar (conts os) = some r := hr
  unfold r29 at hr
  generalize hc : conts os = C at hr
  replace hr := dV.elim hr; obtain ⟨v0, l1, y0, rfl, e0, hr⟩ := hr; obtain rfl := asS_eq _ _ e0
  replace hr := dFin hr; obtain ⟨rfl, rfl, x, h, rfl⟩ := hr
  obtain rfl := kinds_nil hc
  exact ⟨_, rfl, leads29 R02_digit hS _ x h⟩
def R02_Hex : (List UInt8) → Option (List UInt8) := R02_HexF R02_digit
theorem lift29 : SumOK Try.prog 29 (s29 R02_Hex) := ok29 R02_digit (SumsOK.of_tab ⟨lift52, trivial⟩)
def R02_value_s1 (R02_digit : Int → Option Int) (c : Int) (n : Int) : Option (Sum Int Int) :=
  cond (decide (n < 16))
    (
    (R02_digit n).bind fun d =>
    cond (d == c)
      (
      some (.inr (n)))
      (
      some (.inl (wI .i64 (n + 1)))))
    (
    some (.inr ((-1))))
def R02_valueF (R02_digit : Int → Option Int) (c : Int) : Option Int :=
  iter (fun st => R02_value_s1 R02_digit c st) FUEL 0
def rx49 (x : Int) : SRes := ⟨.int .i64 x, [], []⟩
def r49 (g : Int → Option Int) : Dec := dV (asI .u8) fun (y0 : Int) => dEnd (ofG (g y0) rx49)
theorem r49_c {g : Int → Option Int} {y0 : Int} {x : Int} (hx : g y0 = some x) : r49 g [.int .u8 y0] [] = some (rx49 x) := (dV_eq (asI_c _)).trans (ofG_eq hx)
def s49 (g : Int → Option Int) : Summ := ⟨[.v], r49 g⟩
theorem r49_eq {g : Int → Option Int} {y0 : Int} {x : Int} (hx : g y0 = some x) : (s49 g).run [.int .u8 y0] [] = some (rx49 x) := r49_c hx
abbrev sums49 (R02_digit : Int → Option Int) : List (Nat × Summ) := [(52, s52 R02_digit)]
def head49_1 (c : Int) (n : Int) : VM :=
  ⟨⟨49, 13, [(0, .int .u8 c), (3, .int .i64 n)], [.code k49_13, .inLoop k49_13, .inBlock 0, .code k49_18], [], false, none⟩, [], [], 0⟩
theorem loop49_1 (R02_digit : Int → Option Int) (hS : SumsOK Try.prog (aget (sums49 R02_digit))) (c : Int) (res : Int) : ∀ fuel (st : Int) (o : Int), iter (fun st => R02_value_s1 R02_digit c st) fuel st = some o → (o = res) →
    Leads Try.prog 49 0 (head49_1 c st) (fun v H _ => Res 0 (rx49 res) v H) := by
  intro fuel st o h hc
  refine iter_leads (head := fun st => head49_1 c st) (C := fun o => (o = res)) ?_ fuel st o h hc
  clear h hc o st fuel
  intro n o h hc
  replace h : R02_value_s1 R02_digit c n = some o := h
  show Leads Try.prog 49 0 (head49_1 c n) (fun v H _ => Res 0 (rx49 res) v H)
  unfold R02_value_s1 at h
  refine ev_ok tab_ok hS true 3000 ?_
  conv => whnf
  refine br.h2 h ?_ ?_ ?_
  · rfl
  · clear h; intro hb h; conv => whnf
    all_goals (cases h; cases hc; exact Res.z rfl rfl rfl)
  clear h; intro hb h; conv => whnf
  replace h := obind.elim h; obtain ⟨d, hy, h⟩ := h
  refine sumK.q rfl rfl (r52_eq hy) rfl rfl rfl ?_
  conv => whnf
  refine br.h h ?_ ?_ ?_
  · rfl
  · clear h; intro hb h; conv => whnf
    all_goals (cases h; cases hc; exact Res.z rfl rfl rfl)
  clear h; intro hb h; conv => whnf
  cases h; simp only [Sum.elim_inl, head49_1] at hc
  exact lrA0 hc [] rfl
theorem leads49 (R02_digit : Int → Option Int) (hS : SumsOK Try.prog (aget (sums49 R02_digit))) (c : Int) (res : Int) (h : R02_valueF R02_digit c = some res) :
    Leads Try.prog 49 0 ⟨⟨49, 13, [(0, .int .u8 c)], [.code k49_20], [], false, none⟩, [], [], 0⟩ (fun v H _ => Res 0 (rx49 res) v H) := by
  unfold R02_valueF at h
  refine ev_ok tab_ok hS true 3000 ?_
  conv => whnf
  have hl := loop49_1 R02_digit hS _ res _ _ _ h rfl; simp only [head49_1] at hl
  exact lrA0 hl [] rfl
theorem ok49 (R02_digit : Int → Option Int) (hS : SumsOK Try.prog (aget (sums49 R02_digit))) : SumOK Try.prog 49 (s49 (R02_valueF R02_digit)) := by
  refine SumOK.of_leads tab_ok (fun ar os r ha hr => ?_) ⟨Try.f49, rfl, by decide, rfl⟩
  replace hr : r49 (R02_valueF R02_digit) ar (conts os) = some r := hr
  unfold r49 at hr
  generalize hc : conts os = C at hr
  replace hr := dV.elim hr; obtain ⟨v0, l1, y0, rfl, e0, hr⟩ := hr; obtain rfl := asI_eq _ _ _ e0
  replace hr := dFin hr; obtain ⟨rfl, rfl, x, h, rfl⟩ := hr
  obtain rfl := kinds_nil hc
  exact ⟨_, rfl, leads49 R02_digit hS _ x h⟩
def R02_value : Int → Option Int := R02_valueF R02_digit
theorem lift49 : SumOK Try.prog 49 (s49 R02_value) := ok49 R02_digit (SumsOK.of_tab ⟨lift52, trivial⟩)
def R02_Unhex_s1 (R02_value : Int → Option Int) (s : List UInt8) (i : Int) (b1 : List Int) : Option (Sum (Int × (List Int)) ((List UInt8) × Bool)) :=
  let t := decide ((wI .i64 (i + 1)) < (s.length : Int))
  cond (t)
    (
    oreq (decide (0 ≤ i)) <|
    (s[i.toNat]?).bind fun (b2 : UInt8) =>
    (R02_value (b2.toNat : Int)).bind fun xv =>
    oreq (decide (0 ≤ (wI .i64 (i + 1)))) <|
    (s[(wI .i64 (i + 1)).toNat]?).bind fun (b3 : UInt8) =>
    (R02_value (b3.toNat : Int)).bind fun xv1 =>
    cond (decide (xv < 0))
      (
      some (.inr (([], false))))
      (
      cond (decide (xv1 < 0))
        (
        some (.inr (([], false))))
        (
        let t1 := wI .u8 (wI .i64 ((wI .i64 (16 * xv)) + xv1))
        oreq (decide ((b1.length + 1) * 1 ≤ 2 ^ 47)) <|
        let row := b1 ++ [t1]
        some (.inl (wI .i64 (i + 2), row)))))
    (
    cond (((s.length : Int).tmod 2) == 1)
      (
      some (.inr (([], false))))
      (
      some (.inr ((iB b1, true)))))
def R02_UnhexF (R02_value : Int → Option Int) (s : List UInt8) : Option ((List UInt8) × Bool) :=
  iter (fun st => R02_Unhex_s1 R02_value s st.1 st.2) FUEL (0, [])
def rx25 (x : (List UInt8) × Bool) : SRes := ⟨.tuple ⟨[.string ⟨⟨x.1⟩⟩, .bool x.2]⟩, [], []⟩
def r25 (g : (List UInt8) → Option ((List UInt8) × Bool)) : Dec := dV asS fun (y0 : List UInt8) => dEnd (ofG (g y0) rx25)
theorem r25_c {g : (List UInt8) → Option ((List UInt8) × Bool)} {y0 : List UInt8} {x : (List UInt8) × Bool} (hx : g y0 = some x) : r25 g [.string ⟨⟨y0⟩⟩] [] = some (rx25 x) := (dV_eq (asS_c)).trans (ofG_eq hx)
def s25 (g : (List UInt8) → Option ((List UInt8) × Bool)) : Summ := ⟨[.v], r25 g⟩
theorem r25_eq {g : (List UInt8) → Option ((List UInt8) × Bool)} {y0 : List UInt8} {x : (List UInt8) × Bool} (hx : g y0 = some x) : (s25 g).run [.string ⟨⟨y0⟩⟩] [] = some (rx25 x) := r25_c hx
abbrev sums25 (R02_value : Int → Option Int) : List (Nat × Summ) := [(49, s49 R02_value)]
def head25_1 (s : List UInt8) (i : Int) (b1 : List Int) : VM :=
  ⟨⟨25, 44, [(0, .string ⟨⟨s⟩⟩), (4, .slice (some ⟨0, 0, none⟩) b1.length 1), (5, .int .i64 i)], [.code k25_18, .inLoop k25_18, .inBlock 0, .code k25_29], [], false, none⟩, [], [(0, .row true (vI .u8 b1))], 1⟩
theorem loop25_1 (R02_value : Int → Option Int) (hS : SumsOK Try.prog (aget (sums25 R02_value))) (s : List UInt8) (res : (List UInt8) × Bool) : ∀ fuel (st : Int × (List Int)) (o : (List UInt8) × Bool), iter (fun st => R02_Unhex_s1 R02_value s st.1 st.2) fuel st = some o → (o = res) →
    Leads Try.prog 25 0 (head25_1 s st.1 st.2) (fun v H _ => Res 0 (rx25 res) v H) := by
  intro fuel st o h hc
  refine iter_leads (head := fun st => head25_1 s st.1 st.2) (C := fun o => (o = res)) ?_ fuel st o h hc
  clear h hc o st fuel
  intro st o h hc
  obtain ⟨i, b1⟩ := st
  replace h : R02_Unhex_s1 R02_value s i b1 = some o := h
  show Leads Try.prog 25 0 (head25_1 s i b1) (fun v H _ => Res 0 (rx25 res) v H)
  unfold R02_Unhex_s1 at h
  refine ev_ok tab_ok hS true 3000 ?_
  conv => whnf
  let t : Bool := decide ((wI .i64 (i + 1)) < (s.length : Int))
  refine br.h2 h ?_ ?_ ?_
  · rfl
  · clear h; intro hb h; conv => whnf
    refine br.h h ?_ ?_ ?_
    · rfl
    · clear h; intro hb h; conv => whnf
      all_goals (cases h; cases hc; exact Res.z rfl rfl rfl)
    clear h; intro hb h; conv => whnf
    refine req.intro (by simp) ?_
    conv => whnf
    refine pk_b2sA (by first | rfl | omega) (by simp) ?_
    conv => whnf
    all_goals (cases h; cases hc; exact Res.z rfl rfl rfl)
  clear h; intro hb h; conv => whnf
  replace h := oreq.elim h; obtain ⟨hb, h⟩ := h
  first | (refine req.intro hb ?_; conv => whnf) | skip
  replace h := obind.elim h; obtain ⟨b2, hy, h⟩ := h
  refine rdS.intro hy ?_
  conv => whnf
  replace h := obind.elim h; obtain ⟨xv, hy, h⟩ := h
  refine sumK.q rfl rfl (r49_eq hy) rfl rfl rfl ?_
  conv => whnf
  replace h := oreq.elim h; obtain ⟨hb, h⟩ := h
  first | (refine req.intro hb ?_; conv => whnf) | skip
  replace h := obind.elim h; obtain ⟨b3, hy, h⟩ := h
  refine rdS.intro hy ?_
  conv => whnf
  replace h := obind.elim h; obtain ⟨xv1, hy, h⟩ := h
  refine sumK.q rfl rfl (r49_eq hy) rfl rfl rfl ?_
  conv => whnf
  refine br.h h ?_ ?_ ?_
  · rfl
  · clear h; intro hb h; conv => whnf
    all_goals (cases h; cases hc; exact Res.z rfl rfl rfl)
  clear h; intro hb h; conv => whnf
  refine br.h h ?_ ?_ ?_
  · rfl
  · clear h; intro hb h; conv => whnf
    all_goals (cases h; cases hc; exact Res.z rfl rfl rfl)
  clear h; intro hb h; conv => whnf
  let t1 : Int := wI .u8 (wI .i64 ((wI .i64 (16 * xv)) + xv1))
  replace h := oreq.elim h; obtain ⟨hb, h⟩ := h
  refine req.intro (ap_req (of_decide_eq_true hb) (by first | rfl | omega | (simp; done) | (simp; omega) | (simp at *; omega)) rfl (by first | rfl | omega | (simp; done) | (simp; omega) | (simp at *; omega)) (by first | rfl | exact vI_one _ _ | exact vS_one _ | exact vB_one _ | exact vT_one (by first | exact coctet_Reader_one | exact cR02_Step_one | exact cR02_Reader_one) _ | (rw [ofBytes_vI]; exact vI_one _ _) | (simp [vI_one, vS_one, vB_one, vI_drop, vI_take, vS_drop, vS_take]; done) | (simp; exact List.all_eq_true.1 (vT_one (by first | exact coctet_Reader_one | exact cR02_Step_one | exact cR02_Reader_one) _))) rfl) ?_
  conv => whnf
  let row : List Int := b1 ++ [t1]
  first | have hlen_row : row.length = _ := List.length_append .. | skip
  refine pk_apI (xs := b1) (ys := [t1]) rfl (by first | rfl | omega) (by first | rfl | omega | (simp; done) | (simp; omega) | (simp at *; omega)) (by first | rfl | omega | (simp; done) | (simp; omega) | (simp at *; omega)) ?_
  conv => whnf
  cases h; simp only [Sum.elim_inl, head25_1] at hc
  exact lrA0 hc [(0, 10)] rfl
theorem leads25 (R02_value : Int → Option Int) (hS : SumsOK Try.prog (aget (sums25 R02_value))) (s : List UInt8) (res : (List UInt8) × Bool) (h : R02_UnhexF R02_value s = some res) :
    Leads Try.prog 25 0 ⟨⟨25, 44, [(0, .string ⟨⟨s⟩⟩)], [.code k25_32], [], false, none⟩, [], [], 0⟩ (fun v H _ => Res 0 (rx25 res) v H) := by
  unfold R02_UnhexF at h
  refine ev_ok tab_ok hS true 3000 ?_
  conv => whnf
  have hl := loop25_1 R02_value hS _ res _ _ _ h rfl; simp only [head25_1] at hl
  refine Leads.nilT 4 1 ?_
  exact lrA0 hl [(0, 0)] rfl
theorem ok25 (R02_value : Int → Option Int) (hS : SumsOK Try.prog (aget (sums25 R02_value))) : SumOK Try.prog 25 (s25 (R02_UnhexF R02_value)) := by
  refine SumOK.of_leads tab_ok (fun ar os r ha hr => ?_) ⟨Try.f25, rfl, by decide, rfl⟩
  replace hr : r25 (R02_UnhexF R02_value) ar (conts os) = some r := hr
  unfold r25 at hr
  generalize hc : conts os = C at hr
  replace hr := dV.elim hr; obtain ⟨v0, l1, y0, rfl, e0, hr⟩ := hr; obtain rfl := asS_eq _ _ e0
  replace hr := dFin hr; obtain ⟨rfl, rfl, x, h, rfl⟩ := hr
  obtain rfl := kinds_nil hc
  exact ⟨_, rfl, leads25 R02_value hS _ x h⟩
def R02_Unhex : (List UInt8) → Option ((List UInt8) × Bool) := R02_UnhexF R02_value
theorem lift25 : SumOK Try.prog 25 (s25 R02_Unhex) := ok25 R02_value (SumsOK.of_tab ⟨lift49, trivial⟩)
end Go.Vm.Code
namespace Go.Vm.Code
open Go Go.Vm
abbrev dgs : List UInt8 := [48, 49, 50, 51, 52, 53, 54, 55, 56, 57, 97, 98, 99, 100, 101, 102]
def dig (n : Nat) : UInt8 := if n < 10 then UInt8.ofNat (48 + n) else UInt8.ofNat (87 + n)
def hexS (s : List UInt8) : List UInt8 := s.flatMap fun b => [dig (b.toNat / 16), dig (b.toNat % 16)]
theorem hexS_cons (b : UInt8) (s : List UInt8) : hexS (b :: s) = dig (b.toNat / 16) :: dig (b.toNat % 16) :: hexS s := rfl
theorem dgs_get {n : Nat} (h : n < 16) : dgs[n]? = some (dig n) := by
  have : ∀ k : Fin 16, dgs[k.val]? = some (dig k.val) := by decide
  exact this ⟨n, h⟩
theorem iB_snoc (c : List Int) (b : UInt8) : iB (c ++ [(b.toNat : Int)]) = iB c ++ [b] := by simp [iB]
theorem and15 {n : Nat} (h : n < 256) : andI .u8 (n : Int) 15 = ((n % 16 : Nat) : Int) := by
  have : ∀ k : Fin 256, andI .u8 (k.val : Int) 15 = ((k.val % 16 : Nat) : Int) := by decide +kernel
  exact this ⟨n, h⟩
theorem div16 (n : Nat) : ((n : Int)).fdiv (2 ^ 4) = ((n / 16 : Nat) : Int) := by rw [fdivP]; rfl
theorem bI_at {s : List UInt8} {i : Nat} (h : i < s.length) : (bI s)[i]? = some (s[i].toNat : Int) := by simp [bI, h]
theorem ohex_loop {s : List UInt8} (hs : s.length < 2 ^ 30) (t : Nat) (c : List Int) (ht : t ≤ s.length) (hc : c.length = 2 * t) : iter (fun st => octet_Hex_s1 s st.1 st.2) FUEL ((t : Int), c) = some (iB c ++ hexS (s.drop t)) := by
  have key := iter_eq (step := fun (st : Int × List Int) => octet_Hex_s1 s st.1 st.2) (fun st => iB st.2 ++ hexS (s.drop st.1.toNat)) (fun st => 0 ≤ st.1 ∧ st.1 ≤ s.length ∧ st.2.length = 2 * st.1.toNat) (fun st => (s.length - st.1).toNat) ?_ FUEL ((t : Int), c) ⟨by simp, by simp only; omega, by simp only; omega⟩ (by rw [FUEL_eq]; simp only; omega)
  · rw [key]; rfl
  rintro ⟨x, c⟩ ⟨g1, g2, g3⟩
  simp only at g1 g2 g3 ⊢
  obtain ⟨i, rfl⟩ := Int.eq_ofNat_of_zero_le g1
  unfold octet_Hex_s1
  by_cases hp : i < s.length
  · have hb := s[i].toNat_lt
    refine .inr ⟨(((i + 1 : Nat) : Int), (c ++ [((dig (s[i].toNat / 16)).toNat : Int)]) ++ [((dig (s[i].toNat % 16)).toNat : Int)]), ?_, ⟨by simp only; omega, by simp only; omega, by simp only [List.length_append, List.length_cons, List.length_nil]; omega⟩, by simp only; omega, ?_⟩
    · rw [cond_p (by omega), oreq_p (by omega), Int.toNat_natCast, bI_at hp, Option.bind_some, div16, oreq_p (by omega), Int.toNat_natCast, show ([48, 49, 50, 51, 52, 53, 54, 55, 56, 57, 97, 98, 99, 100, 101, 102] : List UInt8) = dgs from rfl, dgs_get (by omega), Option.bind_some, oreq_p (by omega), and15 hb]
      simp only []
      rw [oreq_p (by omega), Int.toNat_natCast, dgs_get (by omega), Option.bind_some, oreq_p (by simp only [List.length_append, List.length_cons, List.length_nil]; omega), wI64 (by omega) (by omega)]; rfl
    · simp only [Int.toNat_natCast]
      rw [List.drop_eq_getElem_cons hp, hexS_cons, iB_snoc, iB_snoc]; simp
  · refine .inl ?_
    rw [cond_n (by omega), oreq_p (by omega), Int.toNat_natCast, List.drop_of_length_le (by omega)]; simp [hexS]
theorem ohex_eq {s : List UInt8} (hs : s.length < 2 ^ 30) : octet_Hex s = some (hexS s) := by
  unfold octet_Hex octet_HexF
  cases s with
  | nil => rfl
  | cons b s =>
    have hb := b.toNat_lt
    rw [cond_p (by simp only [List.length_cons]; omega), oreq_p (by simp only [List.length_cons]; omega), show (bI (b :: s))[0]? = some (b.toNat : Int) from rfl, Option.bind_some, div16, oreq_p (by omega), Int.toNat_natCast, show ([48, 49, 50, 51, 52, 53, 54, 55, 56, 57, 97, 98, 99, 100, 101, 102] : List UInt8) = dgs from rfl, dgs_get (by omega), Option.bind_some, and15 hb, oreq_p (by omega), Int.toNat_natCast, dgs_get (by omega), Option.bind_some, oreq_p (by simp only [List.length_cons, List.length_nil]; omega)]
    have := ohex_loop hs 1 ([((dig (b.toNat / 16)).toNat : Int)] ++ [((dig (b.toNat % 16)).toNat : Int)]) (by simp) (by simp)
    simp only []
    rw [show (1 : Int) = ((1 : Nat) : Int) from rfl, this, hexS_cons, iB_snoc]; simp [iB]
theorem rdig_eq {n : Nat} (h : n < 16) : R02_digit (n : Int) = some ((dig n).toNat : Int) := by
  have : ∀ k : Fin 16, R02_digit (k.val : Int) = some ((dig k.val).toNat : Int) := by decide +kernel
  exact this ⟨n, h⟩
theorem rhex_eq {s : List UInt8} (hs : s.length < 2 ^ 30) : R02_Hex s = some (hexS s) := by
  unfold R02_Hex R02_HexF
  have key := iter_eq (step := fun (st : Int × List Int) => R02_Hex_s1 R02_digit s st.1 st.2) (fun st => iB st.2 ++ hexS (s.drop st.1.toNat)) (fun st => 0 ≤ st.1 ∧ st.1 ≤ s.length ∧ st.2.length = 2 * st.1.toNat) (fun st => (s.length - st.1).toNat) ?_ FUEL (0, []) ⟨by simp, by simp, by simp⟩ (by rw [FUEL_eq]; simp only; omega)
  · rw [key]; rfl
  rintro ⟨x, c⟩ ⟨g1, g2, g3⟩
  simp only at g1 g2 g3 ⊢
  obtain ⟨i, rfl⟩ := Int.eq_ofNat_of_zero_le g1
  unfold R02_Hex_s1
  by_cases hp : i < s.length
  · have hb := s[i].toNat_lt
    have e1 : (wI .i64 (s[i].toNat : Int)).tdiv 16 = ((s[i].toNat / 16 : Nat) : Int) := by rw [wI64 (by omega) (by omega), Int.tdiv_eq_ediv_of_nonneg (by omega)]; rfl
    have e2 : (wI .i64 (s[i].toNat : Int)).tmod 16 = ((s[i].toNat % 16 : Nat) : Int) := by rw [wI64 (by omega) (by omega), Int.tmod_eq_emod_of_nonneg (by omega)]; rfl
    refine .inr ⟨(((i + 1 : Nat) : Int), c ++ [((dig (s[i].toNat / 16)).toNat : Int), ((dig (s[i].toNat % 16)).toNat : Int)]), ?_, ⟨by simp only; omega, by simp only; omega, by simp only [List.length_append, List.length_cons, List.length_nil]; omega⟩, by simp only; omega, ?_⟩
    · rw [cond_p (by omega), oreq_p (by omega), Int.toNat_natCast, List.getElem?_eq_getElem hp, Option.bind_some, e1]
      simp only []
      rw [wI64 (by omega) (by omega), rdig_eq (by omega), Option.bind_some, oreq_p (by omega), Option.bind_some, e2, rdig_eq (by omega), Option.bind_some, oreq_p (by omega), wI64 (by omega) (by omega)]; rfl
    · simp only [Int.toNat_natCast]
      rw [List.drop_eq_getElem_cons hp, hexS_cons, show [((dig (s[i].toNat / 16)).toNat : Int), ((dig (s[i].toNat % 16)).toNat : Int)] = [((dig (s[i].toNat / 16)).toNat : Int)] ++ [((dig (s[i].toNat % 16)).toNat : Int)] from rfl, ← List.append_assoc, iB_snoc, iB_snoc]; simp
  · refine .inl ?_
    rw [cond_n (by omega), Int.toNat_natCast, List.drop_of_length_le (by omega)]; simp [hexS]
def hv (b : UInt8) : Int := ixB dgs (b.toNat : Int)
def unhexS : List UInt8 → Option (List UInt8)
  | [] => some []
  | [_] => none
  | a :: b :: l => if hv a < 0 ∨ hv b < 0 then none else (unhexS l).map (UInt8.ofNat (16 * hv a + hv b).toNat :: ·)
def ansU (pre : List UInt8) (r : Option (List UInt8)) : List UInt8 × Bool := match r with
  | some l => (pre ++ l, true)
  | none => ([], false)
theorem byte_all {p : Nat → Prop} (h : ∀ k : Fin 256, p k.val) (b : UInt8) : p b.toNat := h ⟨b.toNat, b.toNat_lt⟩
theorem hv_rng (b : UInt8) : -1 ≤ hv b ∧ hv b < 16 := by
  have : ∀ k : Fin 256, -1 ≤ ixB dgs (k.val : Int) ∧ ixB dgs (k.val : Int) < 16 := by decide +kernel
  exact byte_all (p := fun n => -1 ≤ ixB dgs (n : Int) ∧ ixB dgs (n : Int) < 16) this b
theorem rval_eq (b : UInt8) : R02_value (b.toNat : Int) = some (hv b) := by
  have : ∀ k : Fin 256, R02_value (k.val : Int) = some (ixB dgs (k.val : Int)) := by decide +kernel
  exact byte_all (p := fun n => R02_value (n : Int) = some (ixB dgs (n : Int))) this b
theorem unhex_odd : ∀ {s : List UInt8}, s.length % 2 = 1 → unhexS s = none
  | [], h => absurd h (by decide)
  | [_], _ => rfl
  | a :: b :: l, h => by
    rw [unhexS, unhex_odd (s := l) (by simp only [List.length_cons] at h; omega)]
    split <;> rfl
theorem runhex_eq {s : List UInt8} (hs : s.length < 2 ^ 30) : R02_Unhex s = some (ansU [] (unhexS s)) := by
  unfold R02_Unhex R02_UnhexF
  have key := iter_eq (step := fun (st : Int × List Int) => R02_Unhex_s1 R02_value s st.1 st.2) (fun st => ansU (iB st.2) (unhexS (s.drop st.1.toNat))) (fun st => 0 ≤ st.1 ∧ st.1 ≤ s.length ∧ st.1 % 2 = 0 ∧ st.2.length ≤ st.1.toNat) (fun st => (s.length - st.1).toNat) ?_ FUEL (0, []) ⟨by simp, by simp, by simp, by simp⟩ (by rw [FUEL_eq]; simp only; omega)
  · rw [key]; rfl
  rintro ⟨x, c⟩ ⟨g1, g2, g4, g3⟩
  simp only at g1 g2 g3 g4 ⊢
  obtain ⟨i, rfl⟩ := Int.eq_ofNat_of_zero_le g1
  unfold R02_Unhex_s1
  rw [wI64 (n := (i : Int) + 1) (by omega) (by omega)]
  by_cases hp : i + 1 < s.length
  · have e0 : s.drop i = s[i] :: s[i + 1] :: s.drop (i + 2) := by
      rw [List.drop_eq_getElem_cons (by omega), List.drop_eq_getElem_cons hp]
    simp only [Int.toNat_natCast]
    rw [e0, unhexS, cond_p (by omega), oreq_p (by omega), List.getElem?_eq_getElem (by omega), Option.bind_some, rval_eq, Option.bind_some, oreq_p (by omega), show ((i : Int) + 1).toNat = i + 1 by omega, List.getElem?_eq_getElem hp, Option.bind_some, rval_eq, Option.bind_some]
    have ha := hv_rng s[i]
    have hb := hv_rng s[i + 1]
    by_cases c1 : hv s[i] < 0
    · rw [cond_p c1, if_pos (.inl c1)]; exact .inl rfl
    rw [cond_n c1]
    by_cases c2 : hv s[i + 1] < 0
    · rw [cond_p c2, if_pos (.inr c2)]; exact .inl rfl
    rw [cond_n c2, if_neg (by omega), wI64 (n := 16 * hv s[i]) (by omega) (by omega), wI64 (n := 16 * hv s[i] + hv s[i + 1]) (by omega) (by omega), wU8 (n := 16 * hv s[i] + hv s[i + 1]) (by omega) (by omega), oreq_p (by omega), wI64 (by omega) (by omega)]
    refine .inr ⟨(((i + 2 : Nat) : Int), c ++ [16 * hv s[i] + hv s[i + 1]]), rfl, ⟨by simp only; omega, by simp only; omega, by simp only; omega, by simp only [List.length_append, List.length_cons, List.length_nil]; omega⟩, by simp only; omega, ?_⟩
    simp only [Int.toNat_natCast]
    cases unhexS (s.drop (i + 2)) with
    | none => rfl
    | some l => simp [ansU, iB]
  · refine .inl ?_
    simp only [Int.toNat_natCast]
    rw [cond_n (by omega)]
    by_cases hl : s.length % 2 = 1
    · have e0 : s.drop i = [s[i]'(by omega)] := by
        rw [List.drop_eq_getElem_cons (by omega), List.drop_of_length_le (by omega)]
      rw [e0, unhexS, show (((s.length : Int).tmod 2) == 1) = true by rw [Int.tmod_eq_emod_of_nonneg (by omega)]; simp; omega]; rfl
    · rw [List.drop_of_length_le (by omega), unhexS, show (((s.length : Int).tmod 2) == 1) = false by rw [Int.tmod_eq_emod_of_nonneg (by omega)]; simp; omega]; simp [ansU]
theorem dec_small {s : List UInt8} {i : Nat} (h : i < s.length) (hb : s[i].toNat < 128) : Utf8.decode ⟨⟨s⟩⟩ i = (s[i].toNat, 1) := by
  have e : ((⟨⟨s⟩⟩ : ByteArray).get! (i + 0)) = s[i] := by
    show (⟨s⟩ : Array UInt8)[i]! = s[i]
    simp [h]
  unfold Utf8.decode
  simp only [e]
  rw [if_pos (by omega)]
theorem dec_big {s : List UInt8} {i : Nat} (h : i < s.length) (hb : 128 ≤ s[i].toNat) : 128 ≤ (Utf8.decode ⟨⟨s⟩⟩ i).1 := by
  have e : ((⟨⟨s⟩⟩ : ByteArray).get! (i + 0)) = s[i] := by
    show (⟨s⟩ : Array UInt8)[i]! = s[i]
    simp [h]
  unfold Utf8.decode
  simp only [e]
  rw [if_neg (by omega)]
  split
  · split
    · assumption
    · decide
  split
  · split
    · rename_i h2
      simp only [ge_iff_le, Bool.and_eq_true, decide_eq_true_eq] at h2
      exact Nat.le_trans (by decide) h2.1
    · decide
  split
  · split
    · rename_i h2
      simp only [ge_iff_le, Bool.and_eq_true, decide_eq_true_eq] at h2
      exact Nat.le_trans (by decide) h2.1
    · decide
  · decide
theorem ofNat_big (n : Nat) : 128 ≤ (UInt8.ofNat (0x80 + n % 64)).toNat := by simp; omega
theorem enc_big {r : Int} (h : 128 ≤ r) : ∃ l b, encR r = l ++ [b] ∧ 1 ≤ l.length ∧ l.length ≤ 3 ∧ 128 ≤ b.toNat := by
  unfold encR Utf8.encode
  have hc : 128 ≤ (if Utf8.valid r then r.toNat else Utf8.runeError) := by
    split
    · omega
    · decide
  generalize (if Utf8.valid r then r.toNat else Utf8.runeError) = c at hc
  simp only []
  rw [if_neg (by omega)]
  split
  · exact ⟨[_], _, rfl, by simp, by simp, ofNat_big c⟩
  split
  · exact ⟨[_, _], _, rfl, by simp, by simp, ofNat_big c⟩
  · exact ⟨[_, _, _], _, rfl, by simp, by simp, ofNat_big c⟩
theorem ixB_big {l : List UInt8} {b : UInt8} (hl : ∀ x ∈ l, x.toNat < 128) (hb : 128 ≤ b.toNat) : ixB l (b.toNat : Int) = -1 := by
  unfold ixB
  have : l.findIdx? (fun x => x == (b.toNat : Int).toNat.toUInt8) = none := by
    rw [List.findIdx?_eq_none_iff]
    intro x hx
    have := hl x hx
    have e : (b.toNat : Int).toNat.toUInt8 = b := by rw [Int.toNat_natCast]; apply UInt8.toNat_inj.1; simp
    rw [e]
    simp only [beq_eq_false_iff_ne]
    intro e2
    subst e2; omega
  rw [this]
theorem dgs_small : ∀ x ∈ dgs, x.toNat < 128 := by decide
theorem sib_eq (s : List UInt8) (c : Int) : strings_IndexByte s c = some (ixB s c) := rfl
theorem rune_big {r : Int} (h : 128 ≤ r) : strings_IndexRune dgs r = some (-1) := by
  unfold strings_IndexRune strings_IndexRuneF
  rw [cond_p (by omega), cond_n (by omega)]
  by_cases h1 : r = 65533
  · rw [show (r == 65533) = true by simpa using h1, cond_true]
    decide +kernel
  rw [show (r == 65533) = false by simpa using h1, cond_false]
  have hvr : ∃ v, unicode_utf8_ValidRune r = some v := by
    unfold unicode_utf8_ValidRune unicode_utf8_ValidRuneF
    simp only [cond_dec]
    repeat' split
    all_goals exact ⟨_, rfl⟩
  obtain ⟨v, hvr⟩ := hvr
  rw [hvr, Option.bind_some]
  cases v
  · rfl
  rw [Bool.not_true, cond_false]
  show iter _ (18446744073709551615 + 1) _ = _
  rw [iter]
  have : strings_IndexRune_s3 strings_IndexByte dgs r = some (.inr (-1)) := by
    obtain ⟨l, b, e, l1, l3, hb⟩ := enc_big h
    unfold strings_IndexRune_s3
    rw [e]
    have el : ((l ++ [b]).length : Int) = (l.length : Int) + 1 := by simp
    have e1 : wI .i64 ((l.length : Int) + 1 - 1) = (l.length : Int) := by rw [wI64 (by omega) (by omega)]; omega
    have e2 : wI .i64 ((l.length : Int) + 1) = (l.length : Int) + 1 := by rw [wI64 (by omega) (by omega)]
    have hd : l.length < dgs.length := Nat.lt_of_le_of_lt l3 (by decide)
    simp only [el, e1, e2, Int.toNat_natCast]
    rw [cond_p (by omega), oreq_p (by omega), List.getElem?_eq_getElem hd, Option.bind_some, oreq_p (by omega), List.getElem?_append_right (Nat.le_refl _), Nat.sub_self]
    simp only [List.getElem?_cons_zero, Option.bind_some]
    have hs := dgs_small dgs[l.length] (List.getElem_mem hd)
    rw [show ((dgs[l.length].toNat : Int) != (b.toNat : Int)) = true by simp; omega, cond_true, oreq_p (by omega), oreq_p (by omega), sib_eq, Option.bind_some, ixB_big (fun x hx => dgs_small x (List.mem_of_mem_drop (List.mem_of_mem_take hx))) hb]
    rfl
  simp only [this]
theorem rune_small {b : UInt8} (h : b.toNat < 128) : strings_IndexRune dgs (b.toNat : Int) = some (hv b) := by
  unfold strings_IndexRune strings_IndexRuneF
  rw [cond_p (by omega), cond_p (by omega), wU8 (by omega) (by omega), sib_eq]; rfl
theorem hv_big {b : UInt8} (h : 128 ≤ b.toNat) : hv b = -1 := ixB_big dgs_small h
theorem rune_at {s : List UInt8} {i : Nat} (h : i < s.length) : strings_IndexRune dgs ((Utf8.decode ⟨⟨s⟩⟩ i).1 : Int) = some (hv s[i]) ∧ (0 ≤ hv s[i] → (Utf8.decode ⟨⟨s⟩⟩ i).2 = 1) := by
  by_cases hb : s[i].toNat < 128
  · rw [dec_small h hb]; exact ⟨rune_small hb, fun _ => rfl⟩
  · rw [rune_big (by have := dec_big h (by omega); omega), hv_big (by omega)]; exact ⟨rfl, fun e => absurd e (by decide)⟩
theorem ior16 {x n : Int} (h0 : 0 ≤ x) (h1 : x < 16) (h2 : 0 ≤ n) (h3 : n < 16) : iorI .u8 (wI .u8 (x * 2 ^ 4)) (wI .u8 n) = 16 * x + n := by
  have : ∀ a b : Fin 16, iorI .u8 (wI .u8 ((a.val : Int) * 2 ^ 4)) (wI .u8 (b.val : Int)) = 16 * (a.val : Int) + (b.val : Int) := by decide +kernel
  have h := this ⟨x.toNat, by omega⟩ ⟨n.toNat, by omega⟩
  simp only [Int.toNat_of_nonneg h0, Int.toNat_of_nonneg h2] at h
  exact h
def unodd (x : Int) : List UInt8 → Option (List UInt8)
  | [] => none
  | a :: l => if hv a < 0 then none else (unhexS l).map (UInt8.ofNat (16 * x + hv a).toNat :: ·)
theorem unhex_two {a : UInt8} {l : List UInt8} (h : 0 ≤ hv a) : unhexS (a :: l) = unodd (hv a) l := by
  cases l with
  | nil => rfl
  | cons b l =>
    rw [unhexS, unodd]
    by_cases c : hv b < 0
    · rw [if_pos (.inr c), if_pos c]
    · rw [if_neg (by omega), if_neg c]
theorem unhex_bad {a : UInt8} {l : List UInt8} (h : hv a < 0) : unhexS (a :: l) = none := by
  cases l with
  | nil => rfl
  | cons b l => rw [unhexS, if_pos (.inl h)]
def goU (s : List UInt8) (p : Nat) (b : List Int) : List UInt8 × Bool :=
  ansU (iB (b.take (p / 2))) (if p % 2 = 0 then unhexS (s.drop p) else unodd ((b[p / 2]?).getD 0) (s.drop p))
theorem take_set_succ {b : List Int} {i : Nat} {v : Int} (h : i < b.length) : (b.set i v).take (i + 1) = b.take i ++ [v] := by
  rw [List.take_succ_eq_append_getElem (by simpa using h), List.take_set_of_le (Nat.le_refl _), List.getElem_set_self]
theorem ounhex_eq {s : List UInt8} (hs : s.length < 2 ^ 30) : octet_Unhex s = some (ansU [] (unhexS s)) := by
  unfold octet_Unhex octet_UnhexF
  by_cases hl : s.length % 2 = 1
  · rw [cond_p (by rw [Int.tmod_eq_emod_of_nonneg (by omega)]; omega), unhex_odd hl]; rfl
  have e0 : wI .i64 ((s.length : Int).tdiv 2) = ((s.length / 2 : Nat) : Int) := by rw [Int.tdiv_eq_ediv_of_nonneg (by omega), wI64 (by omega) (by omega)]; rfl
  rw [cond_n (by rw [Int.tmod_eq_emod_of_nonneg (by omega)]; omega), e0, oreq_p (by omega), Int.toNat_natCast]
  have key := iter_eq (step := fun (st : Int × List Int × Nat) => octet_Unhex_s1 strings_IndexRune s st.1 st.2.1 st.2.2) (fun st => goU s st.2.2 st.2.1) (fun st => st.1 = (st.2.2 : Int) ∧ st.2.2 ≤ s.length ∧ st.2.1.length = s.length / 2 ∧ (∀ j, (st.2.2 + 1) / 2 ≤ j → j < s.length / 2 → st.2.1[j]? = some 0) ∧ (st.2.2 % 2 = 1 → ∃ x, st.2.1[st.2.2 / 2]? = some x ∧ 0 ≤ x ∧ x < 16)) (fun st => s.length - st.2.2) ?_ FUEL (0, List.replicate (s.length / 2) 0, 0) ⟨rfl, by simp, by simp, fun j _ h => by simp [h], fun h => absurd h (by simp)⟩ (by rw [FUEL_eq]; simp only; omega)
  · rw [key]; simp [goU, iB]
  rintro ⟨y, b, p⟩ ⟨g1, g2, g3, g4, g5⟩
  simp only at g1 g2 g3 g4 g5 ⊢
  subst g1
  unfold octet_Unhex_s1
  rw [e0]
  by_cases hp : p < s.length
  · obtain ⟨r1, r2⟩ := rune_at hp
    rw [cond_p hp, show ([48, 49, 50, 51, 52, 53, 54, 55, 56, 57, 97, 98, 99, 100, 101, 102] : List UInt8) = dgs from rfl, r1, Option.bind_some]
    have ed : s.drop p = s[p] :: s.drop (p + 1) := List.drop_eq_getElem_cons hp
    have hr := hv_rng s[p]
    by_cases c1 : hv s[p] < 0
    · rw [cond_p c1]
      refine .inl ?_
      unfold goU
      rw [ed]
      split
      · rw [unhex_bad c1]; rfl
      · rw [unodd, if_pos c1]; rfl
    have e1 : wI .i64 ((p : Int).tdiv 2) = ((p / 2 : Nat) : Int) := by rw [Int.tdiv_eq_ediv_of_nonneg (by omega), wI64 (by omega) (by omega)]; rfl
    have hb : p / 2 < b.length := by omega
    have hx : ∃ x, b[p / 2]? = some x ∧ 0 ≤ x ∧ x < 16 ∧ (p % 2 = 0 → x = 0) := by
      by_cases c2 : p % 2 = 1
      · obtain ⟨x, x1, x2, x3⟩ := g5 c2
        exact ⟨x, x1, x2, x3, fun e => by omega⟩
      · exact ⟨0, g4 _ (by omega) (by omega), by decide, by decide, fun _ => rfl⟩
    obtain ⟨x, x1, x2, x3, x4⟩ := hx
    rw [cond_n c1, e1, oreq_p (by omega), Int.toNat_natCast, x1, Option.bind_some, oreq_p (by omega), oreq_p hb, ior16 x2 x3 (by omega) hr.2, r2 (by omega), wI64 (by omega) (by omega)]
    refine .inr ⟨(((p + 1 : Nat) : Int), b.set (p / 2) (16 * x + hv s[p]), p + 1), rfl, ⟨rfl, by simp only; omega, by simp only [List.length_set]; exact g3, fun j j1 j2 => ?_, fun hodd => ?_⟩, by simp only; omega, ?_⟩
    · simp only at j1 ⊢
      rw [List.getElem?_set_ne (by omega)]
      exact g4 j (by omega) j2
    · simp only at hodd ⊢
      have : (p + 1) / 2 = p / 2 := by omega
      rw [this, List.getElem?_set_self hb]
      have := x4 (by omega)
      exact ⟨_, rfl, by omega, by omega⟩
    · simp only
      unfold goU
      rw [ed]
      by_cases c2 : p % 2 = 0
      · have h2 : (p + 1) / 2 = p / 2 := by omega
        rw [if_neg (by omega), if_pos c2, h2, unhex_two (by omega), List.getElem?_set_self hb, List.take_set_of_le (Nat.le_refl _), x4 c2]
        simp
      · have h2 : (p + 1) / 2 = p / 2 + 1 := by omega
        rw [if_pos (by omega), if_neg c2, h2, x1, take_set_succ hb, unodd, if_neg c1, Option.getD_some]
        cases unhexS (s.drop (p + 1)) with
        | none => rfl
        | some l => simp [ansU, iB]
  · refine .inl ?_
    have : p = s.length := by omega
    subst this
    rw [cond_n (by omega), oreq_p (by omega), Int.toNat_natCast]
    unfold goU
    rw [if_pos (by omega), List.drop_of_length_le (Nat.le_refl _)]
    simp [unhexS, ansU]
end Go.Vm.Code
namespace Go.Vm.Code
open Go Go.Vm Go.Proofs
set_option maxRecDepth 100000
set_option maxHeartbeats 4000000
set_option linter.unusedVariables false
def law02_awakeF (octet_Hex : (List UInt8) → Option (List UInt8)) (octet_New : (List UInt8) → Option octet_Reader) (octet_Put : Int → Int → Option (List UInt8)) (octet_Reader_Num : octet_Reader → Int → Option (Int × octet_Reader)) (octet_Reader_Num_nil : Int → Option Int) (octet_Unhex : (List UInt8) → Option ((List UInt8) × Bool)) : Option Bool :=
  (octet_Unhex [48, 71]).bind fun u =>
  (octet_Put 258 2).bind fun p =>
  cond (p == [1, 2])
    (
    (octet_Hex [102, 102]).bind fun xh =>
    cond (xh == [54, 54, 54, 54])
      (
      cond (!u.2)
        (
        (octet_New [97]).bind fun n =>
        (octet_Reader_Num n 1).bind fun n1 =>
        some (n1.1 == 97))
        (
        some (false)))
      (
      some (false)))
    (
    some (false))
def rx21 (x : Bool) : SRes := ⟨.bool x, [], []⟩
def r21 (g : Option Bool) : Dec := dEnd (ofG (g) rx21)
theorem r21_c {g : Option Bool} {x : Bool} (hx : g = some x) : r21 g [] [] = some (rx21 x) := ofG_eq hx
def s21 (g : Option Bool) : Summ := ⟨[], r21 g⟩
theorem r21_eq {g : Option Bool} {x : Bool} (hx : g = some x) : (s21 g).run [] [] = some (rx21 x) := r21_c hx
abbrev sums21 (octet_Hex : (List UInt8) → Option (List UInt8)) (octet_New : (List UInt8) → Option octet_Reader) (octet_Put : Int → Int → Option (List UInt8)) (octet_Reader_Num : octet_Reader → Int → Option (Int × octet_Reader)) (octet_Reader_Num_nil : Int → Option Int) (octet_Unhex : (List UInt8) → Option ((List UInt8) × Bool)) : List (Nat × Summ) := [(28, s28 octet_Hex), (30, s30 octet_New), (26, s26 octet_Put), (31, s31 octet_Reader_Num octet_Reader_Num_nil), (24, s24 octet_Unhex)]
theorem leads21 (octet_Hex : (List UInt8) → Option (List UInt8)) (octet_New : (List UInt8) → Option octet_Reader) (octet_Put : Int → Int → Option (List UInt8)) (octet_Reader_Num : octet_Reader → Int → Option (Int × octet_Reader)) (octet_Reader_Num_nil : Int → Option Int) (octet_Unhex : (List UInt8) → Option ((List UInt8) × Bool)) (hS : SumsOK Try.prog (aget (sums21 octet_Hex octet_New octet_Put octet_Reader_Num octet_Reader_Num_nil octet_Unhex))) (res : Bool) (h : law02_awakeF octet_Hex octet_New octet_Put octet_Reader_Num octet_Reader_Num_nil octet_Unhex = some res) :
    Leads Try.prog 21 0 ⟨⟨21, 22, [], [.code k21_5], [], false, none⟩, [], [], 0⟩ (fun v H _ => Res 0 (rx21 res) v H) := by
  unfold law02_awakeF at h
  refine ev_ok tab_ok hS true 3000 ?_
  conv => whnf
  replace h := obind.elim h; obtain ⟨u, hy, h⟩ := h
  refine sumK.q rfl rfl (r24_eq hy) rfl rfl rfl ?_
  conv => whnf
  replace h := obind.elim h; obtain ⟨p, hy, h⟩ := h
  refine sumK.q rfl rfl (r26_eq hy) rfl rfl rfl ?_
  conv => whnf
  refine br.h2 h ?_ ?_ ?_
  · rfl
  · clear h; intro hb h; conv => whnf
    all_goals (cases h; exact Res.z rfl rfl rfl)
  clear h; intro hb h; conv => whnf
  replace h := obind.elim h; obtain ⟨xh, hy, h⟩ := h
  refine sumK.q rfl rfl (r28_eq hy) rfl rfl rfl ?_
  conv => whnf
  refine br.h2 h ?_ ?_ ?_
  · rfl
  · clear h; intro hb h; conv => whnf
    all_goals (cases h; exact Res.z rfl rfl rfl)
  clear h; intro hb h; conv => whnf
  refine br.h2 h ?_ ?_ ?_
  · rfl
  · clear h; intro hb h; conv => whnf
    all_goals (cases h; exact Res.z rfl rfl rfl)
  clear h; intro hb h; conv => whnf
  replace h := obind.elim h; obtain ⟨n, hy, h⟩ := h
  refine sumK.introF [0] (sumRun_of (aqs := [.string ⟨⟨[97]⟩⟩]) (ws := []) (n := 1) (m := 0) (t' := 1) (ra_cons rfl rfl ra_nil) rfl (by rfl) (r30_eq hy) rfl rfl rfl rfl wb_nil (an_cons (rfl) an_nil) rfl) ?_
  conv => whnf
  replace h := obind.elim h; obtain ⟨n1, hy, h⟩ := h
  refine sumK.introF [0] (sumRun_of (aqs := [.pointer (some ⟨0, 0, none⟩), .int .i64 1]) (ws := [.win 0 0 3 true]) (n := 0) (m := 0) (t' := 1) (ra_cons rfl rfl (ra_cons rfl rfl ra_nil)) rfl (by rfl) (r31_eq hy) rfl rfl rfl rfl (wb_win rfl rfl rfl ⟨rfl, Nat.le_of_ble_eq_true rfl⟩ rfl rfl wb_nil) an_nil rfl) ?_
  conv => whnf
  all_goals (cases h; exact Res.z rfl rfl rfl)
theorem ok21 (octet_Hex : (List UInt8) → Option (List UInt8)) (octet_New : (List UInt8) → Option octet_Reader) (octet_Put : Int → Int → Option (List UInt8)) (octet_Reader_Num : octet_Reader → Int → Option (Int × octet_Reader)) (octet_Reader_Num_nil : Int → Option Int) (octet_Unhex : (List UInt8) → Option ((List UInt8) × Bool)) (hS : SumsOK Try.prog (aget (sums21 octet_Hex octet_New octet_Put octet_Reader_Num octet_Reader_Num_nil octet_Unhex))) : SumOK Try.prog 21 (s21 (law02_awakeF octet_Hex octet_New octet_Put octet_Reader_Num octet_Reader_Num_nil octet_Unhex)) := by
  refine SumOK.of_leads tab_ok (fun ar os r ha hr => ?_) ⟨Try.f21, rfl, by decide, rfl⟩
  replace hr : r21 (law02_awakeF octet_Hex octet_New octet_Put octet_Reader_Num octet_Reader_Num_nil octet_Unhex) ar (conts os) = some r := hr
  unfold r21 at hr
  generalize hc : conts os = C at hr
  replace hr := dFin hr; obtain ⟨rfl, rfl, x, h, rfl⟩ := hr
  obtain rfl := kinds_nil hc
  exact ⟨_, rfl, leads21 octet_Hex octet_New octet_Put octet_Reader_Num octet_Reader_Num_nil octet_Unhex hS x h⟩
def law02_awake : Option Bool := law02_awakeF octet_Hex octet_New octet_Put octet_Reader_Num octet_Reader_Num_nil octet_Unhex
theorem lift21 : SumOK Try.prog 21 (s21 law02_awake) := ok21 octet_Hex octet_New octet_Put octet_Reader_Num octet_Reader_Num_nil octet_Unhex (SumsOK.of_tab ⟨lift28, lift30, lift26, lift31, lift24, trivial⟩)
def law02_OctetTellsF (R02_Get : (List UInt8) → Int → Int → Option (Int × Bool)) (R02_Hex : (List UInt8) → Option (List UInt8)) (R02_Put : Int → Int → Option (List UInt8)) (R02_Unhex : (List UInt8) → Option ((List UInt8) × Bool)) (law02_awake : Option Bool) (octet_Get : (List UInt8) → Int → Int → Option (Int × Bool)) (octet_Hex : (List UInt8) → Option (List UInt8)) (octet_Put : Int → Int → Option (List UInt8)) (octet_Unhex : (List UInt8) → Option ((List UInt8) × Bool)) (n : Int) (k : Int) (s : List UInt8) (ata3 : Int) : Option Bool :=
  cond (decide ((s.length : Int) > 60))
    (
    (law02_awake).bind fun a =>
    some (a))
    (
    (octet_Get s ata3 k).bind fun xg =>
    (R02_Get s ata3 k).bind fun xg1 =>
    (octet_Unhex s).bind fun u =>
    (R02_Unhex s).bind fun u1 =>
    (octet_Put n k).bind fun p =>
    (R02_Put n k).bind fun p1 =>
    cond (p == p1)
      (
      cond (xg.1 == xg1.1)
        (
        cond (xg.2 == xg1.2)
          (
          (octet_Hex s).bind fun xh =>
          (R02_Hex s).bind fun xh1 =>
          cond (xh == xh1)
            (
            cond (u.1 == u1.1)
              (
              cond (u.2 == u1.2)
                (
                (law02_awake).bind fun a1 =>
                some (a1))
                (
                some (false)))
              (
              some (false)))
            (
            some (false)))
          (
          some (false)))
        (
        some (false)))
      (
      some (false)))
def rx5 (x : Bool) : SRes := ⟨.bool x, [], []⟩
def r5 (g : Int → Int → (List UInt8) → Int → Option Bool) : Dec := dV (asI .u64) fun (y0 : Int) => dV (asI .i64) fun (y1 : Int) => dV asS fun (y2 : List UInt8) => dV (asI .i64) fun (y3 : Int) => dEnd (ofG (g y0 y1 y2 y3) rx5)
def s5 (g : Int → Int → (List UInt8) → Int → Option Bool) : Summ := ⟨[.v, .v, .v, .v], r5 g⟩
abbrev sums5 (R02_Get : (List UInt8) → Int → Int → Option (Int × Bool)) (R02_Hex : (List UInt8) → Option (List UInt8)) (R02_Put : Int → Int → Option (List UInt8)) (R02_Unhex : (List UInt8) → Option ((List UInt8) × Bool)) (law02_awake : Option Bool) (octet_Get : (List UInt8) → Int → Int → Option (Int × Bool)) (octet_Hex : (List UInt8) → Option (List UInt8)) (octet_Put : Int → Int → Option (List UInt8)) (octet_Unhex : (List UInt8) → Option ((List UInt8) × Bool)) : List (Nat × Summ) := [(23, s23 R02_Get), (29, s29 R02_Hex), (27, s27 R02_Put), (25, s25 R02_Unhex), (21, s21 law02_awake), (22, s22 octet_Get), (28, s28 octet_Hex), (26, s26 octet_Put), (24, s24 octet_Unhex)]
theorem leads5 (R02_Get : (List UInt8) → Int → Int → Option (Int × Bool)) (R02_Hex : (List UInt8) → Option (List UInt8)) (R02_Put : Int → Int → Option (List UInt8)) (R02_Unhex : (List UInt8) → Option ((List UInt8) × Bool)) (law02_awake : Option Bool) (octet_Get : (List UInt8) → Int → Int → Option (Int × Bool)) (octet_Hex : (List UInt8) → Option (List UInt8)) (octet_Put : Int → Int → Option (List UInt8)) (octet_Unhex : (List UInt8) → Option ((List UInt8) × Bool)) (hS : SumsOK Try.prog (aget (sums5 R02_Get R02_Hex R02_Put R02_Unhex law02_awake octet_Get octet_Hex octet_Put octet_Unhex))) (n : Int) (k : Int) (s : List UInt8) (ata3 : Int) (res : Bool) (h : law02_OctetTellsF R02_Get R02_Hex R02_Put R02_Unhex law02_awake octet_Get octet_Hex octet_Put octet_Unhex n k s ata3 = some res) :
    Leads Try.prog 5 0 ⟨⟨5, 82, [(0, .int .u64 n), (1, .int .i64 k), (2, .string ⟨⟨s⟩⟩), (3, .int .i64 ata3)], [.code k5_17], [], false, none⟩, [], [], 0⟩ (fun v H _ => Res 0 (rx5 res) v H) := by
  unfold law02_OctetTellsF at h
  refine ev_ok tab_ok hS true 3000 ?_
  conv => whnf
  refine br.h h ?_ ?_ ?_
  · rfl
  · clear h; intro hb h; conv => whnf
    replace h := obind.elim h; obtain ⟨a, hy, h⟩ := h
    refine sumK.q rfl rfl (r21_eq hy) rfl rfl rfl ?_
    conv => whnf
    all_goals (cases h; exact Res.z rfl rfl rfl)
  clear h; intro hb h; conv => whnf
  replace h := obind.elim h; obtain ⟨xg, hy, h⟩ := h
  refine sumK.q rfl rfl (r22_eq hy) rfl rfl rfl ?_
  conv => whnf
  replace h := obind.elim h; obtain ⟨xg1, hy, h⟩ := h
  refine sumK.q rfl rfl (r23_eq hy) rfl rfl rfl ?_
  conv => whnf
  replace h := obind.elim h; obtain ⟨u, hy, h⟩ := h
  refine sumK.q rfl rfl (r24_eq hy) rfl rfl rfl ?_
  conv => whnf
  replace h := obind.elim h; obtain ⟨u1, hy, h⟩ := h
  refine sumK.q rfl rfl (r25_eq hy) rfl rfl rfl ?_
  conv => whnf
  replace h := obind.elim h; obtain ⟨p, hy, h⟩ := h
  refine sumK.q rfl rfl (r26_eq hy) rfl rfl rfl ?_
  conv => whnf
  replace h := obind.elim h; obtain ⟨p1, hy, h⟩ := h
  refine sumK.q rfl rfl (r27_eq hy) rfl rfl rfl ?_
  conv => whnf
  refine br.h2 h ?_ ?_ ?_
  · rfl
  · clear h; intro hb h; conv => whnf
    all_goals (cases h; exact Res.z rfl rfl rfl)
  clear h; intro hb h; conv => whnf
  refine br.h2 h ?_ ?_ ?_
  · rfl
  · clear h; intro hb h; conv => whnf
    all_goals (cases h; exact Res.z rfl rfl rfl)
  clear h; intro hb h; conv => whnf
  refine br.h2 h ?_ ?_ ?_
  · rfl
  · clear h; intro hb h; conv => whnf
    all_goals (cases h; exact Res.z rfl rfl rfl)
  clear h; intro hb h; conv => whnf
  replace h := obind.elim h; obtain ⟨xh, hy, h⟩ := h
  refine sumK.q rfl rfl (r28_eq hy) rfl rfl rfl ?_
  conv => whnf
  replace h := obind.elim h; obtain ⟨xh1, hy, h⟩ := h
  refine sumK.q rfl rfl (r29_eq hy) rfl rfl rfl ?_
  conv => whnf
  refine br.h2 h ?_ ?_ ?_
  · rfl
  · clear h; intro hb h; conv => whnf
    all_goals (cases h; exact Res.z rfl rfl rfl)
  clear h; intro hb h; conv => whnf
  refine br.h2 h ?_ ?_ ?_
  · rfl
  · clear h; intro hb h; conv => whnf
    all_goals (cases h; exact Res.z rfl rfl rfl)
  clear h; intro hb h; conv => whnf
  refine br.h2 h ?_ ?_ ?_
  · rfl
  · clear h; intro hb h; conv => whnf
    all_goals (cases h; exact Res.z rfl rfl rfl)
  clear h; intro hb h; conv => whnf
  replace h := obind.elim h; obtain ⟨a1, hy, h⟩ := h
  refine sumK.q rfl rfl (r21_eq hy) rfl rfl rfl ?_
  conv => whnf
  all_goals (cases h; exact Res.z rfl rfl rfl)
def law02_OctetTells : Int → Int → (List UInt8) → Int → Option Bool := law02_OctetTellsF R02_Get R02_Hex R02_Put R02_Unhex law02_awake octet_Get octet_Hex octet_Put octet_Unhex
end Go.Vm.Code
namespace Go.Vm.Code
open Go Go.Vm
theorem awake02 : law02_awake = some true := by decide +kernel
theorem octetTells (n k : Int) (s : List UInt8) (p : Int) (h0 : 0 ≤ n) (h1 : n < 2 ^ 64) : law02_OctetTells n k s p = some true := by
  unfold law02_OctetTells law02_OctetTellsF
  rw [awake02]
  by_cases g : 60 < s.length
  · rw [cond_p (by omega)]; rfl
  rw [cond_n (by omega), octet_Get_eq (by omega), R02_Get_eq (by omega), ounhex_eq (by omega), runhex_eq (by omega), octet_Put_eq h0, R02_Put_eq h0 h1, ohex_eq (by omega), rhex_eq (by omega)]
  simp only [Option.bind_some, beq_self_eq_true, cond_true]
end Go.Vm.Code
