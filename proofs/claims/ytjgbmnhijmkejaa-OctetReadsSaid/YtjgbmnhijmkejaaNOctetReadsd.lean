import Derived.Test.YtjgbmnhijmkejaaNOctetReadsc
namespace Go.Vm.Code
open Go Go.Vm Go.Proofs
set_option maxRecDepth 100000
set_option maxHeartbeats 4000000
set_option linter.unusedVariables false
def octet_Unhex_s1 (strings_IndexRune : (List UInt8) → Int → Option Int) (s : List UInt8) (xat : Int) (b : List Int) (c : Nat) : Option (Sum (Int × (List Int) × Nat) ((List UInt8) × Bool)) :=
  cond (decide (c < s.length))
    (
    (strings_IndexRune [48, 49, 50, 51, 52, 53, 54, 55, 56, 57, 97, 98, 99, 100, 101, 102] ((Utf8.decode ⟨⟨s⟩⟩ c).1 : Int)).bind fun i =>
    cond (decide (i < 0))
      (
      some (.inr (([], false))))
      (
      oreq (decide ((0 : Int) ≤ (wI .i64 (xat.tdiv 2)) ∧ (wI .i64 (xat.tdiv 2)) < ((wI .i64 ((s.length : Int).tdiv 2)).toNat : Int))) <|
      (b[(wI .i64 (xat.tdiv 2)).toNat]?).bind fun (e : Int) =>
      oreq (decide ((0 : Int) ≤ (wI .i64 (xat.tdiv 2)) ∧ (wI .i64 (xat.tdiv 2)) < ((wI .i64 ((s.length : Int).tdiv 2)).toNat : Int))) <|
      oreq (decide ((wI .i64 (xat.tdiv 2)).toNat < b.length)) <|
      let row := b.set (wI .i64 (xat.tdiv 2)).toNat (iorI .u8 (wI .u8 (e * 2 ^ 4)) (wI .u8 i))
      some (.inl (wI .i64 (xat + 1), row, c + (Utf8.decode ⟨⟨s⟩⟩ c).2))))
    (
    oreq (decide ((wI .i64 ((s.length : Int).tdiv 2)).toNat ≤ b.length)) <|
    let t := iB (b.take (wI .i64 ((s.length : Int).tdiv 2)).toNat)
    some (.inr ((t, true))))
def octet_UnhexF (strings_IndexRune : (List UInt8) → Int → Option Int) (s : List UInt8) : Option ((List UInt8) × Bool) :=
  cond (decide (((s.length : Int).tmod 2) > 0))
    (
    some (([], false)))
    (
    oreq (decide (0 ≤ (wI .i64 ((s.length : Int).tdiv 2)) ∧ (wI .i64 ((s.length : Int).tdiv 2)) ≤ (wI .i64 ((s.length : Int).tdiv 2)) ∧ (wI .i64 ((s.length : Int).tdiv 2)) < 2 ^ 63 ∧ (1 : Int) * (wI .i64 ((s.length : Int).tdiv 2)) ≤ 2 ^ 48)) <|
    iter (fun st => octet_Unhex_s1 strings_IndexRune s st.1 st.2.1 st.2.2) FUEL (0, List.replicate (wI .i64 ((s.length : Int).tdiv 2)).toNat (0), 0))
def rx24 (x : (List UInt8) × Bool) : SRes := ⟨.tuple ⟨[.string ⟨⟨x.1⟩⟩, .bool x.2]⟩, [], []⟩
def r24 (g : (List UInt8) → Option ((List UInt8) × Bool)) : Dec := dV asS fun (y0 : List UInt8) => dEnd (ofG (g y0) rx24)
theorem r24_c {g : (List UInt8) → Option ((List UInt8) × Bool)} {y0 : List UInt8} {x : (List UInt8) × Bool} (hx : g y0 = some x) : r24 g [.string ⟨⟨y0⟩⟩] [] = some (rx24 x) := (dV_eq (asS_c)).trans (ofG_eq hx)
def s24 (g : (List UInt8) → Option ((List UInt8) × Bool)) : Summ := ⟨[.v], r24 g⟩
theorem r24_eq {g : (List UInt8) → Option ((List UInt8) × Bool)} {y0 : List UInt8} {x : (List UInt8) × Bool} (hx : g y0 = some x) : (s24 g).run [.string ⟨⟨y0⟩⟩] [] = some (rx24 x) := r24_c hx
abbrev sums24 (strings_IndexRune : (List UInt8) → Int → Option Int) : List (Nat × Summ) := [(48, s48 strings_IndexRune)]
def head24_1 (s : List UInt8) (xat : Int) (b : List Int) (c : Nat) : VM :=
  ⟨⟨24, 43, [(4, .slice (some ⟨0, 0, none⟩) (wI .i64 ((s.length : Int).tdiv 2)).toNat 1), (5, .int .i64 xat), (18, .pointer (some ⟨1, 0, none⟩))], [.code k24_26, .inLoop k24_26, .inBlock 0, .code k24_31], [], false, none⟩, [], [(0, .row true (vI .u8 b)), (1, .siter ⟨⟨s⟩⟩ c)], 2⟩
theorem loop24_1 (strings_IndexRune : (List UInt8) → Int → Option Int) (hS : SumsOK Try.prog (aget (sums24 strings_IndexRune))) (s : List UInt8) (res : (List UInt8) × Bool) : ∀ fuel (st : Int × (List Int) × Nat) (o : (List UInt8) × Bool), iter (fun st => octet_Unhex_s1 strings_IndexRune s st.1 st.2.1 st.2.2) fuel st = some o → (o = res) →
    Leads Try.prog 24 0 (head24_1 s st.1 st.2.1 st.2.2) (fun v H _ => Res 0 (rx24 res) v H) := by
  intro fuel st o h hc
  refine iter_leads (head := fun st => head24_1 s st.1 st.2.1 st.2.2) (C := fun o => (o = res)) ?_ fuel st o h hc
  clear h hc o st fuel
  intro st o h hc
  obtain ⟨xat, b, c⟩ := st
  replace h : octet_Unhex_s1 strings_IndexRune s xat b c = some o := h
  show Leads Try.prog 24 0 (head24_1 s xat b c) (fun v H _ => Res 0 (rx24 res) v H)
  unfold octet_Unhex_s1 at h
  refine ev_ok tab_ok hS true 3000 ?_
  conv => whnf
  refine br.h2 h ?_ ?_ ?_
  · rfl
  · clear h; intro hb h; conv => whnf
    replace h := oreq.elim h; obtain ⟨hb, h⟩ := h
    refine req.intro (by (first | rfl | (simp [wI, vI, vB, vS, bI, oneC, addrBlk, cellsL, Value.cells] at *; omega) | (simp [vI, vB, vS, bI, oneC, addrBlk, cellsL, Value.cells] at *; omega) | (simp [vI, vB, vS, bI, oneC, addrBlk, cellsL, Value.cells] at *; done))) ?_
    conv => whnf
    refine pk_b2s ?_
    conv => whnf
    let t : List UInt8 := iB (b.take (wI .i64 ((s.length : Int).tdiv 2)).toNat)
    all_goals (cases h; cases hc; exact Res.z rfl rfl rfl)
  clear h; intro hb h; conv => whnf
  replace h := obind.elim h; obtain ⟨i, hy, h⟩ := h
  refine sumK.q rfl rfl (r48_eq hy) rfl rfl rfl ?_
  conv => whnf
  refine br.h h ?_ ?_ ?_
  · rfl
  · clear h; intro hb h; conv => whnf
    all_goals (cases h; cases hc; exact Res.z rfl rfl rfl)
  clear h; intro hb h; conv => whnf
  replace h := oreq.elim h; obtain ⟨hb, h⟩ := h
  first | (refine req.intro hb ?_; conv => whnf) | skip
  replace h := obind.elim h; obtain ⟨e, hy, h⟩ := h
  refine rd.I hy (by first | rfl | (rw [Nat.zero_add, Nat.mul_one]; try rfl; done) | omega) ?_
  conv => whnf
  replace h := oreq.elim h; obtain ⟨hb, h⟩ := h
  first | (refine req.intro hb ?_; conv => whnf) | skip
  replace h := oreq.elim h; obtain ⟨hb, h⟩ := h
  refine st_I hb (by first | rfl | (rw [Nat.zero_add, Nat.mul_one]; try rfl; done) | omega) ?_
  conv => whnf
  let row : List Int := b.set (wI .i64 (xat.tdiv 2)).toNat (iorI .u8 (wI .u8 (e * 2 ^ 4)) (wI .u8 i))
  cases h; simp only [Sum.elim_inl, head24_1] at hc
  exact lrA0 hc [(0, 0), (1, 1)] rfl
theorem leads24 (strings_IndexRune : (List UInt8) → Int → Option Int) (hS : SumsOK Try.prog (aget (sums24 strings_IndexRune))) (s : List UInt8) (res : (List UInt8) × Bool) (h : octet_UnhexF strings_IndexRune s = some res) :
    Leads Try.prog 24 0 ⟨⟨24, 43, [(0, .string ⟨⟨s⟩⟩)], [.code k24_36], [], false, none⟩, [], [], 0⟩ (fun v H _ => Res 0 (rx24 res) v H) := by
  unfold octet_UnhexF at h
  refine ev_ok tab_ok hS true 3000 ?_
  conv => whnf
  refine br.h h ?_ ?_ ?_
  · rfl
  · clear h; intro hb h; conv => whnf
    all_goals (cases h; exact Res.z rfl rfl rfl)
  clear h; intro hb h; conv => whnf
  replace h := oreq.elim h; obtain ⟨hb, h⟩ := h
  first | (refine req.intro hb ?_; conv => whnf) | skip
  refine pk_mkI ?_
  conv => whnf
  have hl := loop24_1 strings_IndexRune hS _ res _ _ _ h rfl; simp only [head24_1] at hl
  exact lrA0 hl [(0, 0), (1, 1)] rfl
theorem ok24 (strings_IndexRune : (List UInt8) → Int → Option Int) (hS : SumsOK Try.prog (aget (sums24 strings_IndexRune))) : SumOK Try.prog 24 (s24 (octet_UnhexF strings_IndexRune)) := by
  refine SumOK.of_leads tab_ok (fun ar os r ha hr => ?_) ⟨Try.f24, rfl, by decide, rfl⟩
  replace hr : r24 (octet_UnhexF strings_IndexRune) ar (conts os) = some r := hr
  unfold r24 at hr
  generalize hc : conts os = C at hr
  replace hr := dV.elim hr; obtain ⟨v0, l1, y0, rfl, e0, hr⟩ := hr; obtain rfl := asS_eq _ _ e0
  replace hr := dFin hr; obtain ⟨rfl, rfl, x, h, rfl⟩ := hr
  obtain rfl := kinds_nil hc
  exact ⟨_, rfl, leads24 strings_IndexRune hS _ x h⟩
def octet_Unhex : (List UInt8) → Option ((List UInt8) × Bool) := octet_UnhexF strings_IndexRune
theorem lift24 : SumOK Try.prog 24 (s24 octet_Unhex) := ok24 strings_IndexRune (SumsOK.of_tab ⟨lift48, trivial⟩)
def octet_Hex_s1 (s : List UInt8) (t9 : Int) (c : List Int) : Option (Sum (Int × (List Int)) (List UInt8)) :=
  cond (decide (t9 < (s.length : Int)))
    (
    oreq (decide ((0 : Int) ≤ t9 ∧ t9 < (s.length : Int))) <|
    ((bI s)[t9.toNat]?).bind fun (e1 : Int) =>
    oreq (decide (0 ≤ (e1.fdiv (2 ^ 4)))) <|
    ([48, 49, 50, 51, 52, 53, 54, 55, 56, 57, 97, 98, 99, 100, 101, 102][(e1.fdiv (2 ^ 4)).toNat]?).bind fun (b3 : UInt8) =>
    oreq (decide ((c.length + 1) * 1 ≤ 2 ^ 47)) <|
    let row1 := c ++ [(b3.toNat : Int)]
    oreq (decide (0 ≤ (andI .u8 e1 15))) <|
    ([48, 49, 50, 51, 52, 53, 54, 55, 56, 57, 97, 98, 99, 100, 101, 102][(andI .u8 e1 15).toNat]?).bind fun (b4 : UInt8) =>
    oreq (decide ((row1.length + 1) * 1 ≤ 2 ^ 47)) <|
    let row2 := row1 ++ [(b4.toNat : Int)]
    some (.inl (wI .i64 (t9 + 1), row2)))
    (
    oreq (decide (c.length < 2 ^ 63)) <|
    some (.inr (iB c)))
def octet_HexF (s : List UInt8) : Option (List UInt8) :=
  cond (decide (0 < (s.length : Int)))
    (
    oreq (decide ((0 : Int) ≤ (0 : Int) ∧ (0 : Int) < (s.length : Int))) <|
    ((bI s)[0]?).bind fun (e : Int) =>
    oreq (decide (0 ≤ (e.fdiv (2 ^ 4)))) <|
    ([48, 49, 50, 51, 52, 53, 54, 55, 56, 57, 97, 98, 99, 100, 101, 102][(e.fdiv (2 ^ 4)).toNat]?).bind fun (b : UInt8) =>
    oreq (decide (0 ≤ (andI .u8 e 15))) <|
    ([48, 49, 50, 51, 52, 53, 54, 55, 56, 57, 97, 98, 99, 100, 101, 102][(andI .u8 e 15).toNat]?).bind fun (b1 : UInt8) =>
    oreq (decide (([(b.toNat : Int)].length + 1) * 1 ≤ 2 ^ 47)) <|
    let row := [(b.toNat : Int)] ++ [(b1.toNat : Int)]
    iter (fun st => octet_Hex_s1 s st.1 st.2) FUEL (1, row))
    (
    some ([]))
def rx28 (x : List UInt8) : SRes := ⟨.string ⟨⟨x⟩⟩, [], []⟩
def r28 (g : (List UInt8) → Option (List UInt8)) : Dec := dV asS fun (y0 : List UInt8) => dEnd (ofG (g y0) rx28)
theorem r28_c {g : (List UInt8) → Option (List UInt8)} {y0 : List UInt8} {x : List UInt8} (hx : g y0 = some x) : r28 g [.string ⟨⟨y0⟩⟩] [] = some (rx28 x) := (dV_eq (asS_c)).trans (ofG_eq hx)
def s28 (g : (List UInt8) → Option (List UInt8)) : Summ := ⟨[.v], r28 g⟩
theorem r28_eq {g : (List UInt8) → Option (List UInt8)} {y0 : List UInt8} {x : List UInt8} (hx : g y0 = some x) : (s28 g).run [.string ⟨⟨y0⟩⟩] [] = some (rx28 x) := r28_c hx
abbrev sums28 : List (Nat × Summ) := []
def head28_1 (s : List UInt8) (t9 : Int) (c : List Int) : VM :=
  ⟨⟨28, 23, [(3, .pointer (some ⟨0, 0, none⟩)), (7, .slice (some ⟨1, 0, none⟩) s.length 1), (8, .int .i64 (s.length : Int)), (9, .int .i64 t9)], [.code k28_14, .inLoop k28_14, .inBlock 0, .code k28_19], [], false, none⟩, [], [(0, .ty 82 [.pointer (some ⟨0, 0, none⟩), .func (.method "") ⟨[.slice (some ⟨5, 0, none⟩) c.length 1]⟩ ⟨[]⟩]), (1, .row true (vI .u8 (bI s))), (5, .ty 5 (vI .u8 c))], 6⟩
theorem loop28_1 (hS : SumsOK Try.prog (aget (sums28))) (s : List UInt8) (res : List UInt8) : ∀ fuel (st : Int × (List Int)) (o : List UInt8), iter (fun st => octet_Hex_s1 s st.1 st.2) fuel st = some o → (o = res) →
    Leads Try.prog 28 0 (head28_1 s st.1 st.2) (fun v H _ => Res 0 (rx28 res) v H) := by
  intro fuel st o h hc
  refine iter_leads (head := fun st => head28_1 s st.1 st.2) (C := fun o => (o = res)) ?_ fuel st o h hc
  clear h hc o st fuel
  intro st o h hc
  obtain ⟨t9, c⟩ := st
  replace h : octet_Hex_s1 s t9 c = some o := h
  show Leads Try.prog 28 0 (head28_1 s t9 c) (fun v H _ => Res 0 (rx28 res) v H)
  unfold octet_Hex_s1 at h
  refine ev_ok tab_ok hS true 3000 ?_
  conv => whnf
  refine br.h2 h ?_ ?_ ?_
  · rfl
  · clear h; intro hb h; conv => whnf
    replace h := oreq.elim h; obtain ⟨hb, h⟩ := h
    refine req.intro (us_req rfl (by first | rfl | (simp; done)) (by first | rfl | omega | (simp; done) | (simp; omega) | (simp at *; omega)) (of_decide_eq_true hb)) ?_
    conv => whnf
    refine pk_us ?_
    conv => whnf
    all_goals (cases h; cases hc; exact Res.z rfl rfl rfl)
  clear h; intro hb h; conv => whnf
  replace h := oreq.elim h; obtain ⟨hb, h⟩ := h
  first | (refine req.intro hb ?_; conv => whnf) | skip
  replace h := obind.elim h; obtain ⟨e1, hy, h⟩ := h
  refine rd.I hy (by first | rfl | (rw [Nat.zero_add, Nat.mul_one]; try rfl; done) | omega) ?_
  conv => whnf
  replace h := oreq.elim h; obtain ⟨hb, h⟩ := h
  first | (refine req.intro hb ?_; conv => whnf) | skip
  replace h := obind.elim h; obtain ⟨b3, hy, h⟩ := h
  refine rdS.intro hy ?_
  conv => whnf
  replace h := oreq.elim h; obtain ⟨hb, h⟩ := h
  first | refine req.intro (apb_req (of_decide_eq_true hb) (by first | rfl | omega | (simp; done) | (simp; omega) | (simp at *; omega)) rfl rfl (by first | rfl | omega | (simp; done) | (simp; omega) | (simp at *; omega)) (by first | rfl | exact vI_one _ _ | exact vS_one _ | exact vB_one _ | exact vT_one (by first | exact coctet_Reader_one | exact cR02_Step_one | exact cR02_Reader_one) _ | (rw [ofBytes_vI]; exact vI_one _ _) | (simp [vI_one, vS_one, vB_one, vI_drop, vI_take, vS_drop, vS_take]; done) | (simp; exact List.all_eq_true.1 (vT_one (by first | exact coctet_Reader_one | exact cR02_Step_one | exact cR02_Reader_one) _))) rfl) ?_ | skip
  conv => whnf
  let row1 : List Int := c ++ [(b3.toNat : Int)]
  first | have hlen_row1 : row1.length = _ := List.length_append .. | skip
  refine pk_apW (xs := c) (ys := [(b3.toNat : Int)]) rfl (by first | rfl | omega | (simp; done) | (simp; omega) | (simp at *; omega)) (by first | rfl | omega | (simp; done) | (simp; omega) | (simp at *; omega)) ?_
  conv => whnf
  replace h := oreq.elim h; obtain ⟨hb, h⟩ := h
  first | (refine req.intro hb ?_; conv => whnf) | skip
  replace h := obind.elim h; obtain ⟨b4, hy, h⟩ := h
  refine rdS.intro hy ?_
  conv => whnf
  replace h := oreq.elim h; obtain ⟨hb, h⟩ := h
  first | refine req.intro (apb_req (of_decide_eq_true hb) (by first | rfl | omega | (simp; done) | (simp; omega) | (simp at *; omega)) rfl rfl (by first | rfl | omega | (simp; done) | (simp; omega) | (simp at *; omega)) (by first | rfl | exact vI_one _ _ | exact vS_one _ | exact vB_one _ | exact vT_one (by first | exact coctet_Reader_one | exact cR02_Step_one | exact cR02_Reader_one) _ | (rw [ofBytes_vI]; exact vI_one _ _) | (simp [vI_one, vS_one, vB_one, vI_drop, vI_take, vS_drop, vS_take]; done) | (simp; exact List.all_eq_true.1 (vT_one (by first | exact coctet_Reader_one | exact cR02_Step_one | exact cR02_Reader_one) _))) rfl) ?_ | skip
  conv => whnf
  let row2 : List Int := row1 ++ [(b4.toNat : Int)]
  first | have hlen_row2 : row2.length = _ := List.length_append .. | skip
  refine pk_apW (xs := row1) (ys := [(b4.toNat : Int)]) rfl (by first | rfl | omega | (simp; done) | (simp; omega) | (simp at *; omega)) (by first | rfl | omega | (simp; done) | (simp; omega) | (simp at *; omega)) ?_
  conv => whnf
  cases h; simp only [Sum.elim_inl, head28_1] at hc
  exact lrA0 hc [(0, 0), (1, 1), (5, 9)] rfl
theorem leads28 (hS : SumsOK Try.prog (aget (sums28))) (s : List UInt8) (res : List UInt8) (h : octet_HexF s = some res) :
    Leads Try.prog 28 0 ⟨⟨28, 23, [(0, .string ⟨⟨s⟩⟩)], [.code k28_22], [], false, none⟩, [], [], 0⟩ (fun v H _ => Res 0 (rx28 res) v H) := by
  unfold octet_HexF at h
  refine ev_ok tab_ok hS true 3000 ?_
  conv => whnf
  refine pk_s2b ?_
  conv => whnf
  refine ev_ok tab_ok hS true 3000 ?_
  conv => whnf
  refine br.h2 h ?_ ?_ ?_
  · rfl
  · clear h; intro hb h; conv => whnf
    all_goals (cases h; exact Res.z rfl rfl rfl)
  clear h; intro hb h; conv => whnf
  replace h := oreq.elim h; obtain ⟨hb, h⟩ := h
  first | (refine req.intro hb ?_; conv => whnf) | skip
  replace h := obind.elim h; obtain ⟨e, hy, h⟩ := h
  refine rd.I hy (by first | rfl | (rw [Nat.zero_add, Nat.mul_one]; try rfl; done) | omega) ?_
  conv => whnf
  replace h := oreq.elim h; obtain ⟨hb, h⟩ := h
  first | (refine req.intro hb ?_; conv => whnf) | skip
  replace h := obind.elim h; obtain ⟨b, hy, h⟩ := h
  refine rdS.intro hy ?_
  conv => whnf
  refine pk_ap0I (ys := [(b.toNat : Int)]) rfl (by first | rfl | omega | (simp; done) | (simp; omega) | (simp at *; omega)) ?_
  conv => whnf
  replace h := oreq.elim h; obtain ⟨hb, h⟩ := h
  first | (refine req.intro hb ?_; conv => whnf) | skip
  replace h := obind.elim h; obtain ⟨b1, hy, h⟩ := h
  refine rdS.intro hy ?_
  conv => whnf
  replace h := oreq.elim h; obtain ⟨hb, h⟩ := h
  first | refine req.intro (apb_req (of_decide_eq_true hb) (by first | rfl | omega | (simp; done) | (simp; omega) | (simp at *; omega)) rfl rfl (by first | rfl | omega | (simp; done) | (simp; omega) | (simp at *; omega)) (by first | rfl | exact vI_one _ _ | exact vS_one _ | exact vB_one _ | exact vT_one (by first | exact coctet_Reader_one | exact cR02_Step_one | exact cR02_Reader_one) _ | (rw [ofBytes_vI]; exact vI_one _ _) | (simp [vI_one, vS_one, vB_one, vI_drop, vI_take, vS_drop, vS_take]; done) | (simp; exact List.all_eq_true.1 (vT_one (by first | exact coctet_Reader_one | exact cR02_Step_one | exact cR02_Reader_one) _))) rfl) ?_ | skip
  conv => whnf
  let row : List Int := [(b.toNat : Int)] ++ [(b1.toNat : Int)]
  first | have hlen_row : row.length = _ := List.length_append .. | skip
  refine pk_apW (xs := [(b.toNat : Int)]) (ys := [(b1.toNat : Int)]) rfl (by first | rfl | omega | (simp; done) | (simp; omega) | (simp at *; omega)) (by first | rfl | omega | (simp; done) | (simp; omega) | (simp at *; omega)) ?_
  conv => whnf
  have hl := loop28_1 hS _ res _ _ _ h rfl; simp only [head28_1] at hl
  exact lrA0 hl [(0, 0), (1, 1), (5, 5)] rfl
theorem ok28 (hS : SumsOK Try.prog (aget (sums28))) : SumOK Try.prog 28 (s28 (octet_HexF)) := by
  refine SumOK.of_leads tab_ok (fun ar os r ha hr => ?_) ⟨Try.f28, rfl, by decide, rfl⟩
  replace hr : r28 (octet_HexF) ar (conts os) = some r := hr
  unfold r28 at hr
  generalize hc : conts os = C at hr
  replace hr := dV.elim hr; obtain ⟨v0, l1, y0, rfl, e0, hr⟩ := hr; obtain rfl := asS_eq _ _ e0
  replace hr := dFin hr; obtain ⟨rfl, rfl, x, h, rfl⟩ := hr
  obtain rfl := kinds_nil hc
  exact ⟨_, rfl, leads28 hS _ x h⟩
def octet_Hex : (List UInt8) → Option (List UInt8) := octet_HexF
theorem lift28 : SumOK Try.prog 28 (s28 octet_Hex) := ok28 (SumsOK.of_tab trivial)
def law02_awakeF (octet_Hex : (List UInt8) → Option (List UInt8)) (octet_New : (List UInt8) → Option octet_Reader) (octet_Put : Int → Int → Option (List UInt8)) (octet_Reader_Num : octet_Reader → Int → Option (Int × octet_Reader)) (octet_Reader_Num_nil : Int → Option Int) (octet_Unhex : (List UInt8) → Option ((List UInt8) × Bool)) : Option Bool :=
  (octet_Unhex [48, 71]).bind fun u =>
  (octet_Put 258 2).bind fun p =>
  cond (p == [1, 2])
    (
    (octet_Hex [102, 102]).bind fun xh =>
    cond (xh == [54, 54, 54, 54])
      (
      cond (!u.2)
        (
        (octet_New [97]).bind fun n =>
        (octet_Reader_Num n 1).bind fun n1 =>
        some (n1.1 == 97))
        (
        some (false)))
      (
      some (false)))
    (
    some (false))
def rx21 (x : Bool) : SRes := ⟨.bool x, [], []⟩
def r21 (g : Option Bool) : Dec := dEnd (ofG (g) rx21)
theorem r21_c {g : Option Bool} {x : Bool} (hx : g = some x) : r21 g [] [] = some (rx21 x) := ofG_eq hx
def s21 (g : Option Bool) : Summ := ⟨[], r21 g⟩
theorem r21_eq {g : Option Bool} {x : Bool} (hx : g = some x) : (s21 g).run [] [] = some (rx21 x) := r21_c hx
abbrev sums21 (octet_Hex : (List UInt8) → Option (List UInt8)) (octet_New : (List UInt8) → Option octet_Reader) (octet_Put : Int → Int → Option (List UInt8)) (octet_Reader_Num : octet_Reader → Int → Option (Int × octet_Reader)) (octet_Reader_Num_nil : Int → Option Int) (octet_Unhex : (List UInt8) → Option ((List UInt8) × Bool)) : List (Nat × Summ) := [(28, s28 octet_Hex), (30, s30 octet_New), (26, s26 octet_Put), (31, s31 octet_Reader_Num octet_Reader_Num_nil), (24, s24 octet_Unhex)]
theorem leads21 (octet_Hex : (List UInt8) → Option (List UInt8)) (octet_New : (List UInt8) → Option octet_Reader) (octet_Put : Int → Int → Option (List UInt8)) (octet_Reader_Num : octet_Reader → Int → Option (Int × octet_Reader)) (octet_Reader_Num_nil : Int → Option Int) (octet_Unhex : (List UInt8) → Option ((List UInt8) × Bool)) (hS : SumsOK Try.prog (aget (sums21 octet_Hex octet_New octet_Put octet_Reader_Num octet_Reader_Num_nil octet_Unhex))) (res : Bool) (h : law02_awakeF octet_Hex octet_New octet_Put octet_Reader_Num octet_Reader_Num_nil octet_Unhex = some res) :
    Leads Try.prog 21 0 ⟨⟨21, 22, [], [.code k21_5], [], false, none⟩, [], [], 0⟩ (fun v H _ => Res 0 (rx21 res) v H) := by
  unfold law02_awakeF at h
  refine ev_ok tab_ok hS true 3000 ?_
  conv => whnf
  replace h := obind.elim h; obtain ⟨u, hy, h⟩ := h
  refine sumK.q rfl rfl (r24_eq hy) rfl rfl rfl ?_
  conv => whnf
  replace h := obind.elim h; obtain ⟨p, hy, h⟩ := h
  refine sumK.q rfl rfl (r26_eq hy) rfl rfl rfl ?_
  conv => whnf
  refine br.h2 h ?_ ?_ ?_
  · rfl
  · clear h; intro hb h; conv => whnf
    all_goals (cases h; exact Res.z rfl rfl rfl)
  clear h; intro hb h; conv => whnf
  replace h := obind.elim h; obtain ⟨xh, hy, h⟩ := h
  refine sumK.q rfl rfl (r28_eq hy) rfl rfl rfl ?_
  conv => whnf
  refine br.h2 h ?_ ?_ ?_
  · rfl
  · clear h; intro hb h; conv => whnf
    all_goals (cases h; exact Res.z rfl rfl rfl)
  clear h; intro hb h; conv => whnf
  refine br.h2 h ?_ ?_ ?_
  · rfl
  · clear h; intro hb h; conv => whnf
    all_goals (cases h; exact Res.z rfl rfl rfl)
  clear h; intro hb h; conv => whnf
  replace h := obind.elim h; obtain ⟨n, hy, h⟩ := h
  refine sumK.introF [0] (sumRun_of (aqs := [.string ⟨⟨[97]⟩⟩]) (ws := []) (n := 1) (m := 0) (t' := 1) (ra_cons rfl rfl ra_nil) rfl (by rfl) (r30_eq hy) rfl rfl rfl rfl wb_nil (an_cons (rfl) an_nil) rfl) ?_
  conv => whnf
  replace h := obind.elim h; obtain ⟨n1, hy, h⟩ := h
  refine sumK.introF [0] (sumRun_of (aqs := [.pointer (some ⟨0, 0, none⟩), .int .i64 1]) (ws := [.win 0 0 3 true]) (n := 0) (m := 0) (t' := 1) (ra_cons rfl rfl (ra_cons rfl rfl ra_nil)) rfl (by rfl) (r31_eq hy) rfl rfl rfl rfl (wb_win rfl rfl rfl ⟨rfl, Nat.le_of_ble_eq_true rfl⟩ rfl rfl wb_nil) an_nil rfl) ?_
  conv => whnf
  all_goals (cases h; exact Res.z rfl rfl rfl)
theorem ok21 (octet_Hex : (List UInt8) → Option (List UInt8)) (octet_New : (List UInt8) → Option octet_Reader) (octet_Put : Int → Int → Option (List UInt8)) (octet_Reader_Num : octet_Reader → Int → Option (Int × octet_Reader)) (octet_Reader_Num_nil : Int → Option Int) (octet_Unhex : (List UInt8) → Option ((List UInt8) × Bool)) (hS : SumsOK Try.prog (aget (sums21 octet_Hex octet_New octet_Put octet_Reader_Num octet_Reader_Num_nil octet_Unhex))) : SumOK Try.prog 21 (s21 (law02_awakeF octet_Hex octet_New octet_Put octet_Reader_Num octet_Reader_Num_nil octet_Unhex)) := by
  refine SumOK.of_leads tab_ok (fun ar os r ha hr => ?_) ⟨Try.f21, rfl, by decide, rfl⟩
  replace hr : r21 (law02_awakeF octet_Hex octet_New octet_Put octet_Reader_Num octet_Reader_Num_nil octet_Unhex) ar (conts os) = some r := hr
  unfold r21 at hr
  generalize hc : conts os = C at hr
  replace hr := dFin hr; obtain ⟨rfl, rfl, x, h, rfl⟩ := hr
  obtain rfl := kinds_nil hc
  exact ⟨_, rfl, leads21 octet_Hex octet_New octet_Put octet_Reader_Num octet_Reader_Num_nil octet_Unhex hS x h⟩
def law02_awake : Option Bool := law02_awakeF octet_Hex octet_New octet_Put octet_Reader_Num octet_Reader_Num_nil octet_Unhex
theorem lift21 : SumOK Try.prog 21 (s21 law02_awake) := ok21 octet_Hex octet_New octet_Put octet_Reader_Num octet_Reader_Num_nil octet_Unhex (SumsOK.of_tab ⟨lift28, lift30, lift26, lift31, lift24, trivial⟩)
def R02_Reader_TextF (ra0 : R02_Reader) (n : Int) : Option ((List UInt8) × R02_Reader) :=
  cond (ra0.Bad)
    (
    some (([], R02_Reader.mk ra0.S true)))
    (
    cond (decide (n < 0))
      (
      some (([], R02_Reader.mk ra0.S true)))
      (
      cond (decide (n > (ra0.S.length : Int)))
        (
        some (([], R02_Reader.mk ra0.S true)))
        (
        oreq (decide ((0 : Int) ≤ n ∧ n ≤ (ra0.S.length : Int))) <|
        oreq (decide ((0 : Int) ≤ n ∧ n ≤ (ra0.S.length : Int))) <|
        let t := (ra0.S.drop n.toNat).take (ra0.S.length - n.toNat)
        some ((ra0.S.take n.toNat, R02_Reader.mk t ra0.Bad)))))
def rx34 (x : (List UInt8) × R02_Reader) : SRes := ⟨.string ⟨⟨x.1⟩⟩, [], [some [.string ⟨⟨x.2.S⟩⟩, .bool x.2.Bad]]⟩
def r34 (g : R02_Reader → Int → Option ((List UInt8) × R02_Reader)) : Dec := dPt 0 unR02_Reader fun (y0 : R02_Reader) => dV (asI .i64) fun (y1 : Int) => dEnd (ofG (g y0 y1) rx34)
theorem r34_c {g : R02_Reader → Int → Option ((List UInt8) × R02_Reader)} {y0 : R02_Reader} {y1 : Int} {x : (List UInt8) × R02_Reader} (hx : g y0 y1 = some x) : r34 g [.pointer (some ⟨0, 0, none⟩), .int .i64 y1] [some [.string ⟨⟨y0.S⟩⟩, .bool y0.Bad]] = some (rx34 x) := (dPt_eq (unR02_Reader_c _)).trans ((dV_eq (asI_c _)).trans (ofG_eq hx))
def s34 (g : R02_Reader → Int → Option ((List UInt8) × R02_Reader)) : Summ := ⟨[.pt 2, .v], r34 g⟩
theorem r34_eq {g : R02_Reader → Int → Option ((List UInt8) × R02_Reader)} {y0 : R02_Reader} {y1 : Int} {x : (List UInt8) × R02_Reader} (hx : g y0 y1 = some x) : (s34 g).run [.pointer (some ⟨0, 0, none⟩), .int .i64 y1] [some [.string ⟨⟨y0.S⟩⟩, .bool y0.Bad]] = some (rx34 x) := r34_c hx
abbrev sums34 : List (Nat × Summ) := []
theorem leads34 (hS : SumsOK Try.prog (aget (sums34))) (ra0 : R02_Reader) (n : Int) (res : (List UInt8) × R02_Reader) (h : R02_Reader_TextF ra0 n = some res) :
    Leads Try.prog 34 1 ⟨⟨34, 42, [(0, .pointer (some ⟨0, 0, none⟩)), (1, .int .i64 n)], [.code k34_15], [], false, none⟩, [], [(0, .cells [.string ⟨⟨ra0.S⟩⟩, .bool ra0.Bad])], 1⟩ (fun v H _ => Res 1 (rx34 res) v H) := by
  unfold R02_Reader_TextF at h
  refine ev_ok tab_ok hS true 3000 ?_
  conv => whnf
  refine br.h h ?_ ?_ ?_
  · rfl
  · clear h; intro hb h; conv => whnf
    all_goals (cases h)
    all_goals exact Res.of [] rfl nw_0 (by decide) js_0 (wr_s (rfl) (hs_cells rfl) wr_0)
  clear h; intro hb h; conv => whnf
  refine br.h h ?_ ?_ ?_
  · rfl
  · clear h; intro hb h; conv => whnf
    all_goals (cases h)
    all_goals exact Res.of [] rfl nw_0 (by decide) js_0 (wr_s (rfl) (hs_cells rfl) wr_0)
  clear h; intro hb h; conv => whnf
  refine br.h h ?_ ?_ ?_
  · rfl
  · clear h; intro hb h; conv => whnf
    all_goals (cases h)
    all_goals exact Res.of [] rfl nw_0 (by decide) js_0 (wr_s (rfl) (hs_cells rfl) wr_0)
  clear h; intro hb h; conv => whnf
  replace h := oreq.elim h; obtain ⟨hb, h⟩ := h
  first | (refine req.intro hb ?_; conv => whnf) | skip
  replace h := oreq.elim h; obtain ⟨hb, h⟩ := h
  first | (refine req.intro hb ?_; conv => whnf) | skip
  let t : List UInt8 := (ra0.S.drop n.toNat).take (ra0.S.length - n.toNat)
  all_goals (cases h)
  all_goals exact Res.of [] rfl nw_0 (by decide) js_0 (wr_s (rfl) (hs_cells rfl) wr_0)
theorem ok34 (hS : SumsOK Try.prog (aget (sums34))) : SumOK Try.prog 34 (s34 (R02_Reader_TextF)) := by
  refine SumOK.of_leads tab_ok (fun ar os r ha hr => ?_) ⟨Try.f34, rfl, by decide, rfl⟩
  replace hr : r34 (R02_Reader_TextF) ar (conts os) = some r := hr
  unfold r34 at hr
  generalize hc : conts os = C at hr
  have hq := dPt.elim hr; clear hr; obtain ⟨c0, l1, C, y0, rfl, rfl, e0, hr⟩ := hq; obtain rfl := unR02_Reader_eq _ _ e0
  replace hr := dV.elim hr; obtain ⟨v1, l2, y1, rfl, e1, hr⟩ := hr; obtain rfl := asI_eq _ _ _ e1
  replace hr := dFin hr; obtain ⟨rfl, rfl, x, h, rfl⟩ := hr
  obtain ⟨os, rfl, ha, hc⟩ := kinds_some ha hc
  obtain rfl := kinds_nil hc
  exact ⟨_, rfl, leads34 hS _ _ x h⟩
def R02_Reader_Text : R02_Reader → Int → Option ((List UInt8) × R02_Reader) := R02_Reader_TextF
theorem lift34 : SumOK Try.prog 34 (s34 R02_Reader_Text) := ok34 (SumsOK.of_tab trivial)
def R02_Reader_NumF (R02_Must : (List UInt8) → Int → Int → Option Int) (R02_Reader_Text : R02_Reader → Int → Option ((List UInt8) × R02_Reader)) (ra0 : R02_Reader) (k : Int) : Option (Int × R02_Reader) :=
  cond (decide (k < 1))
    (
    (R02_Reader_Text (R02_Reader.mk ra0.S true) k).bind fun t =>
    cond (t.2.Bad)
      (
      some ((0, t.2)))
      (
      (R02_Must t.1 0 k).bind fun m =>
      some ((m, t.2))))
    (
    cond (decide (k > 7))
      (
      (R02_Reader_Text (R02_Reader.mk ra0.S true) k).bind fun t1 =>
      cond (t1.2.Bad)
        (
        some ((0, t1.2)))
        (
        (R02_Must t1.1 0 k).bind fun m1 =>
        some ((m1, t1.2))))
      (
      (R02_Reader_Text ra0 k).bind fun t2 =>
      cond (t2.2.Bad)
        (
        some ((0, t2.2)))
        (
        (R02_Must t2.1 0 k).bind fun m2 =>
        some ((m2, t2.2)))))
def rx32 (x : Int × R02_Reader) : SRes := ⟨.int .i64 x.1, [], [some [.string ⟨⟨x.2.S⟩⟩, .bool x.2.Bad]]⟩
def r32 (g : R02_Reader → Int → Option (Int × R02_Reader)) : Dec := dPt 0 unR02_Reader fun (y0 : R02_Reader) => dV (asI .i64) fun (y1 : Int) => dEnd (ofG (g y0 y1) rx32)
theorem r32_c {g : R02_Reader → Int → Option (Int × R02_Reader)} {y0 : R02_Reader} {y1 : Int} {x : Int × R02_Reader} (hx : g y0 y1 = some x) : r32 g [.pointer (some ⟨0, 0, none⟩), .int .i64 y1] [some [.string ⟨⟨y0.S⟩⟩, .bool y0.Bad]] = some (rx32 x) := (dPt_eq (unR02_Reader_c _)).trans ((dV_eq (asI_c _)).trans (ofG_eq hx))
def s32 (g : R02_Reader → Int → Option (Int × R02_Reader)) : Summ := ⟨[.pt 2, .v], r32 g⟩
theorem r32_eq {g : R02_Reader → Int → Option (Int × R02_Reader)} {y0 : R02_Reader} {y1 : Int} {x : Int × R02_Reader} (hx : g y0 y1 = some x) : (s32 g).run [.pointer (some ⟨0, 0, none⟩), .int .i64 y1] [some [.string ⟨⟨y0.S⟩⟩, .bool y0.Bad]] = some (rx32 x) := r32_c hx
abbrev sums32 (R02_Must : (List UInt8) → Int → Int → Option Int) (R02_Reader_Text : R02_Reader → Int → Option ((List UInt8) × R02_Reader)) : List (Nat × Summ) := [(53, s53 R02_Must), (34, s34 R02_Reader_Text)]
theorem leads32 (R02_Must : (List UInt8) → Int → Int → Option Int) (R02_Reader_Text : R02_Reader → Int → Option ((List UInt8) × R02_Reader)) (hS : SumsOK Try.prog (aget (sums32 R02_Must R02_Reader_Text))) (ra0 : R02_Reader) (k : Int) (res : Int × R02_Reader) (h : R02_Reader_NumF R02_Must R02_Reader_Text ra0 k = some res) :
    Leads Try.prog 32 1 ⟨⟨32, 25, [(0, .pointer (some ⟨0, 0, none⟩)), (1, .int .i64 k)], [.code k32_16], [], false, none⟩, [], [(0, .cells [.string ⟨⟨ra0.S⟩⟩, .bool ra0.Bad])], 1⟩ (fun v H _ => Res 1 (rx32 res) v H) := by
  unfold R02_Reader_NumF at h
  refine ev_ok tab_ok hS true 3000 ?_
  conv => whnf
  refine br.h h ?_ ?_ ?_
  · rfl
  · clear h; intro hb h; conv => whnf
    replace h := obind.elim h; obtain ⟨t, hy, h⟩ := h
    refine sumK.introF [0] (sumRun_of (aqs := [.pointer (some ⟨0, 0, none⟩), .int .i64 k]) (ws := [.win 0 0 2 true]) (n := 0) (m := 0) (t' := 1) (ra_cons rfl rfl (ra_cons rfl rfl ra_nil)) rfl (by rfl) (r34_eq hy) rfl rfl rfl rfl (wb_win rfl rfl rfl ⟨rfl, Nat.le_of_ble_eq_true rfl⟩ rfl rfl wb_nil) an_nil rfl) ?_
    conv => whnf
    refine br.h h ?_ ?_ ?_
    · rfl
    · clear h; intro hb h; conv => whnf
      all_goals (cases h)
      all_goals exact Res.of [] rfl nw_0 (by decide) js_0 (wr_s (rfl) (hs_cells rfl) wr_0)
    clear h; intro hb h; conv => whnf
    replace h := obind.elim h; obtain ⟨m, hy, h⟩ := h
    refine sumK.q rfl rfl (r53_eq hy) rfl rfl rfl ?_
    conv => whnf
    all_goals (cases h)
    all_goals exact Res.of [] rfl nw_0 (by decide) js_0 (wr_s (rfl) (hs_cells rfl) wr_0)
  clear h; intro hb h; conv => whnf
  refine br.h h ?_ ?_ ?_
  · rfl
  · clear h; intro hb h; conv => whnf
    replace h := obind.elim h; obtain ⟨t1, hy, h⟩ := h
    refine sumK.introF [0] (sumRun_of (aqs := [.pointer (some ⟨0, 0, none⟩), .int .i64 k]) (ws := [.win 0 0 2 true]) (n := 0) (m := 0) (t' := 1) (ra_cons rfl rfl (ra_cons rfl rfl ra_nil)) rfl (by rfl) (r34_eq hy) rfl rfl rfl rfl (wb_win rfl rfl rfl ⟨rfl, Nat.le_of_ble_eq_true rfl⟩ rfl rfl wb_nil) an_nil rfl) ?_
    conv => whnf
    refine br.h h ?_ ?_ ?_
    · rfl
    · clear h; intro hb h; conv => whnf
      all_goals (cases h)
      all_goals exact Res.of [] rfl nw_0 (by decide) js_0 (wr_s (rfl) (hs_cells rfl) wr_0)
    clear h; intro hb h; conv => whnf
    replace h := obind.elim h; obtain ⟨m1, hy, h⟩ := h
    refine sumK.q rfl rfl (r53_eq hy) rfl rfl rfl ?_
    conv => whnf
    all_goals (cases h)
    all_goals exact Res.of [] rfl nw_0 (by decide) js_0 (wr_s (rfl) (hs_cells rfl) wr_0)
  clear h; intro hb h; conv => whnf
  replace h := obind.elim h; obtain ⟨t2, hy, h⟩ := h
  refine sumK.introF [0] (sumRun_of (aqs := [.pointer (some ⟨0, 0, none⟩), .int .i64 k]) (ws := [.win 0 0 2 true]) (n := 0) (m := 0) (t' := 1) (ra_cons rfl rfl (ra_cons rfl rfl ra_nil)) rfl (by rfl) (r34_eq hy) rfl rfl rfl rfl (wb_win rfl rfl rfl ⟨rfl, Nat.le_of_ble_eq_true rfl⟩ rfl rfl wb_nil) an_nil rfl) ?_
  conv => whnf
  refine br.h h ?_ ?_ ?_
  · rfl
  · clear h; intro hb h; conv => whnf
    all_goals (cases h)
    all_goals exact Res.of [] rfl nw_0 (by decide) js_0 (wr_s (rfl) (hs_cells rfl) wr_0)
  clear h; intro hb h; conv => whnf
  replace h := obind.elim h; obtain ⟨m2, hy, h⟩ := h
  refine sumK.q rfl rfl (r53_eq hy) rfl rfl rfl ?_
  conv => whnf
  all_goals (cases h)
  all_goals exact Res.of [] rfl nw_0 (by decide) js_0 (wr_s (rfl) (hs_cells rfl) wr_0)
theorem ok32 (R02_Must : (List UInt8) → Int → Int → Option Int) (R02_Reader_Text : R02_Reader → Int → Option ((List UInt8) × R02_Reader)) (hS : SumsOK Try.prog (aget (sums32 R02_Must R02_Reader_Text))) : SumOK Try.prog 32 (s32 (R02_Reader_NumF R02_Must R02_Reader_Text)) := by
  refine SumOK.of_leads tab_ok (fun ar os r ha hr => ?_) ⟨Try.f32, rfl, by decide, rfl⟩
  replace hr : r32 (R02_Reader_NumF R02_Must R02_Reader_Text) ar (conts os) = some r := hr
  unfold r32 at hr
  generalize hc : conts os = C at hr
  have hq := dPt.elim hr; clear hr; obtain ⟨c0, l1, C, y0, rfl, rfl, e0, hr⟩ := hq; obtain rfl := unR02_Reader_eq _ _ e0
  replace hr := dV.elim hr; obtain ⟨v1, l2, y1, rfl, e1, hr⟩ := hr; obtain rfl := asI_eq _ _ _ e1
  replace hr := dFin hr; obtain ⟨rfl, rfl, x, h, rfl⟩ := hr
  obtain ⟨os, rfl, ha, hc⟩ := kinds_some ha hc
  obtain rfl := kinds_nil hc
  exact ⟨_, rfl, leads32 R02_Must R02_Reader_Text hS _ _ x h⟩
def R02_Reader_Num : R02_Reader → Int → Option (Int × R02_Reader) := R02_Reader_NumF R02_Must R02_Reader_Text
theorem lift32 : SumOK Try.prog 32 (s32 R02_Reader_Num) := ok32 R02_Must R02_Reader_Text (SumsOK.of_tab ⟨lift53, lift34, trivial⟩)
def R02_Reader_RestF (R02_Reader_Text : R02_Reader → Int → Option ((List UInt8) × R02_Reader)) (ra0 : R02_Reader) : Option ((List UInt8) × R02_Reader) :=
  cond (ra0.Bad)
    (
    some (([], ra0)))
    (
    (R02_Reader_Text ra0 (ra0.S.length : Int)).bind fun t =>
    some ((t.1, t.2)))
def rx36 (x : (List UInt8) × R02_Reader) : SRes := ⟨.string ⟨⟨x.1⟩⟩, [], [some [.string ⟨⟨x.2.S⟩⟩, .bool x.2.Bad]]⟩
def r36 (g : R02_Reader → Option ((List UInt8) × R02_Reader)) : Dec := dPt 0 unR02_Reader fun (y0 : R02_Reader) => dEnd (ofG (g y0) rx36)
theorem r36_c {g : R02_Reader → Option ((List UInt8) × R02_Reader)} {y0 : R02_Reader} {x : (List UInt8) × R02_Reader} (hx : g y0 = some x) : r36 g [.pointer (some ⟨0, 0, none⟩)] [some [.string ⟨⟨y0.S⟩⟩, .bool y0.Bad]] = some (rx36 x) := (dPt_eq (unR02_Reader_c _)).trans (ofG_eq hx)
def s36 (g : R02_Reader → Option ((List UInt8) × R02_Reader)) : Summ := ⟨[.pt 2], r36 g⟩
theorem r36_eq {g : R02_Reader → Option ((List UInt8) × R02_Reader)} {y0 : R02_Reader} {x : (List UInt8) × R02_Reader} (hx : g y0 = some x) : (s36 g).run [.pointer (some ⟨0, 0, none⟩)] [some [.string ⟨⟨y0.S⟩⟩, .bool y0.Bad]] = some (rx36 x) := r36_c hx
abbrev sums36 (R02_Reader_Text : R02_Reader → Int → Option ((List UInt8) × R02_Reader)) : List (Nat × Summ) := [(34, s34 R02_Reader_Text)]
theorem leads36 (R02_Reader_Text : R02_Reader → Int → Option ((List UInt8) × R02_Reader)) (hS : SumsOK Try.prog (aget (sums36 R02_Reader_Text))) (ra0 : R02_Reader) (res : (List UInt8) × R02_Reader) (h : R02_Reader_RestF R02_Reader_Text ra0 = some res) :
    Leads Try.prog 36 1 ⟨⟨36, 14, [(0, .pointer (some ⟨0, 0, none⟩))], [.code k36_9], [], false, none⟩, [], [(0, .cells [.string ⟨⟨ra0.S⟩⟩, .bool ra0.Bad])], 1⟩ (fun v H _ => Res 1 (rx36 res) v H) := by
  unfold R02_Reader_RestF at h
  refine ev_ok tab_ok hS true 3000 ?_
  conv => whnf
  refine br.h h ?_ ?_ ?_
  · rfl
  · clear h; intro hb h; conv => whnf
    all_goals (cases h)
    all_goals exact Res.of [] rfl nw_0 (by decide) js_0 (wr_s (rfl) (hs_cells rfl) wr_0)
  clear h; intro hb h; conv => whnf
  replace h := obind.elim h; obtain ⟨t, hy, h⟩ := h
  refine sumK.introF [0] (sumRun_of (aqs := [.pointer (some ⟨0, 0, none⟩), .int .i64 (ra0.S.length : Int)]) (ws := [.win 0 0 2 true]) (n := 0) (m := 0) (t' := 1) (ra_cons rfl rfl (ra_cons rfl rfl ra_nil)) rfl (by rfl) (r34_eq hy) rfl rfl rfl rfl (wb_win rfl rfl rfl ⟨rfl, Nat.le_of_ble_eq_true rfl⟩ rfl rfl wb_nil) an_nil rfl) ?_
  conv => whnf
  all_goals (cases h)
  all_goals exact Res.of [] rfl nw_0 (by decide) js_0 (wr_s (rfl) (hs_cells rfl) wr_0)
theorem ok36 (R02_Reader_Text : R02_Reader → Int → Option ((List UInt8) × R02_Reader)) (hS : SumsOK Try.prog (aget (sums36 R02_Reader_Text))) : SumOK Try.prog 36 (s36 (R02_Reader_RestF R02_Reader_Text)) := by
  refine SumOK.of_leads tab_ok (fun ar os r ha hr => ?_) ⟨Try.f36, rfl, by decide, rfl⟩
  replace hr : r36 (R02_Reader_RestF R02_Reader_Text) ar (conts os) = some r := hr
  unfold r36 at hr
  generalize hc : conts os = C at hr
  have hq := dPt.elim hr; clear hr; obtain ⟨c0, l1, C, y0, rfl, rfl, e0, hr⟩ := hq; obtain rfl := unR02_Reader_eq _ _ e0
  replace hr := dFin hr; obtain ⟨rfl, rfl, x, h, rfl⟩ := hr
  obtain ⟨os, rfl, ha, hc⟩ := kinds_some ha hc
  obtain rfl := kinds_nil hc
  exact ⟨_, rfl, leads36 R02_Reader_Text hS _ x h⟩
def R02_Reader_Rest : R02_Reader → Option ((List UInt8) × R02_Reader) := R02_Reader_RestF R02_Reader_Text
theorem lift36 : SumOK Try.prog 36 (s36 R02_Reader_Rest) := ok36 R02_Reader_Text (SumsOK.of_tab ⟨lift34, trivial⟩)
def law02_OctetReads_s1 (R02_Reader_Num : R02_Reader → Int → Option (Int × R02_Reader)) (R02_Reader_Rest : R02_Reader → Option ((List UInt8) × R02_Reader)) (R02_Reader_Text : R02_Reader → Int → Option ((List UInt8) × R02_Reader)) (law02_awake : Option Bool) (octet_Reader_Bad : octet_Reader → Option (Bool × octet_Reader)) (octet_Reader_Bad_nil : Option Bool) (octet_Reader_Num : octet_Reader → Int → Option (Int × octet_Reader)) (octet_Reader_Num_nil : Int → Option Int) (octet_Reader_Rest : octet_Reader → Option ((List UInt8) × octet_Reader)) (octet_Reader_Rest_nil : Option (List UInt8)) (octet_Reader_Text : octet_Reader → Int → Option ((List UInt8) × octet_Reader)) (octet_Reader_Text_nil : Int → Option (List UInt8)) (l : List R02_Step) (i : Int) (xr : List UInt8) (xr1 : Bool) (xr2 : Bool) (x : List UInt8) (x1 : Bool) : Option (Sum (Int × (List UInt8) × Bool × Bool × (List UInt8) × Bool) Bool) :=
  cond (decide (i < (l.length : Int)))
    (
    oreq (decide ((0 : Int) ≤ i ∧ i < (l.length : Int))) <|
    (l[i.toNat]?).bind fun (e : R02_Step) =>
    cond (e.Kind == 0)
      (
      oreq (decide ((0 : Int) ≤ i ∧ i < (l.length : Int))) <|
      (octet_Reader_Num (octet_Reader.mk xr xr1 xr2) e.N).bind fun n1 =>
      oreq (decide ((0 : Int) ≤ i ∧ i < (l.length : Int))) <|
      (R02_Reader_Num (R02_Reader.mk x x1) e.N).bind fun n2 =>
      cond (n1.1 != n2.1)
        (
        some (.inr (false)))
        (
        (octet_Reader_Bad n1.2).bind fun b =>
        cond (!(b.1 == n2.2.Bad))
          (
          some (.inr (false)))
          (
          some (.inl (wI .i64 (i + 1), b.2.s, b.2.made, b.2.bad, n2.2.S, n2.2.Bad)))))
      (
      cond (e.Kind == 1)
        (
        oreq (decide ((0 : Int) ≤ i ∧ i < (l.length : Int))) <|
        (octet_Reader_Text (octet_Reader.mk xr xr1 xr2) e.N).bind fun t =>
        oreq (decide ((0 : Int) ≤ i ∧ i < (l.length : Int))) <|
        (R02_Reader_Text (R02_Reader.mk x x1) e.N).bind fun t1 =>
        cond (!(t.1 == t1.1))
          (
          some (.inr (false)))
          (
          (octet_Reader_Bad t.2).bind fun b1 =>
          cond (!(b1.1 == t1.2.Bad))
            (
            some (.inr (false)))
            (
            some (.inl (wI .i64 (i + 1), b1.2.s, b1.2.made, b1.2.bad, t1.2.S, t1.2.Bad)))))
        (
        (octet_Reader_Rest (octet_Reader.mk xr xr1 xr2)).bind fun xr3 =>
        (R02_Reader_Rest (R02_Reader.mk x x1)).bind fun xr4 =>
        cond (!(xr3.1 == xr4.1))
          (
          some (.inr (false)))
          (
          (octet_Reader_Bad xr3.2).bind fun b2 =>
          cond (!(b2.1 == xr4.2.Bad))
            (
            some (.inr (false)))
            (
            some (.inl (wI .i64 (i + 1), b2.2.s, b2.2.made, b2.2.bad, xr4.2.S, xr4.2.Bad)))))))
    (
    (octet_Reader_Num_nil 1).bind fun n3 =>
    cond (n3 == 0)
      (
      (octet_Reader_Text_nil 0).bind fun n4 =>
      cond (n4 == [])
        (
        (octet_Reader_Rest_nil).bind fun n5 =>
        cond (n5 == [])
          (
          (octet_Reader_Bad_nil).bind fun n6 =>
          cond (n6)
            (
            (octet_Reader_Text (octet_Reader.mk [] false false) 0).bind fun t2 =>
            cond (t2.1 == [])
              (
              (octet_Reader_Bad t2.2).bind fun b3 =>
              cond (b3.1)
                (
                (law02_awake).bind fun a2 =>
                some (.inr (a2)))
                (
                some (.inr (false))))
              (
              some (.inr (false))))
            (
            some (.inr (false))))
          (
          some (.inr (false))))
        (
        some (.inr (false))))
      (
      some (.inr (false))))
def law02_OctetReadsF (R02_Reader_Num : R02_Reader → Int → Option (Int × R02_Reader)) (R02_Reader_Rest : R02_Reader → Option ((List UInt8) × R02_Reader)) (R02_Reader_Text : R02_Reader → Int → Option ((List UInt8) × R02_Reader)) (law02_awake : Option Bool) (octet_New : (List UInt8) → Option octet_Reader) (octet_Reader_Bad : octet_Reader → Option (Bool × octet_Reader)) (octet_Reader_Bad_nil : Option Bool) (octet_Reader_Num : octet_Reader → Int → Option (Int × octet_Reader)) (octet_Reader_Num_nil : Int → Option Int) (octet_Reader_Rest : octet_Reader → Option ((List UInt8) × octet_Reader)) (octet_Reader_Rest_nil : Option (List UInt8)) (octet_Reader_Text : octet_Reader → Int → Option ((List UInt8) × octet_Reader)) (octet_Reader_Text_nil : Int → Option (List UInt8)) (s : List UInt8) (l : List R02_Step) : Option Bool :=
  cond (decide ((s.length : Int) > 60))
    (
    (law02_awake).bind fun a =>
    some (a))
    (
    cond (decide ((l.length : Int) > 20))
      (
      (law02_awake).bind fun a1 =>
      some (a1))
      (
      (octet_New s).bind fun n =>
      iter (fun st => law02_OctetReads_s1 R02_Reader_Num R02_Reader_Rest R02_Reader_Text law02_awake octet_Reader_Bad octet_Reader_Bad_nil octet_Reader_Num octet_Reader_Num_nil octet_Reader_Rest octet_Reader_Rest_nil octet_Reader_Text octet_Reader_Text_nil l st.1 st.2.1 st.2.2.1 st.2.2.2.1 st.2.2.2.2.1 st.2.2.2.2.2) FUEL (0, n.s, n.made, n.bad, s, false)))
def rx7 (x : Bool) : SRes := ⟨.bool x, [], [none]⟩
abbrev sums7 (R02_Reader_Num : R02_Reader → Int → Option (Int × R02_Reader)) (R02_Reader_Rest : R02_Reader → Option ((List UInt8) × R02_Reader)) (R02_Reader_Text : R02_Reader → Int → Option ((List UInt8) × R02_Reader)) (law02_awake : Option Bool) (octet_New : (List UInt8) → Option octet_Reader) (octet_Reader_Bad : octet_Reader → Option (Bool × octet_Reader)) (octet_Reader_Bad_nil : Option Bool) (octet_Reader_Num : octet_Reader → Int → Option (Int × octet_Reader)) (octet_Reader_Num_nil : Int → Option Int) (octet_Reader_Rest : octet_Reader → Option ((List UInt8) × octet_Reader)) (octet_Reader_Rest_nil : Option (List UInt8)) (octet_Reader_Text : octet_Reader → Int → Option ((List UInt8) × octet_Reader)) (octet_Reader_Text_nil : Int → Option (List UInt8)) : List (Nat × Summ) := [(32, s32 R02_Reader_Num), (36, s36 R02_Reader_Rest), (34, s34 R02_Reader_Text), (21, s21 law02_awake), (30, s30 octet_New), (37, s37 octet_Reader_Bad octet_Reader_Bad_nil), (31, s31 octet_Reader_Num octet_Reader_Num_nil), (35, s35 octet_Reader_Rest octet_Reader_Rest_nil), (33, s33 octet_Reader_Text octet_Reader_Text_nil)]
def head7_1 (l : List R02_Step) (i : Int) (xr : List UInt8) (xr1 : Bool) (xr2 : Bool) (x : List UInt8) (x1 : Bool) : VM :=
  ⟨⟨7, 112, [(1, .slice (some ⟨0, 0, none⟩) l.length 2), (5, .pointer (some ⟨1, 0, none⟩)), (6, .pointer (some ⟨2, 0, none⟩)), (7, .int .i64 i)], [.code k7_44, .inLoop k7_44, .inBlock 0, .code k7_53], [], false, none⟩, [], [(0, .row false (vT cR02_Step l)), (1, .row true [.string ⟨⟨xr⟩⟩, .bool xr1, .bool xr2]), (2, .cells [.string ⟨⟨x⟩⟩, .bool x1])], 3⟩
theorem loop7_1 (R02_Reader_Num : R02_Reader → Int → Option (Int × R02_Reader)) (R02_Reader_Rest : R02_Reader → Option ((List UInt8) × R02_Reader)) (R02_Reader_Text : R02_Reader → Int → Option ((List UInt8) × R02_Reader)) (law02_awake : Option Bool) (octet_New : (List UInt8) → Option octet_Reader) (octet_Reader_Bad : octet_Reader → Option (Bool × octet_Reader)) (octet_Reader_Bad_nil : Option Bool) (octet_Reader_Num : octet_Reader → Int → Option (Int × octet_Reader)) (octet_Reader_Num_nil : Int → Option Int) (octet_Reader_Rest : octet_Reader → Option ((List UInt8) × octet_Reader)) (octet_Reader_Rest_nil : Option (List UInt8)) (octet_Reader_Text : octet_Reader → Int → Option ((List UInt8) × octet_Reader)) (octet_Reader_Text_nil : Int → Option (List UInt8)) (hS : SumsOK Try.prog (aget (sums7 R02_Reader_Num R02_Reader_Rest R02_Reader_Text law02_awake octet_New octet_Reader_Bad octet_Reader_Bad_nil octet_Reader_Num octet_Reader_Num_nil octet_Reader_Rest octet_Reader_Rest_nil octet_Reader_Text octet_Reader_Text_nil))) (l : List R02_Step) (res : Bool) : ∀ fuel (st : Int × (List UInt8) × Bool × Bool × (List UInt8) × Bool) (o : Bool), iter (fun st => law02_OctetReads_s1 R02_Reader_Num R02_Reader_Rest R02_Reader_Text law02_awake octet_Reader_Bad octet_Reader_Bad_nil octet_Reader_Num octet_Reader_Num_nil octet_Reader_Rest octet_Reader_Rest_nil octet_Reader_Text octet_Reader_Text_nil l st.1 st.2.1 st.2.2.1 st.2.2.2.1 st.2.2.2.2.1 st.2.2.2.2.2) fuel st = some o → (o = res) →
    Leads Try.prog 7 1 (head7_1 l st.1 st.2.1 st.2.2.1 st.2.2.2.1 st.2.2.2.2.1 st.2.2.2.2.2) (fun v H _ => Res 1 (rx7 res) v H) := by
  intro fuel st o h hc
  refine iter_leads (head := fun st => head7_1 l st.1 st.2.1 st.2.2.1 st.2.2.2.1 st.2.2.2.2.1 st.2.2.2.2.2) (C := fun o => (o = res)) ?_ fuel st o h hc
  clear h hc o st fuel
  intro st o h hc
  obtain ⟨i, xr, xr1, xr2, x, x1⟩ := st
  replace h : law02_OctetReads_s1 R02_Reader_Num R02_Reader_Rest R02_Reader_Text law02_awake octet_Reader_Bad octet_Reader_Bad_nil octet_Reader_Num octet_Reader_Num_nil octet_Reader_Rest octet_Reader_Rest_nil octet_Reader_Text octet_Reader_Text_nil l i xr xr1 xr2 x x1 = some o := h
  show Leads Try.prog 7 1 (head7_1 l i xr xr1 xr2 x x1) (fun v H _ => Res 1 (rx7 res) v H)
  unfold law02_OctetReads_s1 at h
  refine ev_ok tab_ok hS true 3000 ?_
  conv => whnf
  refine br.h2 h ?_ ?_ ?_
  · rfl
  · clear h; intro hb h; conv => whnf
    replace h := obind.elim h; obtain ⟨n3, hy, h⟩ := h
    refine sumK.introF [] (sumRun_of (aqs := [.pointer none, .int .i64 1]) (ws := [.no]) (n := 0) (m := 0) (t' := 4) (ra_cons rfl rfl (ra_cons rfl rfl ra_nil)) rfl (by rfl) (r31n_eq hy) rfl rfl rfl rfl (wb_skip rfl wb_nil) an_nil rfl) ?_
    conv => whnf
    refine br.h2 h ?_ ?_ ?_
    · rfl
    · clear h; intro hb h; conv => whnf
      all_goals (cases h; cases hc)
      all_goals exact Res.of [] rfl nw_0 (by decide) js_0 (wr_n wr_0)
    clear h; intro hb h; conv => whnf
    replace h := obind.elim h; obtain ⟨n4, hy, h⟩ := h
    refine sumK.introF [] (sumRun_of (aqs := [.pointer none, .int .i64 0]) (ws := [.no]) (n := 0) (m := 0) (t' := 4) (ra_cons rfl rfl (ra_cons rfl rfl ra_nil)) rfl (by rfl) (r33n_eq hy) rfl rfl rfl rfl (wb_skip rfl wb_nil) an_nil rfl) ?_
    conv => whnf
    refine br.h2 h ?_ ?_ ?_
    · rfl
    · clear h; intro hb h; conv => whnf
      all_goals (cases h; cases hc)
      all_goals exact Res.of [] rfl nw_0 (by decide) js_0 (wr_n wr_0)
    clear h; intro hb h; conv => whnf
    replace h := obind.elim h; obtain ⟨n5, hy, h⟩ := h
    refine sumK.introF [] (sumRun_of (aqs := [.pointer none]) (ws := [.no]) (n := 0) (m := 0) (t' := 4) (ra_cons rfl rfl ra_nil) rfl (by rfl) (r35n_eq hy) rfl rfl rfl rfl (wb_skip rfl wb_nil) an_nil rfl) ?_
    conv => whnf
    refine br.h2 h ?_ ?_ ?_
    · rfl
    · clear h; intro hb h; conv => whnf
      all_goals (cases h; cases hc)
      all_goals exact Res.of [] rfl nw_0 (by decide) js_0 (wr_n wr_0)
    clear h; intro hb h; conv => whnf
    replace h := obind.elim h; obtain ⟨n6, hy, h⟩ := h
    refine sumK.introF [] (sumRun_of (aqs := [.pointer none]) (ws := [.no]) (n := 0) (m := 0) (t' := 4) (ra_cons rfl rfl ra_nil) rfl (by rfl) (r37n_eq hy) rfl rfl rfl rfl (wb_skip rfl wb_nil) an_nil rfl) ?_
    conv => whnf
    refine br.h2 h ?_ ?_ ?_
    · rfl
    · clear h; intro hb h; conv => whnf
      all_goals (cases h; cases hc)
      all_goals exact Res.of [] rfl nw_0 (by decide) js_0 (wr_n wr_0)
    clear h; intro hb h; conv => whnf
    replace h := obind.elim h; obtain ⟨t2, hy, h⟩ := h
    refine sumK.introF [3] (sumRun_of (aqs := [.pointer (some ⟨0, 0, none⟩), .int .i64 0]) (ws := [.win 3 0 3 true]) (n := 0) (m := 0) (t' := 4) (ra_cons rfl rfl (ra_cons rfl rfl ra_nil)) rfl (by rfl) (r33_eq hy) rfl rfl rfl rfl (wb_win rfl rfl rfl ⟨rfl, Nat.le_of_ble_eq_true rfl⟩ rfl rfl wb_nil) an_nil rfl) ?_
    conv => whnf
    refine br.h2 h ?_ ?_ ?_
    · rfl
    · clear h; intro hb h; conv => whnf
      all_goals (cases h; cases hc)
      all_goals exact Res.of [] rfl nw_0 (by decide) js_0 (wr_n wr_0)
    clear h; intro hb h; conv => whnf
    replace h := obind.elim h; obtain ⟨b3, hy, h⟩ := h
    refine sumK.introF [3] (sumRun_of (aqs := [.pointer (some ⟨0, 0, none⟩)]) (ws := [.win 3 0 3 true]) (n := 0) (m := 0) (t' := 4) (ra_cons rfl rfl ra_nil) rfl (by rfl) (r37_eq hy) rfl rfl rfl rfl (wb_win rfl rfl rfl ⟨rfl, Nat.le_of_ble_eq_true rfl⟩ rfl rfl wb_nil) an_nil rfl) ?_
    conv => whnf
    refine br.h2 h ?_ ?_ ?_
    · rfl
    · clear h; intro hb h; conv => whnf
      all_goals (cases h; cases hc)
      all_goals exact Res.of [] rfl nw_0 (by decide) js_0 (wr_n wr_0)
    clear h; intro hb h; conv => whnf
    replace h := obind.elim h; obtain ⟨a2, hy, h⟩ := h
    refine sumK.q rfl rfl (r21_eq hy) rfl rfl rfl ?_
    conv => whnf
    all_goals (cases h; cases hc)
    all_goals exact Res.of [] rfl nw_0 (by decide) js_0 (wr_n wr_0)
  clear h; intro hb h; conv => whnf
  replace h := oreq.elim h; obtain ⟨hb, h⟩ := h
  first | (refine req.intro hb ?_; conv => whnf) | skip
  replace h := obind.elim h; obtain ⟨e, hy, h⟩ := h
  refine rd.T (j := 0) cR02_Step_len hy (by first | omega | exact Nat.zero_add _ | exact congrArg (· + _) (Nat.zero_add _)) (by decide) rfl ?_
  conv => whnf
  refine br.h h ?_ ?_ ?_
  · rfl
  · clear h; intro hb h; conv => whnf
    replace h := oreq.elim h; obtain ⟨hb, h⟩ := h
    first | (refine req.intro hb ?_; conv => whnf) | skip
    refine rd.T (i := i.toNat) (x := e) (j := 1) cR02_Step_len (by assumption) (by first | omega | exact Nat.zero_add _ | exact congrArg (· + _) (Nat.zero_add _)) (by decide) rfl ?_
    conv => whnf
    replace h := obind.elim h; obtain ⟨n1, hy, h⟩ := h
    refine sumK.introF [1] (sumRun_of (aqs := [.pointer (some ⟨0, 0, none⟩), .int .i64 e.N]) (ws := [.win 1 0 3 true]) (n := 0) (m := 0) (t' := 9) (ra_cons rfl rfl (ra_cons rfl rfl ra_nil)) rfl (by rfl) (r31_eq hy) rfl rfl rfl rfl (wb_win rfl rfl rfl ⟨rfl, Nat.le_of_ble_eq_true rfl⟩ rfl rfl wb_nil) an_nil rfl) ?_
    conv => whnf
    replace h := oreq.elim h; obtain ⟨hb, h⟩ := h
    first | (refine req.intro hb ?_; conv => whnf) | skip
    refine rd.T (i := i.toNat) (x := e) (j := 1) cR02_Step_len (by assumption) (by first | omega | exact Nat.zero_add _ | exact congrArg (· + _) (Nat.zero_add _)) (by decide) rfl ?_
    conv => whnf
    replace h := obind.elim h; obtain ⟨n2, hy, h⟩ := h
    refine sumK.introF [2] (sumRun_of (aqs := [.pointer (some ⟨0, 0, none⟩), .int .i64 e.N]) (ws := [.win 2 0 2 true]) (n := 0) (m := 0) (t' := 16) (ra_cons rfl rfl (ra_cons rfl rfl ra_nil)) rfl (by rfl) (r32_eq hy) rfl rfl rfl rfl (wb_win rfl rfl rfl ⟨rfl, Nat.le_of_ble_eq_true rfl⟩ rfl rfl wb_nil) an_nil rfl) ?_
    conv => whnf
    refine br.h h ?_ ?_ ?_
    · rfl
    · clear h; intro hb h; conv => whnf
      all_goals (cases h; cases hc)
      all_goals exact Res.of [] rfl nw_0 (by decide) js_0 (wr_n wr_0)
    clear h; intro hb h; conv => whnf
    replace h := obind.elim h; obtain ⟨b, hy, h⟩ := h
    refine sumK.introF [1] (sumRun_of (aqs := [.pointer (some ⟨0, 0, none⟩)]) (ws := [.win 1 0 3 true]) (n := 0) (m := 0) (t' := 17) (ra_cons rfl rfl ra_nil) rfl (by rfl) (r37_eq hy) rfl rfl rfl rfl (wb_win rfl rfl rfl ⟨rfl, Nat.le_of_ble_eq_true rfl⟩ rfl rfl wb_nil) an_nil rfl) ?_
    conv => whnf
    refine br.h h ?_ ?_ ?_
    · rfl
    · clear h; intro hb h; conv => whnf
      all_goals (cases h; cases hc)
      all_goals exact Res.of [] rfl nw_0 (by decide) js_0 (wr_n wr_0)
    clear h; intro hb h; conv => whnf
    cases h; simp only [Sum.elim_inl, head7_1] at hc
    exact lrA0 hc [(0, 0), (1, 1), (2, 2)] rfl
  clear h; intro hb h; conv => whnf
  refine br.h2 h ?_ ?_ ?_
  · rfl
  · clear h; intro hb h; conv => whnf
    replace h := obind.elim h; obtain ⟨xr3, hy, h⟩ := h
    refine sumK.introF [1] (sumRun_of (aqs := [.pointer (some ⟨0, 0, none⟩)]) (ws := [.win 1 0 3 true]) (n := 0) (m := 0) (t' := 3) (ra_cons rfl rfl ra_nil) rfl (by rfl) (r35_eq hy) rfl rfl rfl rfl (wb_win rfl rfl rfl ⟨rfl, Nat.le_of_ble_eq_true rfl⟩ rfl rfl wb_nil) an_nil rfl) ?_
    conv => whnf
    replace h := obind.elim h; obtain ⟨xr4, hy, h⟩ := h
    refine sumK.introF [2] (sumRun_of (aqs := [.pointer (some ⟨0, 0, none⟩)]) (ws := [.win 2 0 2 true]) (n := 0) (m := 0) (t' := 3) (ra_cons rfl rfl ra_nil) rfl (by rfl) (r36_eq hy) rfl rfl rfl rfl (wb_win rfl rfl rfl ⟨rfl, Nat.le_of_ble_eq_true rfl⟩ rfl rfl wb_nil) an_nil rfl) ?_
    conv => whnf
    refine br.h h ?_ ?_ ?_
    · rfl
    · clear h; intro hb h; conv => whnf
      all_goals (cases h; cases hc)
      all_goals exact Res.of [] rfl nw_0 (by decide) js_0 (wr_n wr_0)
    clear h; intro hb h; conv => whnf
    replace h := obind.elim h; obtain ⟨b2, hy, h⟩ := h
    refine sumK.introF [1] (sumRun_of (aqs := [.pointer (some ⟨0, 0, none⟩)]) (ws := [.win 1 0 3 true]) (n := 0) (m := 0) (t' := 4) (ra_cons rfl rfl ra_nil) rfl (by rfl) (r37_eq hy) rfl rfl rfl rfl (wb_win rfl rfl rfl ⟨rfl, Nat.le_of_ble_eq_true rfl⟩ rfl rfl wb_nil) an_nil rfl) ?_
    conv => whnf
    refine br.h h ?_ ?_ ?_
    · rfl
    · clear h; intro hb h; conv => whnf
      all_goals (cases h; cases hc)
      all_goals exact Res.of [] rfl nw_0 (by decide) js_0 (wr_n wr_0)
    clear h; intro hb h; conv => whnf
    cases h; simp only [Sum.elim_inl, head7_1] at hc
    exact lrA0 hc [(0, 0), (1, 1), (2, 2)] rfl
  clear h; intro hb h; conv => whnf
  replace h := oreq.elim h; obtain ⟨hb, h⟩ := h
  first | (refine req.intro hb ?_; conv => whnf) | skip
  refine rd.T (i := i.toNat) (x := e) (j := 1) cR02_Step_len (by assumption) (by first | omega | exact Nat.zero_add _ | exact congrArg (· + _) (Nat.zero_add _)) (by decide) rfl ?_
  conv => whnf
  replace h := obind.elim h; obtain ⟨t, hy, h⟩ := h
  refine sumK.introF [1] (sumRun_of (aqs := [.pointer (some ⟨0, 0, none⟩), .int .i64 e.N]) (ws := [.win 1 0 3 true]) (n := 0) (m := 0) (t' := 9) (ra_cons rfl rfl (ra_cons rfl rfl ra_nil)) rfl (by rfl) (r33_eq hy) rfl rfl rfl rfl (wb_win rfl rfl rfl ⟨rfl, Nat.le_of_ble_eq_true rfl⟩ rfl rfl wb_nil) an_nil rfl) ?_
  conv => whnf
  replace h := oreq.elim h; obtain ⟨hb, h⟩ := h
  first | (refine req.intro hb ?_; conv => whnf) | skip
  refine rd.T (i := i.toNat) (x := e) (j := 1) cR02_Step_len (by assumption) (by first | omega | exact Nat.zero_add _ | exact congrArg (· + _) (Nat.zero_add _)) (by decide) rfl ?_
  conv => whnf
  replace h := obind.elim h; obtain ⟨t1, hy, h⟩ := h
  refine sumK.introF [2] (sumRun_of (aqs := [.pointer (some ⟨0, 0, none⟩), .int .i64 e.N]) (ws := [.win 2 0 2 true]) (n := 0) (m := 0) (t' := 16) (ra_cons rfl rfl (ra_cons rfl rfl ra_nil)) rfl (by rfl) (r34_eq hy) rfl rfl rfl rfl (wb_win rfl rfl rfl ⟨rfl, Nat.le_of_ble_eq_true rfl⟩ rfl rfl wb_nil) an_nil rfl) ?_
  conv => whnf
  refine br.h h ?_ ?_ ?_
  · rfl
  · clear h; intro hb h; conv => whnf
    all_goals (cases h; cases hc)
    all_goals exact Res.of [] rfl nw_0 (by decide) js_0 (wr_n wr_0)
  clear h; intro hb h; conv => whnf
  replace h := obind.elim h; obtain ⟨b1, hy, h⟩ := h
  refine sumK.introF [1] (sumRun_of (aqs := [.pointer (some ⟨0, 0, none⟩)]) (ws := [.win 1 0 3 true]) (n := 0) (m := 0) (t' := 17) (ra_cons rfl rfl ra_nil) rfl (by rfl) (r37_eq hy) rfl rfl rfl rfl (wb_win rfl rfl rfl ⟨rfl, Nat.le_of_ble_eq_true rfl⟩ rfl rfl wb_nil) an_nil rfl) ?_
  conv => whnf
  refine br.h h ?_ ?_ ?_
  · rfl
  · clear h; intro hb h; conv => whnf
    all_goals (cases h; cases hc)
    all_goals exact Res.of [] rfl nw_0 (by decide) js_0 (wr_n wr_0)
  clear h; intro hb h; conv => whnf
  cases h; simp only [Sum.elim_inl, head7_1] at hc
  exact lrA0 hc [(0, 0), (1, 1), (2, 2)] rfl
theorem leads7 (R02_Reader_Num : R02_Reader → Int → Option (Int × R02_Reader)) (R02_Reader_Rest : R02_Reader → Option ((List UInt8) × R02_Reader)) (R02_Reader_Text : R02_Reader → Int → Option ((List UInt8) × R02_Reader)) (law02_awake : Option Bool) (octet_New : (List UInt8) → Option octet_Reader) (octet_Reader_Bad : octet_Reader → Option (Bool × octet_Reader)) (octet_Reader_Bad_nil : Option Bool) (octet_Reader_Num : octet_Reader → Int → Option (Int × octet_Reader)) (octet_Reader_Num_nil : Int → Option Int) (octet_Reader_Rest : octet_Reader → Option ((List UInt8) × octet_Reader)) (octet_Reader_Rest_nil : Option (List UInt8)) (octet_Reader_Text : octet_Reader → Int → Option ((List UInt8) × octet_Reader)) (octet_Reader_Text_nil : Int → Option (List UInt8)) (hS : SumsOK Try.prog (aget (sums7 R02_Reader_Num R02_Reader_Rest R02_Reader_Text law02_awake octet_New octet_Reader_Bad octet_Reader_Bad_nil octet_Reader_Num octet_Reader_Num_nil octet_Reader_Rest octet_Reader_Rest_nil octet_Reader_Text octet_Reader_Text_nil))) (s : List UInt8) (l : List R02_Step) (res : Bool) (h : law02_OctetReadsF R02_Reader_Num R02_Reader_Rest R02_Reader_Text law02_awake octet_New octet_Reader_Bad octet_Reader_Bad_nil octet_Reader_Num octet_Reader_Num_nil octet_Reader_Rest octet_Reader_Rest_nil octet_Reader_Text octet_Reader_Text_nil s l = some res) :
    Leads Try.prog 7 1 ⟨⟨7, 112, [(0, .string ⟨⟨s⟩⟩), (1, .slice (some ⟨0, 0, none⟩) l.length 2)], [.code k7_57], [], false, none⟩, [], [(0, .row false (vT cR02_Step l))], 1⟩ (fun v H _ => Res 1 (rx7 res) v H) := by
  unfold law02_OctetReadsF at h
  refine ev_ok tab_ok hS true 3000 ?_
  conv => whnf
  refine br.h h ?_ ?_ ?_
  · rfl
  · clear h; intro hb h; conv => whnf
    replace h := obind.elim h; obtain ⟨a, hy, h⟩ := h
    refine sumK.q rfl rfl (r21_eq hy) rfl rfl rfl ?_
    conv => whnf
    all_goals (cases h)
    all_goals exact Res.of [] rfl nw_0 (by decide) js_0 (wr_n wr_0)
  clear h; intro hb h; conv => whnf
  refine br.h h ?_ ?_ ?_
  · rfl
  · clear h; intro hb h; conv => whnf
    replace h := obind.elim h; obtain ⟨a1, hy, h⟩ := h
    refine sumK.q rfl rfl (r21_eq hy) rfl rfl rfl ?_
    conv => whnf
    all_goals (cases h)
    all_goals exact Res.of [] rfl nw_0 (by decide) js_0 (wr_n wr_0)
  clear h; intro hb h; conv => whnf
  replace h := obind.elim h; obtain ⟨n, hy, h⟩ := h
  refine sumK.introF [1] (sumRun_of (aqs := [.string ⟨⟨s⟩⟩]) (ws := []) (n := 1) (m := 0) (t' := 2) (ra_cons rfl rfl ra_nil) rfl (by rfl) (r30_eq hy) rfl rfl rfl rfl wb_nil (an_cons (rfl) an_nil) rfl) ?_
  conv => whnf
  have hl := loop7_1 R02_Reader_Num R02_Reader_Rest R02_Reader_Text law02_awake octet_New octet_Reader_Bad octet_Reader_Bad_nil octet_Reader_Num octet_Reader_Num_nil octet_Reader_Rest octet_Reader_Rest_nil octet_Reader_Text octet_Reader_Text_nil hS _ res _ _ _ h rfl; simp only [head7_1] at hl
  exact lrA0 hl [(0, 0), (1, 1), (2, 2)] rfl
def law02_OctetReads : (List UInt8) → (List R02_Step) → Option Bool := law02_OctetReadsF R02_Reader_Num R02_Reader_Rest R02_Reader_Text law02_awake octet_New octet_Reader_Bad octet_Reader_Bad_nil octet_Reader_Num octet_Reader_Num_nil octet_Reader_Rest octet_Reader_Rest_nil octet_Reader_Text octet_Reader_Text_nil
end Go.Vm.Code
namespace Go.Vm.Code
open Go Go.Vm
theorem awake02r : law02_awake = some true := by decide +kernel
theorem rrText_eq (s : List UInt8) (b : Bool) (k : Int) : R02_Reader_Text ⟨s, b⟩ k = some (rdt ⟨s, true, b⟩ k, ⟨(rdr ⟨s, true, b⟩ k).s, (rdr ⟨s, true, b⟩ k).bad⟩) := by
  unfold R02_Reader_Text R02_Reader_TextF rdt rdr
  cases b with
  | true => simp
  | false =>
    simp only []
    rw [cond_false]
    by_cases h1 : k < 0
    · rw [cond_p h1, if_pos (by omega), if_pos (by omega)]
    rw [cond_n h1]
    by_cases h2 : k > s.length
    · rw [cond_p h2, if_pos (by omega), if_pos (by omega)]
    · have e : (s.drop k.toNat).take (s.length - k.toNat) = s.drop k.toNat := List.take_of_length_le (by simp)
      rw [cond_n h2, oreq_p (by omega), oreq_p (by omega), if_neg (by simp; omega), if_neg (by simp; omega), e]
theorem rrNum_eq {s : List UInt8} {b : Bool} {k : Int} (hs : s.length < 2 ^ 60) : R02_Reader_Num ⟨s, b⟩ k = some (rdn ⟨s, true, b⟩ k, ⟨(rdr ⟨s, true, b⟩ (if k < 1 ∨ k > 7 then -1 else k)).s, (rdr ⟨s, true, b⟩ (if k < 1 ∨ k > 7 then -1 else k)).bad⟩) := by
  unfold R02_Reader_Num R02_Reader_NumF rdn
  have e1 : rdr ⟨s, true, b⟩ (-1) = ⟨s, true, true⟩ := by unfold rdr; rw [if_pos (by omega)]
  have e2 : rdt ⟨s, true, b⟩ (-1) = [] := by unfold rdt; rw [if_pos (by omega)]
  have e3 : R02_Reader_Text ⟨s, true⟩ k = some ([], ⟨s, true⟩) := by unfold R02_Reader_Text R02_Reader_TextF; rfl
  by_cases h1 : k < 1
  · rw [cond_p h1, e3, Option.bind_some, if_pos (by omega), e1, e2]; rfl
  rw [cond_n h1]
  by_cases h2 : k > 7
  · rw [cond_p h2, e3, Option.bind_some, if_pos (by omega), e1, e2]; rfl
  rw [cond_n h2, rrText_eq, Option.bind_some, if_neg (by omega)]
  simp only []
  have hlen := rdt_len ⟨s, true, b⟩ k
  simp only at hlen
  cases hb : (rdr ⟨s, true, b⟩ k).bad
  · obtain ⟨a1, a2, a3⟩ := rdr_bad.1 hb
    simp only at a1 a3
    rw [cond_false, R02_Must_eq (by omega), Option.bind_some]
    have hl2 : (rdt ⟨s, true, b⟩ k).length = k.toNat := by
      unfold rdt; rw [if_neg (by rw [a1]; simp; omega)]; simp only [List.length_take]; omega
    have hv : valL (rdt ⟨s, true, b⟩ k) < 2 ^ 56 := by
      have := val_lt (rdt ⟨s, true, b⟩ k)
      rw [hl2] at this
      exact pow_step this (by omega)
    rw [getS_at (by omega) (by omega) (by omega) (by omega), show (0 : Int).toNat = 0 from rfl, List.drop_zero, List.take_of_length_le (by omega)]
    simp only []
    rw [wI64 (by omega) (by omega)]
  · rw [cond_true]
    have : rdt ⟨s, true, b⟩ k = [] := by
      unfold rdt
      rw [if_pos]
      unfold rdr at hb
      split at hb
      · assumption
      · exact absurd hb (by simp)
    rw [this]; rfl
theorem oRest_eq (r : octet_Reader) (h : r.made = true) : octet_Reader_Rest r = some (if r.bad then ([], r) else (rdt r r.s.length, rdr r r.s.length)) := by
  unfold octet_Reader_Rest octet_Reader_RestF
  rw [rBad_eq h, Option.bind_some]
  simp only []
  cases hb : r.bad
  · rw [cond_false, rText_eq h, Option.bind_some]; rfl
  · rw [cond_true]; rfl
theorem rrRest_eq (s : List UInt8) (b : Bool) : R02_Reader_Rest ⟨s, b⟩ = some (if b then ([], ⟨s, b⟩) else (rdt ⟨s, true, b⟩ s.length, ⟨(rdr ⟨s, true, b⟩ s.length).s, (rdr ⟨s, true, b⟩ s.length).bad⟩)) := by
  unfold R02_Reader_Rest R02_Reader_RestF
  cases b
  · simp only []; rw [cond_false, rrText_eq, Option.bind_some]; rfl
  · rfl
theorem rdr_s_len (r : octet_Reader) (k : Int) : (rdr r k).s.length ≤ r.s.length := by
  unfold rdr; split
  · exact Nat.le_refl _
  · simp
theorem octetReads (s : List UInt8) (l : List R02_Step) : law02_OctetReads s l = some true := by
  unfold law02_OctetReads law02_OctetReadsF
  rw [awake02r]
  by_cases g : 60 < s.length
  · rw [cond_p (by omega)]; rfl
  rw [cond_n (by omega)]
  by_cases g2 : 20 < l.length
  · rw [cond_p (by omega)]; rfl
  rw [cond_n (by omega), rNew_eq, Option.bind_some]
  have key := iter_eq (step := fun (st : Int × List UInt8 × Bool × Bool × List UInt8 × Bool) => law02_OctetReads_s1 R02_Reader_Num R02_Reader_Rest R02_Reader_Text (some true) octet_Reader_Bad octet_Reader_Bad_nil octet_Reader_Num octet_Reader_Num_nil octet_Reader_Rest octet_Reader_Rest_nil octet_Reader_Text octet_Reader_Text_nil l st.1 st.2.1 st.2.2.1 st.2.2.2.1 st.2.2.2.2.1 st.2.2.2.2.2) (fun _ => true)
    (fun st => 0 ≤ st.1 ∧ st.1 ≤ l.length ∧ st.2.1.length ≤ 60 ∧ st.2.2.1 = true ∧ st.2.2.2.2.1 = st.2.1 ∧ st.2.2.2.2.2 = st.2.2.2.1) (fun st => (l.length - st.1).toNat) ?_ FUEL (0, s, true, false, s, false) ⟨by simp, by simp, by simp only; omega, rfl, rfl, rfl⟩ (by rw [FUEL_eq]; simp only; omega)
  · exact key
  rintro ⟨p, x, md, b, x2, b2⟩ ⟨g1, g3, g4, g5, g6, g7⟩
  simp only at g1 g3 g4 g5 g6 g7 ⊢
  subst g5 g6 g7
  obtain ⟨i, rfl⟩ := Int.eq_ofNat_of_zero_le g1
  unfold law02_OctetReads_s1
  by_cases hp : i < l.length
  · rw [cond_p (by omega), oreq_p (by omega), Int.toNat_natCast, List.getElem?_eq_getElem hp, Option.bind_some]
    refine .inr ?_
    by_cases k0 : l[i].Kind = 0
    · rw [show (l[i].Kind == 0) = true by simpa using k0, cond_true, oreq_p (by omega), rNum_eq rfl (by simp only; omega), Option.bind_some, oreq_p (by omega), rrNum_eq (by omega), Option.bind_some]
      simp only []
      rw [bne_self_eq_false, cond_false, rBad_eq (rdr_made _ _), Option.bind_some]
      simp only []
      rw [beq_self_eq_true, Bool.not_true, cond_false, wI64 (by omega) (by omega)]
      have := rdr_s_len ⟨x2, true, b2⟩ (if l[i].N < 1 ∨ l[i].N > 7 then -1 else l[i].N)
      simp only at this
      exact ⟨_, rfl, ⟨by simp only; omega, by simp only; omega, by simp only; omega, rdr_made _ _, rfl, rfl⟩, by simp only; omega, trivial⟩
    rw [show (l[i].Kind == 0) = false by simpa using k0, cond_false]
    by_cases k1 : l[i].Kind = 1
    · rw [show (l[i].Kind == 1) = true by simpa using k1, cond_true, oreq_p (by omega), rText_eq rfl, Option.bind_some, oreq_p (by omega), rrText_eq, Option.bind_some]
      simp only []
      rw [beq_self_eq_true, Bool.not_true, cond_false, rBad_eq (rdr_made _ _), Option.bind_some]
      simp only []
      rw [beq_self_eq_true, Bool.not_true, cond_false, wI64 (by omega) (by omega)]
      have := rdr_s_len ⟨x2, true, b2⟩ l[i].N
      simp only at this
      exact ⟨_, rfl, ⟨by simp only; omega, by simp only; omega, by simp only; omega, rdr_made _ _, rfl, rfl⟩, by simp only; omega, trivial⟩
    rw [show (l[i].Kind == 1) = false by simpa using k1, cond_false, oRest_eq _ rfl, Option.bind_some, rrRest_eq, Option.bind_some]
    simp only []
    cases b2
    · simp only [Bool.false_eq_true, if_false]
      rw [beq_self_eq_true, Bool.not_true, cond_false, rBad_eq (rdr_made _ _), Option.bind_some]
      simp only []
      rw [beq_self_eq_true, Bool.not_true, cond_false, wI64 (by omega) (by omega)]
      have := rdr_s_len ⟨x2, true, false⟩ x2.length
      simp only at this
      exact ⟨_, rfl, ⟨by simp only; omega, by simp only; omega, by simp only; omega, rdr_made _ _, rfl, rfl⟩, by simp only; omega, trivial⟩
    · simp only [if_true]
      rw [beq_self_eq_true, Bool.not_true, cond_false, rBad_eq rfl, Option.bind_some]
      simp only []
      rw [beq_self_eq_true, Bool.not_true, cond_false, wI64 (by omega) (by omega)]
      exact ⟨_, rfl, ⟨by simp only; omega, by simp only; omega, by simp only; omega, rfl, rfl, rfl⟩, by simp only; omega, trivial⟩
  · refine .inl ?_
    rw [cond_n (by omega)]
    rfl
end Go.Vm.Code
