import Derived.Test.YtadhjooghfdloaaNStatelessTellse
namespace Go.Vm.Code
open Go Go.Vm Go.Proofs
set_option maxRecDepth 100000
set_option maxHeartbeats 4000000
set_option linter.unusedVariables false
def cookie_WidthF (cookie_Right : api_Layout → Option Bool) (cookie_layout_bits : cookie_layout → Option Int) (l : api_Layout) : Option Int :=
  (cookie_Right l).bind fun xr =>
  cond (!xr)
    (
    some (0))
    (
    (cookie_layout_bits (cookie_layout.mk l)).bind fun b =>
    some (b))
def rx152 (x : Int) : SRes := ⟨.int .i64 x, [], []⟩
def r152 (g : api_Layout → Option Int) : Dec := dV uvapi_Layout fun (y0 : api_Layout) => dEnd (ofG (g y0) rx152)
theorem r152_c {g : api_Layout → Option Int} {y0 : api_Layout} {x : Int} (hx : g y0 = some x) : r152 g [.agg ⟨[.bool y0.Wide, .int .i64 y0.Slot, .int .i64 y0.Gen]⟩] [] = some (rx152 x) := (dV_eq (uvapi_Layout_c _)).trans (ofG_eq hx)
def s152 (g : api_Layout → Option Int) : Summ := ⟨[.v], r152 g⟩
theorem r152_eq {g : api_Layout → Option Int} {y0 : api_Layout} {x : Int} (hx : g y0 = some x) : (s152 g).run [.agg ⟨[.bool y0.Wide, .int .i64 y0.Slot, .int .i64 y0.Gen]⟩] [] = some (rx152 x) := r152_c hx
abbrev sums152 (cookie_Right : api_Layout → Option Bool) (cookie_layout_bits : cookie_layout → Option Int) : List (Nat × Summ) := [(157, s157 cookie_Right), (158, s158 cookie_layout_bits)]
theorem leads152 (cookie_Right : api_Layout → Option Bool) (cookie_layout_bits : cookie_layout → Option Int) (hS : SumsOK Try.prog (aget (sums152 cookie_Right cookie_layout_bits))) (l : api_Layout) (res : Int) (h : cookie_WidthF cookie_Right cookie_layout_bits l = some res) :
    Leads Try.prog 152 0 ⟨⟨152, 9, [(0, .agg ⟨[.bool l.Wide, .int .i64 l.Slot, .int .i64 l.Gen]⟩)], [.code k152_9], [], false, none⟩, [], [], 0⟩ (fun v H _ => Res 0 (rx152 res) v H) := by
  unfold cookie_WidthF at h
  refine ev_ok tab_ok hS true 3000 ?_
  conv => whnf
  replace h := obind.elim h; obtain ⟨xr, hy, h⟩ := h
  refine sumK.q rfl rfl (r157_eq hy) rfl rfl rfl ?_
  conv => whnf
  refine br.h h ?_ ?_ ?_
  · rfl
  · clear h; intro hb h; conv => whnf
    all_goals (cases h; exact Res.z rfl rfl rfl)
  clear h; intro hb h; conv => whnf
  replace h := obind.elim h; obtain ⟨b, hy, h⟩ := h
  refine sumK.q rfl rfl (r158_eq hy) rfl rfl rfl ?_
  conv => whnf
  all_goals (cases h; exact Res.z rfl rfl rfl)
theorem ok152 (cookie_Right : api_Layout → Option Bool) (cookie_layout_bits : cookie_layout → Option Int) (hS : SumsOK Try.prog (aget (sums152 cookie_Right cookie_layout_bits))) : SumOK Try.prog 152 (s152 (cookie_WidthF cookie_Right cookie_layout_bits)) := by
  refine SumOK.of_leads tab_ok (fun ar os r ha hr => ?_) ⟨Try.f152, rfl, by decide, rfl⟩
  replace hr : r152 (cookie_WidthF cookie_Right cookie_layout_bits) ar (conts os) = some r := hr
  unfold r152 at hr
  generalize hc : conts os = C at hr
  replace hr := dV.elim hr; obtain ⟨v0, l1, y0, rfl, e0, hr⟩ := hr; obtain rfl := uvapi_Layout_eq _ _ e0
  replace hr := dFin hr; obtain ⟨rfl, rfl, x, h, rfl⟩ := hr
  obtain rfl := kinds_nil hc
  exact ⟨_, rfl, leads152 cookie_Right cookie_layout_bits hS _ x h⟩
def cookie_Width : api_Layout → Option Int := cookie_WidthF cookie_Right cookie_layout_bits
theorem lift152 : SumOK Try.prog 152 (s152 cookie_Width) := ok152 cookie_Right cookie_layout_bits (SumsOK.of_tab ⟨lift157, lift158, trivial⟩)
def cookie_MaskF (cookie_Width : api_Layout → Option Int) (num_Mask : Int → Option Int) (sip_Hasher_Sum : sip_Hasher → Option (Int × sip_Hasher)) (sip_Hasher_Write : sip_Hasher → (List UInt8) → Option sip_Hasher) (sip_New : api_Key → Option sip_Hasher) (tuple_Put : api_Tuple → Option (List UInt8)) (l : api_Layout) (k : api_Key) (t : api_Tuple) (n : Int) : Option Int :=
  (sip_New k).bind fun n1 =>
  (tuple_Put t).bind fun p =>
  (sip_Hasher_Write n1 p).bind fun w =>
  (sip_Hasher_Sum w).bind fun s =>
  (cookie_Width l).bind fun w1 =>
  (num_Mask w1).bind fun m =>
  some (andI .u64 (ixorI .u64 n s.1) m)
def rx143 (x : Int) : SRes := ⟨.int .u64 x, [], []⟩
def r143 (g : api_Layout → api_Key → api_Tuple → Int → Option Int) : Dec := dV uvapi_Layout fun (y0 : api_Layout) => dV uvapi_Key fun (y1 : api_Key) => dV uvapi_Tuple fun (y2 : api_Tuple) => dV (asI .u64) fun (y3 : Int) => dEnd (ofG (g y0 y1 y2 y3) rx143)
theorem r143_c {g : api_Layout → api_Key → api_Tuple → Int → Option Int} {y0 : api_Layout} {y1 : api_Key} {y2 : api_Tuple} {y3 : Int} {x : Int} (hx : g y0 y1 y2 y3 = some x) : r143 g [.agg ⟨[.bool y0.Wide, .int .i64 y0.Slot, .int .i64 y0.Gen]⟩, .agg ⟨[.int .u64 y1.A, .int .u64 y1.B]⟩, .agg ⟨[.int .i64 y2.Proto, .bool y2.Src.V6, .int .u64 y2.Src.Hi, .int .u64 y2.Src.Lo, .bool y2.Dst.V6, .int .u64 y2.Dst.Hi, .int .u64 y2.Dst.Lo, .int .i64 y2.SPort, .int .i64 y2.DPort]⟩, .int .u64 y3] [] = some (rx143 x) := (dV_eq (uvapi_Layout_c _)).trans ((dV_eq (uvapi_Key_c _)).trans ((dV_eq (uvapi_Tuple_c _)).trans ((dV_eq (asI_c _)).trans (ofG_eq hx))))
def s143 (g : api_Layout → api_Key → api_Tuple → Int → Option Int) : Summ := ⟨[.v, .v, .v, .v], r143 g⟩
theorem r143_eq {g : api_Layout → api_Key → api_Tuple → Int → Option Int} {y0 : api_Layout} {y1 : api_Key} {y2 : api_Tuple} {y3 : Int} {x : Int} (hx : g y0 y1 y2 y3 = some x) : (s143 g).run [.agg ⟨[.bool y0.Wide, .int .i64 y0.Slot, .int .i64 y0.Gen]⟩, .agg ⟨[.int .u64 y1.A, .int .u64 y1.B]⟩, .agg ⟨[.int .i64 y2.Proto, .bool y2.Src.V6, .int .u64 y2.Src.Hi, .int .u64 y2.Src.Lo, .bool y2.Dst.V6, .int .u64 y2.Dst.Hi, .int .u64 y2.Dst.Lo, .int .i64 y2.SPort, .int .i64 y2.DPort]⟩, .int .u64 y3] [] = some (rx143 x) := r143_c hx
abbrev sums143 (cookie_Width : api_Layout → Option Int) (num_Mask : Int → Option Int) (sip_Hasher_Sum : sip_Hasher → Option (Int × sip_Hasher)) (sip_Hasher_Write : sip_Hasher → (List UInt8) → Option sip_Hasher) (sip_New : api_Key → Option sip_Hasher) (tuple_Put : api_Tuple → Option (List UInt8)) : List (Nat × Summ) := [(152, s152 cookie_Width), (151, s151 num_Mask), (134, s134 sip_Hasher_Sum), (133, s133 sip_Hasher_Write), (132, s132 sip_New), (150, s150 tuple_Put)]
theorem leads143 (cookie_Width : api_Layout → Option Int) (num_Mask : Int → Option Int) (sip_Hasher_Sum : sip_Hasher → Option (Int × sip_Hasher)) (sip_Hasher_Write : sip_Hasher → (List UInt8) → Option sip_Hasher) (sip_New : api_Key → Option sip_Hasher) (tuple_Put : api_Tuple → Option (List UInt8)) (hS : SumsOK Try.prog (aget (sums143 cookie_Width num_Mask sip_Hasher_Sum sip_Hasher_Write sip_New tuple_Put))) (l : api_Layout) (k : api_Key) (t : api_Tuple) (n : Int) (res : Int) (h : cookie_MaskF cookie_Width num_Mask sip_Hasher_Sum sip_Hasher_Write sip_New tuple_Put l k t n = some res) :
    Leads Try.prog 143 0 ⟨⟨143, 24, [(0, .agg ⟨[.bool l.Wide, .int .i64 l.Slot, .int .i64 l.Gen]⟩), (1, .agg ⟨[.int .u64 k.A, .int .u64 k.B]⟩), (2, .agg ⟨[.int .i64 t.Proto, .bool t.Src.V6, .int .u64 t.Src.Hi, .int .u64 t.Src.Lo, .bool t.Dst.V6, .int .u64 t.Dst.Hi, .int .u64 t.Dst.Lo, .int .i64 t.SPort, .int .i64 t.DPort]⟩), (3, .int .u64 n)], [.code k143_7], [], false, none⟩, [], [], 0⟩ (fun v H _ => Res 0 (rx143 res) v H) := by
  unfold cookie_MaskF at h
  refine ev_ok tab_ok hS true 3000 ?_
  conv => whnf
  replace h := obind.elim h; obtain ⟨n1, hy, h⟩ := h
  refine sumK.introF [3] (sumRun_of (aqs := [.agg ⟨[.int .u64 k.A, .int .u64 k.B]⟩]) (ws := []) (n := 1) (m := 0) (t' := 4) (ra_cons rfl rfl ra_nil) rfl (by rfl) (r132_eq hy) rfl rfl rfl rfl wb_nil (an_cons (rfl) an_nil) rfl) ?_
  conv => whnf
  replace h := obind.elim h; obtain ⟨p, hy, h⟩ := h
  refine sumK.q rfl rfl (r150_eq hy) rfl rfl rfl ?_
  conv => whnf
  replace h := obind.elim h; obtain ⟨w, hy, h⟩ := h
  refine sumK.introF [3] (sumRun_of (aqs := [.pointer (some ⟨0, 0, none⟩), .string ⟨⟨p⟩⟩]) (ws := [.win 3 0 7 true]) (n := 0) (m := 0) (t' := 4) (ra_cons rfl rfl (ra_cons rfl rfl ra_nil)) rfl (by rfl) (r133_eq hy) rfl rfl rfl rfl (wb_win rfl rfl rfl ⟨rfl, Nat.le_of_ble_eq_true rfl⟩ rfl rfl wb_nil) an_nil rfl) ?_
  conv => whnf
  replace h := obind.elim h; obtain ⟨s, hy, h⟩ := h
  refine sumK.introF [3] (sumRun_of (aqs := [.pointer (some ⟨0, 0, none⟩)]) (ws := [.win 3 0 7 true]) (n := 0) (m := 0) (t' := 6) (ra_cons rfl rfl ra_nil) rfl (by rfl) (r134_eq hy) rfl rfl rfl rfl (wb_win rfl rfl rfl ⟨rfl, Nat.le_of_ble_eq_true rfl⟩ rfl rfl wb_nil) an_nil rfl) ?_
  conv => whnf
  replace h := obind.elim h; obtain ⟨w1, hy, h⟩ := h
  refine sumK.q rfl rfl (r152_eq hy) rfl rfl rfl ?_
  conv => whnf
  replace h := obind.elim h; obtain ⟨m, hy, h⟩ := h
  refine sumK.q rfl rfl (r151_eq hy) rfl rfl rfl ?_
  conv => whnf
  all_goals (cases h; exact Res.z rfl rfl rfl)
theorem ok143 (cookie_Width : api_Layout → Option Int) (num_Mask : Int → Option Int) (sip_Hasher_Sum : sip_Hasher → Option (Int × sip_Hasher)) (sip_Hasher_Write : sip_Hasher → (List UInt8) → Option sip_Hasher) (sip_New : api_Key → Option sip_Hasher) (tuple_Put : api_Tuple → Option (List UInt8)) (hS : SumsOK Try.prog (aget (sums143 cookie_Width num_Mask sip_Hasher_Sum sip_Hasher_Write sip_New tuple_Put))) : SumOK Try.prog 143 (s143 (cookie_MaskF cookie_Width num_Mask sip_Hasher_Sum sip_Hasher_Write sip_New tuple_Put)) := by
  refine SumOK.of_leads tab_ok (fun ar os r ha hr => ?_) ⟨Try.f143, rfl, by decide, rfl⟩
  replace hr : r143 (cookie_MaskF cookie_Width num_Mask sip_Hasher_Sum sip_Hasher_Write sip_New tuple_Put) ar (conts os) = some r := hr
  unfold r143 at hr
  generalize hc : conts os = C at hr
  replace hr := dV.elim hr; obtain ⟨v0, l1, y0, rfl, e0, hr⟩ := hr; obtain rfl := uvapi_Layout_eq _ _ e0
  replace hr := dV.elim hr; obtain ⟨v1, l2, y1, rfl, e1, hr⟩ := hr; obtain rfl := uvapi_Key_eq _ _ e1
  replace hr := dV.elim hr; obtain ⟨v2, l3, y2, rfl, e2, hr⟩ := hr; obtain rfl := uvapi_Tuple_eq _ _ e2
  replace hr := dV.elim hr; obtain ⟨v3, l4, y3, rfl, e3, hr⟩ := hr; obtain rfl := asI_eq _ _ _ e3
  replace hr := dFin hr; obtain ⟨rfl, rfl, x, h, rfl⟩ := hr
  obtain rfl := kinds_nil hc
  exact ⟨_, rfl, leads143 cookie_Width num_Mask sip_Hasher_Sum sip_Hasher_Write sip_New tuple_Put hS _ _ _ _ x h⟩
def cookie_Mask : api_Layout → api_Key → api_Tuple → Int → Option Int := cookie_MaskF cookie_Width num_Mask sip_Hasher_Sum sip_Hasher_Write sip_New tuple_Put
theorem lift143 : SumOK Try.prog 143 (s143 cookie_Mask) := ok143 cookie_Width num_Mask sip_Hasher_Sum sip_Hasher_Write sip_New tuple_Put (SumsOK.of_tab ⟨lift152, lift151, lift134, lift133, lift132, lift150, trivial⟩)
end Go.Vm.Code
namespace Go.Vm.Code
open Go Go.Vm
def bitsN (l : api_Layout) : Nat := cond l.Wide 64 16
def LOK (l : api_Layout) : Prop := (0 ≤ l.Slot ∧ l.Slot ≤ 12) ∧ 0 ≤ l.Gen ∧ l.Gen ≤ (cond l.Wide 63 16 : Int) - l.Slot
instance (l : api_Layout) : Decidable (LOK l) := inferInstanceAs (Decidable (_ ∧ _))
theorem LOK_w {l : api_Layout} {w : Bool} (hw : l.Wide = w) : LOK l ↔ ((0 ≤ l.Slot ∧ l.Slot ≤ 12) ∧ 0 ≤ l.Gen ∧ l.Gen ≤ (cond w 63 16 : Int) - l.Slot) := by
  unfold LOK; rw [hw]
theorem cRight_eq {l : api_Layout} (_ : True) : cookie_Right l = some (decide (LOK l)) := by
  unfold cookie_Right cookie_RightF cookie_layout_may cookie_layout_mayF cookie_layout_bits cookie_layout_bitsF
  simp only []
  by_cases h1 : l.Slot < 0
  · rw [cond_p h1, decide_eq_false (fun h : LOK l => by have := h.1; omega)]; rfl
  rw [cond_n h1]
  by_cases h2 : l.Slot > 12
  · rw [cond_p h2, decide_eq_false (fun h : LOK l => by have := h.1; omega)]; rfl
  rw [cond_n h2]
  by_cases h3 : l.Gen < 0
  · rw [cond_p h3, decide_eq_false (fun h : LOK l => by have := h.2; omega)]; rfl
  rw [cond_n h3]
  cases hw : l.Wide with
  | true =>
    simp only [cond_true, Option.bind_some]
    rw [if_pos (by omega), wI64 (by omega) (by omega)]
    congr 1; rw [Bool.eq_iff_iff, decide_eq_true_eq, decide_eq_true_eq, LOK_w hw, cond_true]; omega
  | false =>
    simp only [cond_false, Option.bind_some]
    rw [if_neg (by omega), wI64 (by omega) (by omega)]
    congr 1; rw [Bool.eq_iff_iff, decide_eq_true_eq, decide_eq_true_eq, LOK_w hw, cond_false]; omega
theorem rRight_eq (l : api_Layout) : R14_Right l = some (decide (LOK l)) := by
  unfold R14_Right R14_RightF
  have key : ∀ (b : Bool) (w : Int), l.Wide = b → w = cond b 63 16 → (cond (decide (l.Slot ≥ 0)) (cond (decide (l.Slot ≤ 12)) (cond (decide (l.Gen ≥ 0)) (some (decide (l.Gen ≤ (wI .i64 (w - l.Slot))))) (some (false))) (some (false))) (some (false)) : Option Bool) = some (decide (LOK l)) := by
    intro b w hb hw
    have hw2 : w = 63 ∨ w = 16 := by cases b <;> simp only [cond_true, cond_false] at hw <;> omega
    by_cases h1 : l.Slot ≥ 0
    · rw [cond_p h1]
      by_cases h2 : l.Slot ≤ 12
      · rw [cond_p h2]
        by_cases h3 : l.Gen ≥ 0
        · rw [cond_p h3, wI64 (by omega) (by omega)]
          congr 1; rw [Bool.eq_iff_iff, decide_eq_true_eq, decide_eq_true_eq, LOK_w hb, ← hw]; omega
        · rw [cond_n h3, decide_eq_false (fun h : LOK l => by have := h.2; omega)]
      · rw [cond_n h2, decide_eq_false (fun h : LOK l => by have := h.1; omega)]
    · rw [cond_n h1, decide_eq_false (fun h : LOK l => by have := h.1; omega)]
  cases hw : l.Wide with
  | true => simp only [cond_true]; exact key true 63 hw rfl
  | false => simp only [cond_false]; exact key false 16 hw rfl
def widN (l : api_Layout) : Nat := if LOK l then bitsN l else 0
theorem cWidth_eq (l : api_Layout) : cookie_Width l = some (widN l : Int) := by
  unfold cookie_Width cookie_WidthF widN
  rw [cRight_eq trivial, Option.bind_some]
  by_cases h : LOK l
  · rw [decide_eq_true h, Bool.not_true, cond_false, if_pos h]
    unfold cookie_layout_bits cookie_layout_bitsF bitsN
    simp only []
    cases l.Wide <;> rfl
  · rw [decide_eq_false h, if_neg h]; rfl
theorem rWidth_eq (l : api_Layout) : R14_Width l = some (widN l : Int) := by
  unfold R14_Width R14_WidthF widN
  rw [rRight_eq, Option.bind_some]
  by_cases h : LOK l
  · rw [decide_eq_true h, Bool.not_true, cond_false, if_pos h]
    unfold bitsN
    cases l.Wide <;> rfl
  · rw [decide_eq_false h, if_neg h]; rfl
theorem powI (i : Nat) : ((2 : Int) ^ i) = ((2 ^ i : Nat) : Int) := by push_cast; rfl
def hshI (k : api_Key) (t : api_Tuple) : Int := hashR tak finQ (tupS t).length (newV k).s (tupS t)
theorem ixor_rng (a b : Int) : 0 ≤ ixorI .u64 a b ∧ ixorI .u64 a b < 2 ^ 64 := by
  have := wU64m (((BitVec.ofInt (IntKind.bits .u64) a ^^^ BitVec.ofInt (IntKind.bits .u64) b).toNat : Nat) : Int)
  have e : ixorI .u64 a b = wI .u64 (((BitVec.ofInt (IntKind.bits .u64) a ^^^ BitVec.ofInt (IntKind.bits .u64) b).toNat : Nat) : Int) := rfl
  rw [e, this]; omega
theorem finQ_rng (q : Arr4_Int) : 0 ≤ finQ q ∧ finQ q < 2 ^ 64 := ixor_rng _ _
theorem hashR_rng (T : Arr4_Int → Int → Arr4_Int) (fin : Arr4_Int → Int) (hf : ∀ q, 0 ≤ fin q ∧ fin q < 2 ^ 64) (n : Nat) : ∀ (k : Nat) (l : List UInt8) (q : Arr4_Int), l.length ≤ k → 0 ≤ hashR T fin n q l ∧ hashR T fin n q l < 2 ^ 64
  | 0, l, q, h => by
    rw [hashR, dif_neg (by omega)]; exact hf _
  | k + 1, l, q, h => by
    rw [hashR]
    split
    · exact hashR_rng T fin hf n k _ _ (by simp; omega)
    · exact hf _
theorem hsh_rng (k : api_Key) (t : api_Tuple) : 0 ≤ hshI k t ∧ hshI k t < 2 ^ 64 := hashR_rng tak finQ finQ_rng _ _ _ _ (Nat.le_refl _)
def mskN (l : api_Layout) (k : api_Key) (t : api_Tuple) (n : Nat) : Nat := (n ^^^ (hshI k t).toNat) % 2 ^ widN l
theorem wid_le (l : api_Layout) : widN l ≤ 64 := by
  unfold widN bitsN
  split
  · cases l.Wide <;> decide
  · decide
theorem mskA {l : api_Layout} {k : api_Key} {t : api_Tuple} {n : Int} (hn : 0 ≤ n ∧ n < 2 ^ 64) : andI .u64 (ixorI .u64 n (hshI k t)) (mskI (widN l : Int)) = ((mskN l k t n.toNat : Nat) : Int) := by
  have hw := wid_le l
  obtain ⟨h1, h2⟩ := hsh_rng k t
  obtain ⟨x, rfl⟩ := Int.eq_ofNat_of_zero_le hn.1
  unfold mskN
  generalize hshI k t = h at *
  obtain ⟨y, rfl⟩ := Int.eq_ofNat_of_zero_le h1
  have hx : x ^^^ y < 2 ^ 64 := Nat.xor_lt_two_pow (by omega) (by omega)
  have em : mskI (widN l : Int) = 2 ^ widN l - 1 := by unfold mskI; rw [if_pos (by omega)]; rfl
  rw [ixorU64 (by omega) (by omega), em, andU64_mask (widN l) rfl hw (by omega) (by omega), powI]
  rfl
theorem cMask_eq {l : api_Layout} {k : api_Key} {t : api_Tuple} {n : Int} (hn : 0 ≤ n ∧ n < 2 ^ 64) (hs : inU t.Src) (hd : inU t.Dst) : cookie_Mask l k t n = some ((mskN l k t n.toNat : Nat) : Int) := by
  unfold cookie_Mask cookie_MaskF
  have hl := tupS_len t
  rw [New_eq, Option.bind_some, tPut_eq hs hd, Option.bind_some, Write_eq rfl (by simp [newV]) (by simp [newV]; omega), Option.bind_some, Sum_eq (by rw [(wrL _ _).1]; rfl), Option.bind_some, cWidth_eq, Option.bind_some, Mask_eq, Option.bind_some]
  have e : sumV ((tupS t).foldl wrB (newV k)) = hshI k t := fold_hashR tak finQ (tupS t).length (tupS t) (newV k) (Nat.le_refl _) rfl (by simp [newV]) rfl (tupS t).length (by simp [newV])
  simp only []
  rw [e, mskA hn]
theorem rMaskT_eq {l : api_Layout} {k : api_Key} {t : api_Tuple} {n : Int} (hn : 0 ≤ n ∧ n < 2 ^ 64) (hs : inU t.Src) (hd : inU t.Dst) : R14_Mask l k t n = some ((mskN l k t n.toNat : Nat) : Int) := by
  unfold R14_Mask R14_MaskF
  have hl := tupS_len t
  rw [rtPut_eq hs hd, Option.bind_some, R12_Hash_eq (by omega), Option.bind_some, rWidth_eq, Option.bind_some, rMask_eq, Option.bind_some]
  exact congrArg some (mskA hn)
end Go.Vm.Code
namespace Go.Vm.Code
open Go Go.Vm Go.Proofs
set_option maxRecDepth 100000
set_option maxHeartbeats 4000000
set_option linter.unusedVariables false
def conn_flags_hasF (f : Int) (somea1 : Int) : Option Bool :=
  some ((andI .i64 f somea1) == somea1)
def rx140 (x : Bool) : SRes := ⟨.bool x, [], []⟩
def r140 (g : Int → Int → Option Bool) : Dec := dV (asI .i64) fun (y0 : Int) => dV (asI .i64) fun (y1 : Int) => dEnd (ofG (g y0 y1) rx140)
theorem r140_c {g : Int → Int → Option Bool} {y0 : Int} {y1 : Int} {x : Bool} (hx : g y0 y1 = some x) : r140 g [.int .i64 y0, .int .i64 y1] [] = some (rx140 x) := (dV_eq (asI_c _)).trans ((dV_eq (asI_c _)).trans (ofG_eq hx))
def s140 (g : Int → Int → Option Bool) : Summ := ⟨[.v, .v], r140 g⟩
theorem r140_eq {g : Int → Int → Option Bool} {y0 : Int} {y1 : Int} {x : Bool} (hx : g y0 y1 = some x) : (s140 g).run [.int .i64 y0, .int .i64 y1] [] = some (rx140 x) := r140_c hx
abbrev sums140 : List (Nat × Summ) := []
theorem leads140 (hS : SumsOK Try.prog (aget (sums140))) (f : Int) (somea1 : Int) (res : Bool) (h : conn_flags_hasF f somea1 = some res) :
    Leads Try.prog 140 0 ⟨⟨140, 10, [(0, .int .i64 f), (1, .int .i64 somea1)], [.code k140_3], [], false, none⟩, [], [], 0⟩ (fun v H _ => Res 0 (rx140 res) v H) := by
  unfold conn_flags_hasF at h
  refine ev_ok tab_ok hS true 3000 ?_
  conv => whnf
  all_goals (cases h; exact Res.z rfl rfl rfl)
theorem ok140 (hS : SumsOK Try.prog (aget (sums140))) : SumOK Try.prog 140 (s140 (conn_flags_hasF)) := by
  refine SumOK.of_leads tab_ok (fun ar os r ha hr => ?_) ⟨Try.f140, rfl, by decide, rfl⟩
  replace hr : r140 (conn_flags_hasF) ar (conts os) = some r := hr
  unfold r140 at hr
  generalize hc : conts os = C at hr
  replace hr := dV.elim hr; obtain ⟨v0, l1, y0, rfl, e0, hr⟩ := hr; obtain rfl := asI_eq _ _ _ e0
  replace hr := dV.elim hr; obtain ⟨v1, l2, y1, rfl, e1, hr⟩ := hr; obtain rfl := asI_eq _ _ _ e1
  replace hr := dFin hr; obtain ⟨rfl, rfl, x, h, rfl⟩ := hr
  obtain rfl := kinds_nil hc
  exact ⟨_, rfl, leads140 hS _ _ x h⟩
def conn_flags_has : Int → Int → Option Bool := conn_flags_hasF
theorem lift140 : SumOK Try.prog 140 (s140 conn_flags_has) := ok140 (SumsOK.of_tab trivial)
def conn_flags_anyF (f : Int) (somea1 : Int) : Option Bool :=
  some ((andI .i64 f somea1) != 0)
def rx141 (x : Bool) : SRes := ⟨.bool x, [], []⟩
def r141 (g : Int → Int → Option Bool) : Dec := dV (asI .i64) fun (y0 : Int) => dV (asI .i64) fun (y1 : Int) => dEnd (ofG (g y0 y1) rx141)
theorem r141_c {g : Int → Int → Option Bool} {y0 : Int} {y1 : Int} {x : Bool} (hx : g y0 y1 = some x) : r141 g [.int .i64 y0, .int .i64 y1] [] = some (rx141 x) := (dV_eq (asI_c _)).trans ((dV_eq (asI_c _)).trans (ofG_eq hx))
def s141 (g : Int → Int → Option Bool) : Summ := ⟨[.v, .v], r141 g⟩
theorem r141_eq {g : Int → Int → Option Bool} {y0 : Int} {y1 : Int} {x : Bool} (hx : g y0 y1 = some x) : (s141 g).run [.int .i64 y0, .int .i64 y1] [] = some (rx141 x) := r141_c hx
abbrev sums141 : List (Nat × Summ) := []
theorem leads141 (hS : SumsOK Try.prog (aget (sums141))) (f : Int) (somea1 : Int) (res : Bool) (h : conn_flags_anyF f somea1 = some res) :
    Leads Try.prog 141 0 ⟨⟨141, 9, [(0, .int .i64 f), (1, .int .i64 somea1)], [.code k141_3], [], false, none⟩, [], [], 0⟩ (fun v H _ => Res 0 (rx141 res) v H) := by
  unfold conn_flags_anyF at h
  refine ev_ok tab_ok hS true 3000 ?_
  conv => whnf
  all_goals (cases h; exact Res.z rfl rfl rfl)
theorem ok141 (hS : SumsOK Try.prog (aget (sums141))) : SumOK Try.prog 141 (s141 (conn_flags_anyF)) := by
  refine SumOK.of_leads tab_ok (fun ar os r ha hr => ?_) ⟨Try.f141, rfl, by decide, rfl⟩
  replace hr : r141 (conn_flags_anyF) ar (conts os) = some r := hr
  unfold r141 at hr
  generalize hc : conts os = C at hr
  replace hr := dV.elim hr; obtain ⟨v0, l1, y0, rfl, e0, hr⟩ := hr; obtain rfl := asI_eq _ _ _ e0
  replace hr := dV.elim hr; obtain ⟨v1, l2, y1, rfl, e1, hr⟩ := hr; obtain rfl := asI_eq _ _ _ e1
  replace hr := dFin hr; obtain ⟨rfl, rfl, x, h, rfl⟩ := hr
  obtain rfl := kinds_nil hc
  exact ⟨_, rfl, leads141 hS _ _ x h⟩
def conn_flags_any : Int → Int → Option Bool := conn_flags_anyF
theorem lift141 : SumOK Try.prog 141 (s141 conn_flags_any) := ok141 (SumsOK.of_tab trivial)
def conn_FirstF (conn_flags_any : Int → Int → Option Bool) (conn_flags_has : Int → Int → Option Bool) (proto : Int) (bits : Int) : Option Bool :=
  cond (proto == 6)
    (
    (conn_flags_has bits 2).bind fun xh =>
    cond (xh)
      (
      (conn_flags_any bits 21).bind fun a =>
      some (!a))
      (
      some (false)))
    (
    some (false))
def rx117 (x : Bool) : SRes := ⟨.bool x, [], []⟩
def r117 (g : Int → Int → Option Bool) : Dec := dV (asI .i64) fun (y0 : Int) => dV (asI .i64) fun (y1 : Int) => dEnd (ofG (g y0 y1) rx117)
theorem r117_c {g : Int → Int → Option Bool} {y0 : Int} {y1 : Int} {x : Bool} (hx : g y0 y1 = some x) : r117 g [.int .i64 y0, .int .i64 y1] [] = some (rx117 x) := (dV_eq (asI_c _)).trans ((dV_eq (asI_c _)).trans (ofG_eq hx))
def s117 (g : Int → Int → Option Bool) : Summ := ⟨[.v, .v], r117 g⟩
theorem r117_eq {g : Int → Int → Option Bool} {y0 : Int} {y1 : Int} {x : Bool} (hx : g y0 y1 = some x) : (s117 g).run [.int .i64 y0, .int .i64 y1] [] = some (rx117 x) := r117_c hx
abbrev sums117 (conn_flags_any : Int → Int → Option Bool) (conn_flags_has : Int → Int → Option Bool) : List (Nat × Summ) := [(141, s141 conn_flags_any), (140, s140 conn_flags_has)]
theorem leads117 (conn_flags_any : Int → Int → Option Bool) (conn_flags_has : Int → Int → Option Bool) (hS : SumsOK Try.prog (aget (sums117 conn_flags_any conn_flags_has))) (proto : Int) (bits : Int) (res : Bool) (h : conn_FirstF conn_flags_any conn_flags_has proto bits = some res) :
    Leads Try.prog 117 0 ⟨⟨117, 18, [(0, .int .i64 proto), (1, .int .i64 bits)], [.code k117_5], [], false, none⟩, [], [], 0⟩ (fun v H _ => Res 0 (rx117 res) v H) := by
  unfold conn_FirstF at h
  refine ev_ok tab_ok hS true 3000 ?_
  conv => whnf
  refine br.h2 h ?_ ?_ ?_
  · rfl
  · clear h; intro hb h; conv => whnf
    all_goals (cases h; exact Res.z rfl rfl rfl)
  clear h; intro hb h; conv => whnf
  replace h := obind.elim h; obtain ⟨xh, hy, h⟩ := h
  refine sumK.q rfl rfl (r140_eq hy) rfl rfl rfl ?_
  conv => whnf
  refine br.h2 h ?_ ?_ ?_
  · rfl
  · clear h; intro hb h; conv => whnf
    all_goals (cases h; exact Res.z rfl rfl rfl)
  clear h; intro hb h; conv => whnf
  replace h := obind.elim h; obtain ⟨a, hy, h⟩ := h
  refine sumK.q rfl rfl (r141_eq hy) rfl rfl rfl ?_
  conv => whnf
  all_goals (cases h; exact Res.z rfl rfl rfl)
theorem ok117 (conn_flags_any : Int → Int → Option Bool) (conn_flags_has : Int → Int → Option Bool) (hS : SumsOK Try.prog (aget (sums117 conn_flags_any conn_flags_has))) : SumOK Try.prog 117 (s117 (conn_FirstF conn_flags_any conn_flags_has)) := by
  refine SumOK.of_leads tab_ok (fun ar os r ha hr => ?_) ⟨Try.f117, rfl, by decide, rfl⟩
  replace hr : r117 (conn_FirstF conn_flags_any conn_flags_has) ar (conts os) = some r := hr
  unfold r117 at hr
  generalize hc : conts os = C at hr
  replace hr := dV.elim hr; obtain ⟨v0, l1, y0, rfl, e0, hr⟩ := hr; obtain rfl := asI_eq _ _ _ e0
  replace hr := dV.elim hr; obtain ⟨v1, l2, y1, rfl, e1, hr⟩ := hr; obtain rfl := asI_eq _ _ _ e1
  replace hr := dFin hr; obtain ⟨rfl, rfl, x, h, rfl⟩ := hr
  obtain rfl := kinds_nil hc
  exact ⟨_, rfl, leads117 conn_flags_any conn_flags_has hS _ _ x h⟩
def conn_First : Int → Int → Option Bool := conn_FirstF conn_flags_any conn_flags_has
theorem lift117 : SumOK Try.prog 117 (s117 conn_First) := ok117 conn_flags_any conn_flags_has (SumsOK.of_tab ⟨lift141, lift140, trivial⟩)
def stateless_OfF (conn_First : Int → Int → Option Bool) (octet_Get : (List UInt8) → Int → Int → Option (Int × Bool)) (p : api_Packet) : Option stateless_Clue :=
  cond (p.Tuple.Proto == 6)
    (
    (conn_First 6 p.Flags).bind fun f =>
    cond (f)
      (
      some (stateless_Clue.mk true false 0))
      (
      cond (p.Stamped)
        (
        some (stateless_Clue.mk false true (wI .u64 (p.Echo.fdiv (2 ^ 16)))))
        (
        cond (p.Tuple.Proto == 17)
          (
          cond (!(p.CID == []))
            (
            (octet_Get p.CID 0 (p.CID.length : Int)).bind fun xg =>
            cond ((p.CID.length : Int) != 8)
              (
              some (stateless_Clue.mk p.Long false 0))
              (
              some (stateless_Clue.mk p.Long xg.2 xg.1)))
            (
            some (stateless_Clue.mk false false 0)))
          (
          some (stateless_Clue.mk false false 0)))))
    (
    cond (p.Tuple.Proto == 17)
      (
      cond (!(p.CID == []))
        (
        (octet_Get p.CID 0 (p.CID.length : Int)).bind fun xg1 =>
        cond ((p.CID.length : Int) != 8)
          (
          some (stateless_Clue.mk p.Long false 0))
          (
          some (stateless_Clue.mk p.Long xg1.2 xg1.1)))
        (
        some (stateless_Clue.mk false false 0)))
      (
      some (stateless_Clue.mk false false 0)))
def rx62 (x : stateless_Clue) : SRes := ⟨.agg ⟨[.bool x.First, .bool x.Has, .int .u64 x.Cookie]⟩, [], []⟩
def r62 (g : api_Packet → Option stateless_Clue) : Dec := dV uvapi_Packet fun (y0 : api_Packet) => dEnd (ofG (g y0) rx62)
theorem r62_c {g : api_Packet → Option stateless_Clue} {y0 : api_Packet} {x : stateless_Clue} (hx : g y0 = some x) : r62 g [.agg ⟨[.int .i64 y0.Tuple.Proto, .bool y0.Tuple.Src.V6, .int .u64 y0.Tuple.Src.Hi, .int .u64 y0.Tuple.Src.Lo, .bool y0.Tuple.Dst.V6, .int .u64 y0.Tuple.Dst.Hi, .int .u64 y0.Tuple.Dst.Lo, .int .i64 y0.Tuple.SPort, .int .i64 y0.Tuple.DPort, .int .i64 y0.Flags, .bool y0.Stamped, .int .u32 y0.Val, .int .u32 y0.Echo, .bool y0.Long, .string ⟨⟨y0.CID⟩⟩, .int .i64 y0.Size]⟩] [] = some (rx62 x) := (dV_eq (uvapi_Packet_c _)).trans (ofG_eq hx)
def s62 (g : api_Packet → Option stateless_Clue) : Summ := ⟨[.v], r62 g⟩
theorem r62_eq {g : api_Packet → Option stateless_Clue} {y0 : api_Packet} {x : stateless_Clue} (hx : g y0 = some x) : (s62 g).run [.agg ⟨[.int .i64 y0.Tuple.Proto, .bool y0.Tuple.Src.V6, .int .u64 y0.Tuple.Src.Hi, .int .u64 y0.Tuple.Src.Lo, .bool y0.Tuple.Dst.V6, .int .u64 y0.Tuple.Dst.Hi, .int .u64 y0.Tuple.Dst.Lo, .int .i64 y0.Tuple.SPort, .int .i64 y0.Tuple.DPort, .int .i64 y0.Flags, .bool y0.Stamped, .int .u32 y0.Val, .int .u32 y0.Echo, .bool y0.Long, .string ⟨⟨y0.CID⟩⟩, .int .i64 y0.Size]⟩] [] = some (rx62 x) := r62_c hx
abbrev sums62 (conn_First : Int → Int → Option Bool) (octet_Get : (List UInt8) → Int → Int → Option (Int × Bool)) : List (Nat × Summ) := [(117, s117 conn_First), (99, s99 octet_Get)]
theorem leads62 (conn_First : Int → Int → Option Bool) (octet_Get : (List UInt8) → Int → Int → Option (Int × Bool)) (hS : SumsOK Try.prog (aget (sums62 conn_First octet_Get))) (p : api_Packet) (res : stateless_Clue) (h : stateless_OfF conn_First octet_Get p = some res) :
    Leads Try.prog 62 0 ⟨⟨62, 59, [(0, .agg ⟨[.int .i64 p.Tuple.Proto, .bool p.Tuple.Src.V6, .int .u64 p.Tuple.Src.Hi, .int .u64 p.Tuple.Src.Lo, .bool p.Tuple.Dst.V6, .int .u64 p.Tuple.Dst.Hi, .int .u64 p.Tuple.Dst.Lo, .int .i64 p.Tuple.SPort, .int .i64 p.Tuple.DPort, .int .i64 p.Flags, .bool p.Stamped, .int .u32 p.Val, .int .u32 p.Echo, .bool p.Long, .string ⟨⟨p.CID⟩⟩, .int .i64 p.Size]⟩)], [.code k62_27], [], false, none⟩, [], [], 0⟩ (fun v H _ => Res 0 (rx62 res) v H) := by
  unfold stateless_OfF at h
  refine ev_ok tab_ok hS true 3000 ?_
  conv => whnf
  refine br.h2 h ?_ ?_ ?_
  · rfl
  · clear h; intro hb h; conv => whnf
    refine br.neg ?_ ?_; (focus (clear h; first | assumption | (simp_all; done)))
    conv => whnf
    refine br.h2 h ?_ ?_ ?_
    · rfl
    · clear h; intro hb h; conv => whnf
      all_goals (cases h; exact Res.z rfl rfl rfl)
    clear h; intro hb h; conv => whnf
    refine br.h2 h ?_ ?_ ?_
    · rfl
    · clear h; intro hb h; conv => whnf
      all_goals (cases h; exact Res.z rfl rfl rfl)
    clear h; intro hb h; conv => whnf
    replace h := obind.elim h; obtain ⟨xg1, hy, h⟩ := h
    refine sumK.q rfl rfl (r99_eq hy) rfl rfl rfl ?_
    conv => whnf
    refine br.h h ?_ ?_ ?_
    · rfl
    · clear h; intro hb h; conv => whnf
      all_goals (cases h; exact Res.z rfl rfl rfl)
    clear h; intro hb h; conv => whnf
    all_goals (cases h; exact Res.z rfl rfl rfl)
  clear h; intro hb h; conv => whnf
  replace h := obind.elim h; obtain ⟨f, hy, h⟩ := h
  refine sumK.q rfl rfl (r117_eq hy) rfl rfl rfl ?_
  conv => whnf
  refine br.h h ?_ ?_ ?_
  · rfl
  · clear h; intro hb h; conv => whnf
    all_goals (cases h; exact Res.z rfl rfl rfl)
  clear h; intro hb h; conv => whnf
  refine br.pos ?_ ?_; (focus (clear h; first | assumption | (simp_all; done)))
  conv => whnf
  refine br.h h ?_ ?_ ?_
  · rfl
  · clear h; intro hb h; conv => whnf
    all_goals (cases h; exact Res.z rfl rfl rfl)
  clear h; intro hb h; conv => whnf
  refine br.h2 h ?_ ?_ ?_
  · rfl
  · clear h; intro hb h; conv => whnf
    all_goals (cases h; exact Res.z rfl rfl rfl)
  clear h; intro hb h; conv => whnf
  refine br.h2 h ?_ ?_ ?_
  · rfl
  · clear h; intro hb h; conv => whnf
    all_goals (cases h; exact Res.z rfl rfl rfl)
  clear h; intro hb h; conv => whnf
  replace h := obind.elim h; obtain ⟨xg, hy, h⟩ := h
  refine sumK.q rfl rfl (r99_eq hy) rfl rfl rfl ?_
  conv => whnf
  refine br.h h ?_ ?_ ?_
  · rfl
  · clear h; intro hb h; conv => whnf
    all_goals (cases h; exact Res.z rfl rfl rfl)
  clear h; intro hb h; conv => whnf
  all_goals (cases h; exact Res.z rfl rfl rfl)
theorem ok62 (conn_First : Int → Int → Option Bool) (octet_Get : (List UInt8) → Int → Int → Option (Int × Bool)) (hS : SumsOK Try.prog (aget (sums62 conn_First octet_Get))) : SumOK Try.prog 62 (s62 (stateless_OfF conn_First octet_Get)) := by
  refine SumOK.of_leads tab_ok (fun ar os r ha hr => ?_) ⟨Try.f62, rfl, by decide, rfl⟩
  replace hr : r62 (stateless_OfF conn_First octet_Get) ar (conts os) = some r := hr
  unfold r62 at hr
  generalize hc : conts os = C at hr
  replace hr := dV.elim hr; obtain ⟨v0, l1, y0, rfl, e0, hr⟩ := hr; obtain rfl := uvapi_Packet_eq _ _ e0
  replace hr := dFin hr; obtain ⟨rfl, rfl, x, h, rfl⟩ := hr
  obtain rfl := kinds_nil hc
  exact ⟨_, rfl, leads62 conn_First octet_Get hS _ x h⟩
def stateless_Of : api_Packet → Option stateless_Clue := stateless_OfF conn_First octet_Get
theorem lift62 : SumOK Try.prog 62 (s62 stateless_Of) := ok62 conn_First octet_Get (SumsOK.of_tab ⟨lift117, lift99, trivial⟩)
def R18_hasF (flags : Int) (f : Int) : Option Bool :=
  some ((andI .i64 flags f) == f)
def rx142 (x : Bool) : SRes := ⟨.bool x, [], []⟩
def r142 (g : Int → Int → Option Bool) : Dec := dV (asI .i64) fun (y0 : Int) => dV (asI .i64) fun (y1 : Int) => dEnd (ofG (g y0 y1) rx142)
theorem r142_c {g : Int → Int → Option Bool} {y0 : Int} {y1 : Int} {x : Bool} (hx : g y0 y1 = some x) : r142 g [.int .i64 y0, .int .i64 y1] [] = some (rx142 x) := (dV_eq (asI_c _)).trans ((dV_eq (asI_c _)).trans (ofG_eq hx))
def s142 (g : Int → Int → Option Bool) : Summ := ⟨[.v, .v], r142 g⟩
theorem r142_eq {g : Int → Int → Option Bool} {y0 : Int} {y1 : Int} {x : Bool} (hx : g y0 y1 = some x) : (s142 g).run [.int .i64 y0, .int .i64 y1] [] = some (rx142 x) := r142_c hx
abbrev sums142 : List (Nat × Summ) := []
theorem leads142 (hS : SumsOK Try.prog (aget (sums142))) (flags : Int) (f : Int) (res : Bool) (h : R18_hasF flags f = some res) :
    Leads Try.prog 142 0 ⟨⟨142, 10, [(0, .int .i64 flags), (1, .int .i64 f)], [.code k142_3], [], false, none⟩, [], [], 0⟩ (fun v H _ => Res 0 (rx142 res) v H) := by
  unfold R18_hasF at h
  refine ev_ok tab_ok hS true 3000 ?_
  conv => whnf
  all_goals (cases h; exact Res.z rfl rfl rfl)
theorem ok142 (hS : SumsOK Try.prog (aget (sums142))) : SumOK Try.prog 142 (s142 (R18_hasF)) := by
  refine SumOK.of_leads tab_ok (fun ar os r ha hr => ?_) ⟨Try.f142, rfl, by decide, rfl⟩
  replace hr : r142 (R18_hasF) ar (conts os) = some r := hr
  unfold r142 at hr
  generalize hc : conts os = C at hr
  replace hr := dV.elim hr; obtain ⟨v0, l1, y0, rfl, e0, hr⟩ := hr; obtain rfl := asI_eq _ _ _ e0
  replace hr := dV.elim hr; obtain ⟨v1, l2, y1, rfl, e1, hr⟩ := hr; obtain rfl := asI_eq _ _ _ e1
  replace hr := dFin hr; obtain ⟨rfl, rfl, x, h, rfl⟩ := hr
  obtain rfl := kinds_nil hc
  exact ⟨_, rfl, leads142 hS _ _ x h⟩
def R18_has : Int → Int → Option Bool := R18_hasF
theorem lift142 : SumOK Try.prog 142 (s142 R18_has) := ok142 (SumsOK.of_tab trivial)
def R18_FirstF (R18_has : Int → Int → Option Bool) (proto : Int) (flags : Int) : Option Bool :=
  cond (proto == 6)
    (
    (R18_has flags 2).bind fun xh =>
    cond (xh)
      (
      (R18_has flags 16).bind fun xh1 =>
      cond (!xh1)
        (
        (R18_has flags 4).bind fun xh2 =>
        cond (!xh2)
          (
          (R18_has flags 1).bind fun xh3 =>
          some (!xh3))
          (
          some (false)))
        (
        some (false)))
      (
      some (false)))
    (
    some (false))
def rx118 (x : Bool) : SRes := ⟨.bool x, [], []⟩
def r118 (g : Int → Int → Option Bool) : Dec := dV (asI .i64) fun (y0 : Int) => dV (asI .i64) fun (y1 : Int) => dEnd (ofG (g y0 y1) rx118)
theorem r118_c {g : Int → Int → Option Bool} {y0 : Int} {y1 : Int} {x : Bool} (hx : g y0 y1 = some x) : r118 g [.int .i64 y0, .int .i64 y1] [] = some (rx118 x) := (dV_eq (asI_c _)).trans ((dV_eq (asI_c _)).trans (ofG_eq hx))
def s118 (g : Int → Int → Option Bool) : Summ := ⟨[.v, .v], r118 g⟩
theorem r118_eq {g : Int → Int → Option Bool} {y0 : Int} {y1 : Int} {x : Bool} (hx : g y0 y1 = some x) : (s118 g).run [.int .i64 y0, .int .i64 y1] [] = some (rx118 x) := r118_c hx
abbrev sums118 (R18_has : Int → Int → Option Bool) : List (Nat × Summ) := [(142, s142 R18_has)]
theorem leads118 (R18_has : Int → Int → Option Bool) (hS : SumsOK Try.prog (aget (sums118 R18_has))) (proto : Int) (flags : Int) (res : Bool) (h : R18_FirstF R18_has proto flags = some res) :
    Leads Try.prog 118 0 ⟨⟨118, 26, [(0, .int .i64 proto), (1, .int .i64 flags)], [.code k118_3], [], false, none⟩, [], [], 0⟩ (fun v H _ => Res 0 (rx118 res) v H) := by
  unfold R18_FirstF at h
  refine ev_ok tab_ok hS true 3000 ?_
  conv => whnf
  refine br.h2 h ?_ ?_ ?_
  · rfl
  · clear h; intro hb h; conv => whnf
    all_goals (cases h; exact Res.z rfl rfl rfl)
  clear h; intro hb h; conv => whnf
  replace h := obind.elim h; obtain ⟨xh, hy, h⟩ := h
  refine sumK.q rfl rfl (r142_eq hy) rfl rfl rfl ?_
  conv => whnf
  refine br.h2 h ?_ ?_ ?_
  · rfl
  · clear h; intro hb h; conv => whnf
    all_goals (cases h; exact Res.z rfl rfl rfl)
  clear h; intro hb h; conv => whnf
  replace h := obind.elim h; obtain ⟨xh1, hy, h⟩ := h
  refine sumK.q rfl rfl (r142_eq hy) rfl rfl rfl ?_
  conv => whnf
  refine br.h2 h ?_ ?_ ?_
  · rfl
  · clear h; intro hb h; conv => whnf
    all_goals (cases h; exact Res.z rfl rfl rfl)
  clear h; intro hb h; conv => whnf
  replace h := obind.elim h; obtain ⟨xh2, hy, h⟩ := h
  refine sumK.q rfl rfl (r142_eq hy) rfl rfl rfl ?_
  conv => whnf
  refine br.h2 h ?_ ?_ ?_
  · rfl
  · clear h; intro hb h; conv => whnf
    all_goals (cases h; exact Res.z rfl rfl rfl)
  clear h; intro hb h; conv => whnf
  replace h := obind.elim h; obtain ⟨xh3, hy, h⟩ := h
  refine sumK.q rfl rfl (r142_eq hy) rfl rfl rfl ?_
  conv => whnf
  all_goals (cases h; exact Res.z rfl rfl rfl)
theorem ok118 (R18_has : Int → Int → Option Bool) (hS : SumsOK Try.prog (aget (sums118 R18_has))) : SumOK Try.prog 118 (s118 (R18_FirstF R18_has)) := by
  refine SumOK.of_leads tab_ok (fun ar os r ha hr => ?_) ⟨Try.f118, rfl, by decide, rfl⟩
  replace hr : r118 (R18_FirstF R18_has) ar (conts os) = some r := hr
  unfold r118 at hr
  generalize hc : conts os = C at hr
  replace hr := dV.elim hr; obtain ⟨v0, l1, y0, rfl, e0, hr⟩ := hr; obtain rfl := asI_eq _ _ _ e0
  replace hr := dV.elim hr; obtain ⟨v1, l2, y1, rfl, e1, hr⟩ := hr; obtain rfl := asI_eq _ _ _ e1
  replace hr := dFin hr; obtain ⟨rfl, rfl, x, h, rfl⟩ := hr
  obtain rfl := kinds_nil hc
  exact ⟨_, rfl, leads118 R18_has hS _ _ x h⟩
def R18_First : Int → Int → Option Bool := R18_FirstF R18_has
theorem lift118 : SumOK Try.prog 118 (s118 R18_First) := ok118 R18_has (SumsOK.of_tab ⟨lift142, trivial⟩)
def R32_OfF (R02_Get : (List UInt8) → Int → Int → Option (Int × Bool)) (R18_First : Int → Int → Option Bool) (p : api_Packet) : Option stateless_Clue :=
  cond (p.Tuple.Proto == 6)
    (
    (R18_First 6 p.Flags).bind fun f =>
    cond (f)
      (
      some (stateless_Clue.mk true false 0))
      (
      cond (p.Stamped)
        (
        some (stateless_Clue.mk false true (wI .u64 ((wI .u64 p.Echo).tdiv 65536))))
        (
        some (stateless_Clue.mk false false 0))))
    (
    cond (p.Tuple.Proto != 17)
      (
      some (stateless_Clue.mk false false 0))
      (
      cond (p.CID == [])
        (
        some (stateless_Clue.mk false false 0))
        (
        cond ((p.CID.length : Int) == 8)
          (
          (R02_Get p.CID 0 8).bind fun xg =>
          some (stateless_Clue.mk p.Long true xg.1))
          (
          some (stateless_Clue.mk p.Long false 0)))))
def rx63 (x : stateless_Clue) : SRes := ⟨.agg ⟨[.bool x.First, .bool x.Has, .int .u64 x.Cookie]⟩, [], []⟩
def r63 (g : api_Packet → Option stateless_Clue) : Dec := dV uvapi_Packet fun (y0 : api_Packet) => dEnd (ofG (g y0) rx63)
theorem r63_c {g : api_Packet → Option stateless_Clue} {y0 : api_Packet} {x : stateless_Clue} (hx : g y0 = some x) : r63 g [.agg ⟨[.int .i64 y0.Tuple.Proto, .bool y0.Tuple.Src.V6, .int .u64 y0.Tuple.Src.Hi, .int .u64 y0.Tuple.Src.Lo, .bool y0.Tuple.Dst.V6, .int .u64 y0.Tuple.Dst.Hi, .int .u64 y0.Tuple.Dst.Lo, .int .i64 y0.Tuple.SPort, .int .i64 y0.Tuple.DPort, .int .i64 y0.Flags, .bool y0.Stamped, .int .u32 y0.Val, .int .u32 y0.Echo, .bool y0.Long, .string ⟨⟨y0.CID⟩⟩, .int .i64 y0.Size]⟩] [] = some (rx63 x) := (dV_eq (uvapi_Packet_c _)).trans (ofG_eq hx)
def s63 (g : api_Packet → Option stateless_Clue) : Summ := ⟨[.v], r63 g⟩
theorem r63_eq {g : api_Packet → Option stateless_Clue} {y0 : api_Packet} {x : stateless_Clue} (hx : g y0 = some x) : (s63 g).run [.agg ⟨[.int .i64 y0.Tuple.Proto, .bool y0.Tuple.Src.V6, .int .u64 y0.Tuple.Src.Hi, .int .u64 y0.Tuple.Src.Lo, .bool y0.Tuple.Dst.V6, .int .u64 y0.Tuple.Dst.Hi, .int .u64 y0.Tuple.Dst.Lo, .int .i64 y0.Tuple.SPort, .int .i64 y0.Tuple.DPort, .int .i64 y0.Flags, .bool y0.Stamped, .int .u32 y0.Val, .int .u32 y0.Echo, .bool y0.Long, .string ⟨⟨y0.CID⟩⟩, .int .i64 y0.Size]⟩] [] = some (rx63 x) := r63_c hx
abbrev sums63 (R02_Get : (List UInt8) → Int → Int → Option (Int × Bool)) (R18_First : Int → Int → Option Bool) : List (Nat × Summ) := [(105, s105 R02_Get), (118, s118 R18_First)]
theorem leads63 (R02_Get : (List UInt8) → Int → Int → Option (Int × Bool)) (R18_First : Int → Int → Option Bool) (hS : SumsOK Try.prog (aget (sums63 R02_Get R18_First))) (p : api_Packet) (res : stateless_Clue) (h : R32_OfF R02_Get R18_First p = some res) :
    Leads Try.prog 63 0 ⟨⟨63, 49, [(0, .agg ⟨[.int .i64 p.Tuple.Proto, .bool p.Tuple.Src.V6, .int .u64 p.Tuple.Src.Hi, .int .u64 p.Tuple.Src.Lo, .bool p.Tuple.Dst.V6, .int .u64 p.Tuple.Dst.Hi, .int .u64 p.Tuple.Dst.Lo, .int .i64 p.Tuple.SPort, .int .i64 p.Tuple.DPort, .int .i64 p.Flags, .bool p.Stamped, .int .u32 p.Val, .int .u32 p.Echo, .bool p.Long, .string ⟨⟨p.CID⟩⟩, .int .i64 p.Size]⟩)], [.code k63_38], [], false, none⟩, [], [], 0⟩ (fun v H _ => Res 0 (rx63 res) v H) := by
  unfold R32_OfF at h
  refine ev_ok tab_ok hS true 3000 ?_
  conv => whnf
  refine br.h h ?_ ?_ ?_
  · rfl
  · clear h; intro hb h; conv => whnf
    replace h := obind.elim h; obtain ⟨f, hy, h⟩ := h
    refine sumK.q rfl rfl (r118_eq hy) rfl rfl rfl ?_
    conv => whnf
    refine br.h h ?_ ?_ ?_
    · rfl
    · clear h; intro hb h; conv => whnf
      all_goals (cases h; exact Res.z rfl rfl rfl)
    clear h; intro hb h; conv => whnf
    refine br.h h ?_ ?_ ?_
    · rfl
    · clear h; intro hb h; conv => whnf
      all_goals (cases h; exact Res.z rfl rfl rfl)
    clear h; intro hb h; conv => whnf
    all_goals (cases h; exact Res.z rfl rfl rfl)
  clear h; intro hb h; conv => whnf
  refine br.h h ?_ ?_ ?_
  · rfl
  · clear h; intro hb h; conv => whnf
    all_goals (cases h; exact Res.z rfl rfl rfl)
  clear h; intro hb h; conv => whnf
  refine br.h h ?_ ?_ ?_
  · rfl
  · clear h; intro hb h; conv => whnf
    all_goals (cases h; exact Res.z rfl rfl rfl)
  clear h; intro hb h; conv => whnf
  refine br.h2 h ?_ ?_ ?_
  · rfl
  · clear h; intro hb h; conv => whnf
    all_goals (cases h; exact Res.z rfl rfl rfl)
  clear h; intro hb h; conv => whnf
  replace h := obind.elim h; obtain ⟨xg, hy, h⟩ := h
  refine sumK.q rfl rfl (r105_eq hy) rfl rfl rfl ?_
  conv => whnf
  all_goals (cases h; exact Res.z rfl rfl rfl)
theorem ok63 (R02_Get : (List UInt8) → Int → Int → Option (Int × Bool)) (R18_First : Int → Int → Option Bool) (hS : SumsOK Try.prog (aget (sums63 R02_Get R18_First))) : SumOK Try.prog 63 (s63 (R32_OfF R02_Get R18_First)) := by
  refine SumOK.of_leads tab_ok (fun ar os r ha hr => ?_) ⟨Try.f63, rfl, by decide, rfl⟩
  replace hr : r63 (R32_OfF R02_Get R18_First) ar (conts os) = some r := hr
  unfold r63 at hr
  generalize hc : conts os = C at hr
  replace hr := dV.elim hr; obtain ⟨v0, l1, y0, rfl, e0, hr⟩ := hr; obtain rfl := uvapi_Packet_eq _ _ e0
  replace hr := dFin hr; obtain ⟨rfl, rfl, x, h, rfl⟩ := hr
  obtain rfl := kinds_nil hc
  exact ⟨_, rfl, leads63 R02_Get R18_First hS _ x h⟩
def R32_Of : api_Packet → Option stateless_Clue := R32_OfF R02_Get R18_First
theorem lift63 : SumOK Try.prog 63 (s63 R32_Of) := ok63 R02_Get R18_First (SumsOK.of_tab ⟨lift105, lift118, trivial⟩)
def stateless_withinF (ida0 : Int) : Option Bool :=
  cond (decide (ida0 ≥ 1))
    (
    some (decide (ida0 ≤ 65535)))
    (
    some (false))
def rx119 (x : Bool) : SRes := ⟨.bool x, [], []⟩
def r119 (g : Int → Option Bool) : Dec := dV (asI .u64) fun (y0 : Int) => dEnd (ofG (g y0) rx119)
theorem r119_c {g : Int → Option Bool} {y0 : Int} {x : Bool} (hx : g y0 = some x) : r119 g [.int .u64 y0] [] = some (rx119 x) := (dV_eq (asI_c _)).trans (ofG_eq hx)
def s119 (g : Int → Option Bool) : Summ := ⟨[.v], r119 g⟩
theorem r119_eq {g : Int → Option Bool} {y0 : Int} {x : Bool} (hx : g y0 = some x) : (s119 g).run [.int .u64 y0] [] = some (rx119 x) := r119_c hx
abbrev sums119 : List (Nat × Summ) := []
theorem leads119 (hS : SumsOK Try.prog (aget (sums119))) (ida0 : Int) (res : Bool) (h : stateless_withinF ida0 = some res) :
    Leads Try.prog 119 0 ⟨⟨119, 9, [(0, .int .u64 ida0)], [.code k119_3], [], false, none⟩, [], [], 0⟩ (fun v H _ => Res 0 (rx119 res) v H) := by
  unfold stateless_withinF at h
  refine ev_ok tab_ok hS true 3000 ?_
  conv => whnf
  refine br.h h ?_ ?_ ?_
  · rfl
  · clear h; intro hb h; conv => whnf
    all_goals (cases h; exact Res.z rfl rfl rfl)
  clear h; intro hb h; conv => whnf
  all_goals (cases h; exact Res.z rfl rfl rfl)
theorem ok119 (hS : SumsOK Try.prog (aget (sums119))) : SumOK Try.prog 119 (s119 (stateless_withinF)) := by
  refine SumOK.of_leads tab_ok (fun ar os r ha hr => ?_) ⟨Try.f119, rfl, by decide, rfl⟩
  replace hr : r119 (stateless_withinF) ar (conts os) = some r := hr
  unfold r119 at hr
  generalize hc : conts os = C at hr
  replace hr := dV.elim hr; obtain ⟨v0, l1, y0, rfl, e0, hr⟩ := hr; obtain rfl := asI_eq _ _ _ e0
  replace hr := dFin hr; obtain ⟨rfl, rfl, x, h, rfl⟩ := hr
  obtain rfl := kinds_nil hc
  exact ⟨_, rfl, leads119 hS _ x h⟩
def stateless_within : Int → Option Bool := stateless_withinF
theorem lift119 : SumOK Try.prog 119 (s119 stateless_within) := ok119 (SumsOK.of_tab trivial)
def stateless_maskF (cookie_Mask : api_Layout → api_Key → api_Tuple → Int → Option Int) (k : api_Key) (t : api_Tuple) (n : Int) : Option Int :=
  (cookie_Mask (api_Layout.mk (t.Proto != 6) 0 0) k t n).bind fun m =>
  some (m)
def rx120 (x : Int) : SRes := ⟨.int .u64 x, [], []⟩
def r120 (g : api_Key → api_Tuple → Int → Option Int) : Dec := dV uvapi_Key fun (y0 : api_Key) => dV uvapi_Tuple fun (y1 : api_Tuple) => dV (asI .u64) fun (y2 : Int) => dEnd (ofG (g y0 y1 y2) rx120)
theorem r120_c {g : api_Key → api_Tuple → Int → Option Int} {y0 : api_Key} {y1 : api_Tuple} {y2 : Int} {x : Int} (hx : g y0 y1 y2 = some x) : r120 g [.agg ⟨[.int .u64 y0.A, .int .u64 y0.B]⟩, .agg ⟨[.int .i64 y1.Proto, .bool y1.Src.V6, .int .u64 y1.Src.Hi, .int .u64 y1.Src.Lo, .bool y1.Dst.V6, .int .u64 y1.Dst.Hi, .int .u64 y1.Dst.Lo, .int .i64 y1.SPort, .int .i64 y1.DPort]⟩, .int .u64 y2] [] = some (rx120 x) := (dV_eq (uvapi_Key_c _)).trans ((dV_eq (uvapi_Tuple_c _)).trans ((dV_eq (asI_c _)).trans (ofG_eq hx)))
def s120 (g : api_Key → api_Tuple → Int → Option Int) : Summ := ⟨[.v, .v, .v], r120 g⟩
theorem r120_eq {g : api_Key → api_Tuple → Int → Option Int} {y0 : api_Key} {y1 : api_Tuple} {y2 : Int} {x : Int} (hx : g y0 y1 y2 = some x) : (s120 g).run [.agg ⟨[.int .u64 y0.A, .int .u64 y0.B]⟩, .agg ⟨[.int .i64 y1.Proto, .bool y1.Src.V6, .int .u64 y1.Src.Hi, .int .u64 y1.Src.Lo, .bool y1.Dst.V6, .int .u64 y1.Dst.Hi, .int .u64 y1.Dst.Lo, .int .i64 y1.SPort, .int .i64 y1.DPort]⟩, .int .u64 y2] [] = some (rx120 x) := r120_c hx
abbrev sums120 (cookie_Mask : api_Layout → api_Key → api_Tuple → Int → Option Int) : List (Nat × Summ) := [(143, s143 cookie_Mask)]
theorem leads120 (cookie_Mask : api_Layout → api_Key → api_Tuple → Int → Option Int) (hS : SumsOK Try.prog (aget (sums120 cookie_Mask))) (k : api_Key) (t : api_Tuple) (n : Int) (res : Int) (h : stateless_maskF cookie_Mask k t n = some res) :
    Leads Try.prog 120 0 ⟨⟨120, 15, [(0, .agg ⟨[.int .u64 k.A, .int .u64 k.B]⟩), (1, .agg ⟨[.int .i64 t.Proto, .bool t.Src.V6, .int .u64 t.Src.Hi, .int .u64 t.Src.Lo, .bool t.Dst.V6, .int .u64 t.Dst.Hi, .int .u64 t.Dst.Lo, .int .i64 t.SPort, .int .i64 t.DPort]⟩), (2, .int .u64 n)], [.code k120_3], [], false, none⟩, [], [], 0⟩ (fun v H _ => Res 0 (rx120 res) v H) := by
  unfold stateless_maskF at h
  refine ev_ok tab_ok hS true 3000 ?_
  conv => whnf
  replace h := obind.elim h; obtain ⟨m, hy, h⟩ := h
  refine sumK.q rfl rfl (r143_eq hy) rfl rfl rfl ?_
  conv => whnf
  all_goals (cases h; exact Res.z rfl rfl rfl)
theorem ok120 (cookie_Mask : api_Layout → api_Key → api_Tuple → Int → Option Int) (hS : SumsOK Try.prog (aget (sums120 cookie_Mask))) : SumOK Try.prog 120 (s120 (stateless_maskF cookie_Mask)) := by
  refine SumOK.of_leads tab_ok (fun ar os r ha hr => ?_) ⟨Try.f120, rfl, by decide, rfl⟩
  replace hr : r120 (stateless_maskF cookie_Mask) ar (conts os) = some r := hr
  unfold r120 at hr
  generalize hc : conts os = C at hr
  replace hr := dV.elim hr; obtain ⟨v0, l1, y0, rfl, e0, hr⟩ := hr; obtain rfl := uvapi_Key_eq _ _ e0
  replace hr := dV.elim hr; obtain ⟨v1, l2, y1, rfl, e1, hr⟩ := hr; obtain rfl := uvapi_Tuple_eq _ _ e1
  replace hr := dV.elim hr; obtain ⟨v2, l3, y2, rfl, e2, hr⟩ := hr; obtain rfl := asI_eq _ _ _ e2
  replace hr := dFin hr; obtain ⟨rfl, rfl, x, h, rfl⟩ := hr
  obtain rfl := kinds_nil hc
  exact ⟨_, rfl, leads120 cookie_Mask hS _ _ _ x h⟩
def stateless_mask : api_Key → api_Tuple → Int → Option Int := stateless_maskF cookie_Mask
theorem lift120 : SumOK Try.prog 120 (s120 stateless_mask) := ok120 cookie_Mask (SumsOK.of_tab ⟨lift143, trivial⟩)
def stateless_OpenF (stateless_mask : api_Key → api_Tuple → Int → Option Int) (stateless_within : Int → Option Bool) (k : api_Key) (t : api_Tuple) (n : Int) : Option (Int × Bool) :=
  (stateless_mask k t n).bind fun m =>
  (stateless_within m).bind fun w =>
  cond (!w)
    (
    some ((0, false)))
    (
    (stateless_mask k t m).bind fun m1 =>
    cond (m1 != n)
      (
      some ((0, false)))
      (
      some ((wI .i64 m, true))))
def rx65 (x : Int × Bool) : SRes := ⟨.tuple ⟨[.int .i64 x.1, .bool x.2]⟩, [], []⟩
def r65 (g : api_Key → api_Tuple → Int → Option (Int × Bool)) : Dec := dV uvapi_Key fun (y0 : api_Key) => dV uvapi_Tuple fun (y1 : api_Tuple) => dV (asI .u64) fun (y2 : Int) => dEnd (ofG (g y0 y1 y2) rx65)
theorem r65_c {g : api_Key → api_Tuple → Int → Option (Int × Bool)} {y0 : api_Key} {y1 : api_Tuple} {y2 : Int} {x : Int × Bool} (hx : g y0 y1 y2 = some x) : r65 g [.agg ⟨[.int .u64 y0.A, .int .u64 y0.B]⟩, .agg ⟨[.int .i64 y1.Proto, .bool y1.Src.V6, .int .u64 y1.Src.Hi, .int .u64 y1.Src.Lo, .bool y1.Dst.V6, .int .u64 y1.Dst.Hi, .int .u64 y1.Dst.Lo, .int .i64 y1.SPort, .int .i64 y1.DPort]⟩, .int .u64 y2] [] = some (rx65 x) := (dV_eq (uvapi_Key_c _)).trans ((dV_eq (uvapi_Tuple_c _)).trans ((dV_eq (asI_c _)).trans (ofG_eq hx)))
def s65 (g : api_Key → api_Tuple → Int → Option (Int × Bool)) : Summ := ⟨[.v, .v, .v], r65 g⟩
theorem r65_eq {g : api_Key → api_Tuple → Int → Option (Int × Bool)} {y0 : api_Key} {y1 : api_Tuple} {y2 : Int} {x : Int × Bool} (hx : g y0 y1 y2 = some x) : (s65 g).run [.agg ⟨[.int .u64 y0.A, .int .u64 y0.B]⟩, .agg ⟨[.int .i64 y1.Proto, .bool y1.Src.V6, .int .u64 y1.Src.Hi, .int .u64 y1.Src.Lo, .bool y1.Dst.V6, .int .u64 y1.Dst.Hi, .int .u64 y1.Dst.Lo, .int .i64 y1.SPort, .int .i64 y1.DPort]⟩, .int .u64 y2] [] = some (rx65 x) := r65_c hx
abbrev sums65 (stateless_mask : api_Key → api_Tuple → Int → Option Int) (stateless_within : Int → Option Bool) : List (Nat × Summ) := [(120, s120 stateless_mask), (119, s119 stateless_within)]
theorem leads65 (stateless_mask : api_Key → api_Tuple → Int → Option Int) (stateless_within : Int → Option Bool) (hS : SumsOK Try.prog (aget (sums65 stateless_mask stateless_within))) (k : api_Key) (t : api_Tuple) (n : Int) (res : Int × Bool) (h : stateless_OpenF stateless_mask stateless_within k t n = some res) :
    Leads Try.prog 65 0 ⟨⟨65, 26, [(0, .agg ⟨[.int .u64 k.A, .int .u64 k.B]⟩), (1, .agg ⟨[.int .i64 t.Proto, .bool t.Src.V6, .int .u64 t.Src.Hi, .int .u64 t.Src.Lo, .bool t.Dst.V6, .int .u64 t.Dst.Hi, .int .u64 t.Dst.Lo, .int .i64 t.SPort, .int .i64 t.DPort]⟩), (2, .int .u64 n)], [.code k65_11], [], false, none⟩, [], [], 0⟩ (fun v H _ => Res 0 (rx65 res) v H) := by
  unfold stateless_OpenF at h
  refine ev_ok tab_ok hS true 3000 ?_
  conv => whnf
  replace h := obind.elim h; obtain ⟨m, hy, h⟩ := h
  refine sumK.q rfl rfl (r120_eq hy) rfl rfl rfl ?_
  conv => whnf
  replace h := obind.elim h; obtain ⟨w, hy, h⟩ := h
  refine sumK.q rfl rfl (r119_eq hy) rfl rfl rfl ?_
  conv => whnf
  refine br.h h ?_ ?_ ?_
  · rfl
  · clear h; intro hb h; conv => whnf
    all_goals (cases h; exact Res.z rfl rfl rfl)
  clear h; intro hb h; conv => whnf
  replace h := obind.elim h; obtain ⟨m1, hy, h⟩ := h
  refine sumK.q rfl rfl (r120_eq hy) rfl rfl rfl ?_
  conv => whnf
  refine br.h h ?_ ?_ ?_
  · rfl
  · clear h; intro hb h; conv => whnf
    all_goals (cases h; exact Res.z rfl rfl rfl)
  clear h; intro hb h; conv => whnf
  all_goals (cases h; exact Res.z rfl rfl rfl)
theorem ok65 (stateless_mask : api_Key → api_Tuple → Int → Option Int) (stateless_within : Int → Option Bool) (hS : SumsOK Try.prog (aget (sums65 stateless_mask stateless_within))) : SumOK Try.prog 65 (s65 (stateless_OpenF stateless_mask stateless_within)) := by
  refine SumOK.of_leads tab_ok (fun ar os r ha hr => ?_) ⟨Try.f65, rfl, by decide, rfl⟩
  replace hr : r65 (stateless_OpenF stateless_mask stateless_within) ar (conts os) = some r := hr
  unfold r65 at hr
  generalize hc : conts os = C at hr
  replace hr := dV.elim hr; obtain ⟨v0, l1, y0, rfl, e0, hr⟩ := hr; obtain rfl := uvapi_Key_eq _ _ e0
  replace hr := dV.elim hr; obtain ⟨v1, l2, y1, rfl, e1, hr⟩ := hr; obtain rfl := uvapi_Tuple_eq _ _ e1
  replace hr := dV.elim hr; obtain ⟨v2, l3, y2, rfl, e2, hr⟩ := hr; obtain rfl := asI_eq _ _ _ e2
  replace hr := dFin hr; obtain ⟨rfl, rfl, x, h, rfl⟩ := hr
  obtain rfl := kinds_nil hc
  exact ⟨_, rfl, leads65 stateless_mask stateless_within hS _ _ _ x h⟩
def stateless_Open : api_Key → api_Tuple → Int → Option (Int × Bool) := stateless_OpenF stateless_mask stateless_within
theorem lift65 : SumOK Try.prog 65 (s65 stateless_Open) := ok65 stateless_mask stateless_within (SumsOK.of_tab ⟨lift120, lift119, trivial⟩)
def stateless_Find_nilF (registry_Registry_Get : registry_Registry → Int → Option (api_Backend × Bool)) (registry_Registry_Get_nil : Int → Option (api_Backend × Bool)) (stateless_Open : api_Key → api_Tuple → Int → Option (Int × Bool)) (k : api_Key) (t : api_Tuple) (n : Int) : Option (api_Backend × Bool) :=
  (stateless_Open k t n).bind fun xo =>
  cond (!xo.2)
    (
    some ((api_Backend.mk 0 0 0 (api_Addr.mk false 0 0), false)))
    (
    (registry_Registry_Get_nil xo.1).bind fun n1 =>
    cond (!n1.2)
      (
      some ((api_Backend.mk 0 0 0 (api_Addr.mk false 0 0), false)))
      (
      cond (n1.1.State == 4)
        (
        some ((api_Backend.mk 0 0 0 (api_Addr.mk false 0 0), false)))
        (
        some ((n1.1, true)))))
def rx67n (x : api_Backend × Bool) : SRes := ⟨.tuple ⟨[.agg ⟨[.int .i64 x.1.ID, .int .i64 x.1.Weight, .int .i64 x.1.State, .bool x.1.Addr.V6, .int .u64 x.1.Addr.Hi, .int .u64 x.1.Addr.Lo]⟩, .bool x.2]⟩, [], [none, none]⟩
def r67n (g : api_Key → api_Tuple → Int → Option (api_Backend × Bool)) : Dec := dNl 2 <| dV uvapi_Key fun (y1 : api_Key) => dV uvapi_Tuple fun (y2 : api_Tuple) => dV (asI .u64) fun (y3 : Int) => dEnd (ofG (g y1 y2 y3) rx67n)
theorem r67n_c {g : api_Key → api_Tuple → Int → Option (api_Backend × Bool)} {y1 : api_Key} {y2 : api_Tuple} {y3 : Int} {x : api_Backend × Bool} (hx : g y1 y2 y3 = some x) : r67n g [.pointer none, .agg ⟨[.int .u64 y1.A, .int .u64 y1.B]⟩, .agg ⟨[.int .i64 y2.Proto, .bool y2.Src.V6, .int .u64 y2.Src.Hi, .int .u64 y2.Src.Lo, .bool y2.Dst.V6, .int .u64 y2.Dst.Hi, .int .u64 y2.Dst.Lo, .int .i64 y2.SPort, .int .i64 y2.DPort]⟩, .int .u64 y3] [none, none] = some (rx67n x) := (dNl_2).trans ((dV_eq (uvapi_Key_c _)).trans ((dV_eq (uvapi_Tuple_c _)).trans ((dV_eq (asI_c _)).trans (ofG_eq hx))))
abbrev sums67n (registry_Registry_Get : registry_Registry → Int → Option (api_Backend × Bool)) (registry_Registry_Get_nil : Int → Option (api_Backend × Bool)) (stateless_Open : api_Key → api_Tuple → Int → Option (Int × Bool)) : List (Nat × Summ) := [(18, s18 registry_Registry_Get registry_Registry_Get_nil), (65, s65 stateless_Open)]
theorem leads67n (registry_Registry_Get : registry_Registry → Int → Option (api_Backend × Bool)) (registry_Registry_Get_nil : Int → Option (api_Backend × Bool)) (stateless_Open : api_Key → api_Tuple → Int → Option (Int × Bool)) (hS : SumsOK Try.prog (aget (sums67n registry_Registry_Get registry_Registry_Get_nil stateless_Open))) (k : api_Key) (t : api_Tuple) (n : Int) (res : api_Backend × Bool) (h : stateless_Find_nilF registry_Registry_Get registry_Registry_Get_nil stateless_Open k t n = some res) :
    Leads Try.prog 67 2 ⟨⟨67, 39, [(0, .pointer none), (1, .agg ⟨[.int .u64 k.A, .int .u64 k.B]⟩), (2, .agg ⟨[.int .i64 t.Proto, .bool t.Src.V6, .int .u64 t.Src.Hi, .int .u64 t.Src.Lo, .bool t.Dst.V6, .int .u64 t.Dst.Hi, .int .u64 t.Dst.Lo, .int .i64 t.SPort, .int .i64 t.DPort]⟩), (3, .int .u64 n)], [.code k67_19], [], false, none⟩, [], [], 2⟩ (fun v H _ => Res 2 (rx67n res) v H) := by
  unfold stateless_Find_nilF at h
  refine ev_ok tab_ok hS true 3000 ?_
  conv => whnf
  replace h := obind.elim h; obtain ⟨xo, hy, h⟩ := h
  refine sumK.q rfl rfl (r65_eq hy) rfl rfl rfl ?_
  conv => whnf
  refine br.h h ?_ ?_ ?_
  · rfl
  · clear h; intro hb h; conv => whnf
    all_goals (cases h)
    all_goals exact Res.of [] rfl nw_0 (by decide) js_0 (wr_n (wr_n wr_0))
  clear h; intro hb h; conv => whnf
  replace h := obind.elim h; obtain ⟨n1, hy, h⟩ := h
  refine sumK.introF [] (sumRun_of (aqs := [.pointer none, .int .i64 xo.1]) (ws := [.no, .no]) (n := 0) (m := 0) (t' := 5) (ra_cons rfl rfl (ra_cons rfl rfl ra_nil)) rfl (by rfl) (r18n_eq hy) rfl rfl rfl rfl (wb_skip rfl (wb_skip rfl wb_nil)) an_nil rfl) ?_
  conv => whnf
  refine br.h h ?_ ?_ ?_
  · rfl
  · clear h; intro hb h; conv => whnf
    all_goals (cases h)
    all_goals exact Res.of [] rfl nw_0 (by decide) js_0 (wr_n (wr_n wr_0))
  clear h; intro hb h; conv => whnf
  refine br.h h ?_ ?_ ?_
  · rfl
  · clear h; intro hb h; conv => whnf
    all_goals (cases h)
    all_goals exact Res.of [] rfl nw_0 (by decide) js_0 (wr_n (wr_n wr_0))
  clear h; intro hb h; conv => whnf
  all_goals (cases h)
  all_goals exact Res.of [] rfl nw_0 (by decide) js_0 (wr_n (wr_n wr_0))
def stateless_FindF (registry_Registry_Get : registry_Registry → Int → Option (api_Backend × Bool)) (registry_Registry_Get_nil : Int → Option (api_Backend × Bool)) (stateless_Open : api_Key → api_Tuple → Int → Option (Int × Bool)) (ga0 : registry_Registry) (k : api_Key) (t : api_Tuple) (n : Int) : Option (api_Backend × Bool) :=
  (stateless_Open k t n).bind fun xo =>
  cond (!xo.2)
    (
    some ((api_Backend.mk 0 0 0 (api_Addr.mk false 0 0), false)))
    (
    (registry_Registry_Get ga0 xo.1).bind fun xg =>
    cond (!xg.2)
      (
      some ((api_Backend.mk 0 0 0 (api_Addr.mk false 0 0), false)))
      (
      cond (xg.1.State == 4)
        (
        some ((api_Backend.mk 0 0 0 (api_Addr.mk false 0 0), false)))
        (
        some ((xg.1, true)))))
def rx67 (x : api_Backend × Bool) : SRes := ⟨.tuple ⟨[.agg ⟨[.int .i64 x.1.ID, .int .i64 x.1.Weight, .int .i64 x.1.State, .bool x.1.Addr.V6, .int .u64 x.1.Addr.Hi, .int .u64 x.1.Addr.Lo]⟩, .bool x.2]⟩, [], [none, none]⟩
def r67 (g : registry_Registry → api_Key → api_Tuple → Int → Option (api_Backend × Bool)) : Dec := dTr 2 (udregistry_Registry 0) fun (y0 : registry_Registry) => dV uvapi_Key fun (y1 : api_Key) => dV uvapi_Tuple fun (y2 : api_Tuple) => dV (asI .u64) fun (y3 : Int) => dEnd (ofG (g y0 y1 y2 y3) rx67)
theorem r67_c {g : registry_Registry → api_Key → api_Tuple → Int → Option (api_Backend × Bool)} {y0 : registry_Registry} {y1 : api_Key} {y2 : api_Tuple} {y3 : Int} {x : api_Backend × Bool} (hx : g y0 y1 y2 y3 = some x) : r67 g [.pointer (some ⟨0, 0, none⟩), .agg ⟨[.int .u64 y1.A, .int .u64 y1.B]⟩, .agg ⟨[.int .i64 y2.Proto, .bool y2.Src.V6, .int .u64 y2.Src.Hi, .int .u64 y2.Src.Lo, .bool y2.Dst.V6, .int .u64 y2.Dst.Hi, .int .u64 y2.Dst.Lo, .int .i64 y2.SPort, .int .i64 y2.DPort]⟩, .int .u64 y3] [some [.int .i64 y0.rule.Rise, .int .i64 y0.rule.Fall, .slice (some ⟨1, 0, none⟩) y0.rows.length 9, .int .i64 y0.last, .int .i64 y0.version], some (vT cregistry_row y0.rows)] = some (rx67 x) := (dTr_eq rfl rfl (udregistry_Registry_c 0 _)).trans ((dV_eq (uvapi_Key_c _)).trans ((dV_eq (uvapi_Tuple_c _)).trans ((dV_eq (asI_c _)).trans (ofG_eq hx))))
def s67 (g : registry_Registry → api_Key → api_Tuple → Int → Option (api_Backend × Bool)) (g2 : api_Key → api_Tuple → Int → Option (api_Backend × Bool)) : Summ := ⟨[.tr [⟨none, 0, 0, 0, none⟩, ⟨some 0, 2, 0, 0, some 9⟩], .v, .v, .v], pickN 0 (r67 g) (r67n g2)⟩
theorem r67_eq {g : registry_Registry → api_Key → api_Tuple → Int → Option (api_Backend × Bool)} {g2 : api_Key → api_Tuple → Int → Option (api_Backend × Bool)} {y0 : registry_Registry} {y1 : api_Key} {y2 : api_Tuple} {y3 : Int} {x : api_Backend × Bool} (hx : g y0 y1 y2 y3 = some x) : (s67 g g2).run [.pointer (some ⟨0, 0, none⟩), .agg ⟨[.int .u64 y1.A, .int .u64 y1.B]⟩, .agg ⟨[.int .i64 y2.Proto, .bool y2.Src.V6, .int .u64 y2.Src.Hi, .int .u64 y2.Src.Lo, .bool y2.Dst.V6, .int .u64 y2.Dst.Hi, .int .u64 y2.Dst.Lo, .int .i64 y2.SPort, .int .i64 y2.DPort]⟩, .int .u64 y3] [some [.int .i64 y0.rule.Rise, .int .i64 y0.rule.Fall, .slice (some ⟨1, 0, none⟩) y0.rows.length 9, .int .i64 y0.last, .int .i64 y0.version], some (vT cregistry_row y0.rows)] = some (rx67 x) := r67_c hx
theorem r67n_eq {g2 : registry_Registry → api_Key → api_Tuple → Int → Option (api_Backend × Bool)} {g : api_Key → api_Tuple → Int → Option (api_Backend × Bool)} {y1 : api_Key} {y2 : api_Tuple} {y3 : Int} {x : api_Backend × Bool} (hx : g y1 y2 y3 = some x) : (s67 g2 g).run [.pointer none, .agg ⟨[.int .u64 y1.A, .int .u64 y1.B]⟩, .agg ⟨[.int .i64 y2.Proto, .bool y2.Src.V6, .int .u64 y2.Src.Hi, .int .u64 y2.Src.Lo, .bool y2.Dst.V6, .int .u64 y2.Dst.Hi, .int .u64 y2.Dst.Lo, .int .i64 y2.SPort, .int .i64 y2.DPort]⟩, .int .u64 y3] [none, none] = some (rx67n x) := r67n_c hx
abbrev sums67 (registry_Registry_Get : registry_Registry → Int → Option (api_Backend × Bool)) (registry_Registry_Get_nil : Int → Option (api_Backend × Bool)) (stateless_Open : api_Key → api_Tuple → Int → Option (Int × Bool)) : List (Nat × Summ) := [(18, s18 registry_Registry_Get registry_Registry_Get_nil), (65, s65 stateless_Open)]
theorem leads67 (registry_Registry_Get : registry_Registry → Int → Option (api_Backend × Bool)) (registry_Registry_Get_nil : Int → Option (api_Backend × Bool)) (stateless_Open : api_Key → api_Tuple → Int → Option (Int × Bool)) (hS : SumsOK Try.prog (aget (sums67 registry_Registry_Get registry_Registry_Get_nil stateless_Open))) (ga0 : registry_Registry) (k : api_Key) (t : api_Tuple) (n : Int) (res : api_Backend × Bool) (h : stateless_FindF registry_Registry_Get registry_Registry_Get_nil stateless_Open ga0 k t n = some res) :
    Leads Try.prog 67 2 ⟨⟨67, 39, [(0, .pointer (some ⟨0, 0, none⟩)), (1, .agg ⟨[.int .u64 k.A, .int .u64 k.B]⟩), (2, .agg ⟨[.int .i64 t.Proto, .bool t.Src.V6, .int .u64 t.Src.Hi, .int .u64 t.Src.Lo, .bool t.Dst.V6, .int .u64 t.Dst.Hi, .int .u64 t.Dst.Lo, .int .i64 t.SPort, .int .i64 t.DPort]⟩), (3, .int .u64 n)], [.code k67_19], [], false, none⟩, [], [(0, .row false [.int .i64 ga0.rule.Rise, .int .i64 ga0.rule.Fall, .slice (some ⟨1, 0, none⟩) ga0.rows.length 9, .int .i64 ga0.last, .int .i64 ga0.version]), (1, .row false (vT cregistry_row ga0.rows))], 2⟩ (fun v H _ => Res 2 (rx67 res) v H) := by
  unfold stateless_FindF at h
  refine ev_ok tab_ok hS true 3000 ?_
  conv => whnf
  replace h := obind.elim h; obtain ⟨xo, hy, h⟩ := h
  refine sumK.q rfl rfl (r65_eq hy) rfl rfl rfl ?_
  conv => whnf
  refine br.h h ?_ ?_ ?_
  · rfl
  · clear h; intro hb h; conv => whnf
    all_goals (cases h)
    all_goals exact Res.of [] rfl nw_0 (by decide) js_0 (wr_n (wr_n wr_0))
  clear h; intro hb h; conv => whnf
  replace h := obind.elim h; obtain ⟨xg, hy, h⟩ := h
  refine sumK.introF [] (sumRun_of (aqs := [.pointer (some ⟨0, 0, none⟩), .int .i64 xo.1]) (ws := [.blk 0 false, .blk 1 false]) (n := 0) (m := 0) (t' := 5) (ra_cons (ra_tr rfl rfl (vp_at rfl rfl rfl rfl (vp_at rfl rfl (rn_T cregistry_row_flat) rfl vp_nil)) rfl) rfl (ra_cons rfl rfl ra_nil)) rfl (by rfl) (r18_eq hy) rfl rfl rfl rfl (wb_skip rfl (wb_skip rfl wb_nil)) an_nil rfl) ?_
  conv => whnf
  refine br.h h ?_ ?_ ?_
  · rfl
  · clear h; intro hb h; conv => whnf
    all_goals (cases h)
    all_goals exact Res.of [] rfl nw_0 (by decide) js_0 (wr_n (wr_n wr_0))
  clear h; intro hb h; conv => whnf
  refine br.h h ?_ ?_ ?_
  · rfl
  · clear h; intro hb h; conv => whnf
    all_goals (cases h)
    all_goals exact Res.of [] rfl nw_0 (by decide) js_0 (wr_n (wr_n wr_0))
  clear h; intro hb h; conv => whnf
  all_goals (cases h)
  all_goals exact Res.of [] rfl nw_0 (by decide) js_0 (wr_n (wr_n wr_0))
theorem ok67 (registry_Registry_Get : registry_Registry → Int → Option (api_Backend × Bool)) (registry_Registry_Get_nil : Int → Option (api_Backend × Bool)) (stateless_Open : api_Key → api_Tuple → Int → Option (Int × Bool)) (hS : SumsOK Try.prog (aget (sums67 registry_Registry_Get registry_Registry_Get_nil stateless_Open))) (hS2 : SumsOK Try.prog (aget (sums67n registry_Registry_Get registry_Registry_Get_nil stateless_Open))) : SumOK Try.prog 67 (s67 (stateless_FindF registry_Registry_Get registry_Registry_Get_nil stateless_Open) (stateless_Find_nilF registry_Registry_Get registry_Registry_Get_nil stateless_Open)) := by
  refine SumOK.of_leads tab_ok (fun ar os r ha hr => ?_) ⟨Try.f67, rfl, by decide, rfl⟩
  have hp := pickN.elim hr; clear hr; rcases hp with hr | hr
  · skip
    replace hr : r67 (stateless_FindF registry_Registry_Get registry_Registry_Get_nil stateless_Open) ar (conts os) = some r := hr
    unfold r67 at hr
    generalize hc : conts os = C at hr
    have hq := dTr.elim hr; clear hr; obtain ⟨v0, l1, c0, C, y0, rfl, rfl, e0, hr⟩ := hq; obtain ⟨rfl, rfl⟩ := udregistry_Registry_eq e0; simp only [List.nil_append, List.cons_append] at hc
    replace hr := dV.elim hr; obtain ⟨v1, l2, y1, rfl, e1, hr⟩ := hr; obtain rfl := uvapi_Key_eq _ _ e1
    replace hr := dV.elim hr; obtain ⟨v2, l3, y2, rfl, e2, hr⟩ := hr; obtain rfl := uvapi_Tuple_eq _ _ e2
    replace hr := dV.elim hr; obtain ⟨v3, l4, y3, rfl, e3, hr⟩ := hr; obtain rfl := asI_eq _ _ _ e3
    replace hr := dFin hr; obtain ⟨rfl, rfl, x, h, rfl⟩ := hr
    obtain ⟨os, rfl, ha, hc⟩ := kinds_some ha hc
    obtain ⟨os, rfl, ha, hc⟩ := kinds_some ha hc
    obtain rfl := kinds_nil hc
    exact ⟨_, rfl, leads67 registry_Registry_Get registry_Registry_Get_nil stateless_Open hS _ _ _ _ x h⟩
  · skip
    replace hr : r67n (stateless_Find_nilF registry_Registry_Get registry_Registry_Get_nil stateless_Open) ar (conts os) = some r := hr
    unfold r67n at hr
    generalize hc : conts os = C at hr
    have hq := dNl.elim hr; clear hr; obtain ⟨l1, C, rfl, rfl, hr⟩ := hq; simp only [List.replicate, List.nil_append, List.cons_append] at hc
    replace hr := dV.elim hr; obtain ⟨v1, l2, y1, rfl, e1, hr⟩ := hr; obtain rfl := uvapi_Key_eq _ _ e1
    replace hr := dV.elim hr; obtain ⟨v2, l3, y2, rfl, e2, hr⟩ := hr; obtain rfl := uvapi_Tuple_eq _ _ e2
    replace hr := dV.elim hr; obtain ⟨v3, l4, y3, rfl, e3, hr⟩ := hr; obtain rfl := asI_eq _ _ _ e3
    replace hr := dFin hr; obtain ⟨rfl, rfl, x, h, rfl⟩ := hr
    obtain ⟨os, rfl, ha, hc⟩ := kinds_none ha hc
    obtain ⟨os, rfl, ha, hc⟩ := kinds_none ha hc
    obtain rfl := kinds_nil hc
    exact ⟨_, rfl, leads67n registry_Registry_Get registry_Registry_Get_nil stateless_Open hS2 _ _ _ x h⟩
def stateless_Find : registry_Registry → api_Key → api_Tuple → Int → Option (api_Backend × Bool) := stateless_FindF registry_Registry_Get registry_Registry_Get_nil stateless_Open
def stateless_Find_nil : api_Key → api_Tuple → Int → Option (api_Backend × Bool) := stateless_Find_nilF registry_Registry_Get registry_Registry_Get_nil stateless_Open
theorem lift67 : SumOK Try.prog 67 (s67 stateless_Find stateless_Find_nil) := ok67 registry_Registry_Get registry_Registry_Get_nil stateless_Open (SumsOK.of_tab ⟨lift18, lift65, trivial⟩) (SumsOK.of_tab ⟨lift18, lift65, trivial⟩)
def R32_layoutF (t : api_Tuple) : Option api_Layout :=
  some (api_Layout.mk (t.Proto != 6) 0 0)
def rx93 (x : api_Layout) : SRes := ⟨.agg ⟨[.bool x.Wide, .int .i64 x.Slot, .int .i64 x.Gen]⟩, [], []⟩
def r93 (g : api_Tuple → Option api_Layout) : Dec := dV uvapi_Tuple fun (y0 : api_Tuple) => dEnd (ofG (g y0) rx93)
theorem r93_c {g : api_Tuple → Option api_Layout} {y0 : api_Tuple} {x : api_Layout} (hx : g y0 = some x) : r93 g [.agg ⟨[.int .i64 y0.Proto, .bool y0.Src.V6, .int .u64 y0.Src.Hi, .int .u64 y0.Src.Lo, .bool y0.Dst.V6, .int .u64 y0.Dst.Hi, .int .u64 y0.Dst.Lo, .int .i64 y0.SPort, .int .i64 y0.DPort]⟩] [] = some (rx93 x) := (dV_eq (uvapi_Tuple_c _)).trans (ofG_eq hx)
def s93 (g : api_Tuple → Option api_Layout) : Summ := ⟨[.v], r93 g⟩
theorem r93_eq {g : api_Tuple → Option api_Layout} {y0 : api_Tuple} {x : api_Layout} (hx : g y0 = some x) : (s93 g).run [.agg ⟨[.int .i64 y0.Proto, .bool y0.Src.V6, .int .u64 y0.Src.Hi, .int .u64 y0.Src.Lo, .bool y0.Dst.V6, .int .u64 y0.Dst.Hi, .int .u64 y0.Dst.Lo, .int .i64 y0.SPort, .int .i64 y0.DPort]⟩] [] = some (rx93 x) := r93_c hx
abbrev sums93 : List (Nat × Summ) := []
theorem leads93 (hS : SumsOK Try.prog (aget (sums93))) (t : api_Tuple) (res : api_Layout) (h : R32_layoutF t = some res) :
    Leads Try.prog 93 0 ⟨⟨93, 7, [(0, .agg ⟨[.int .i64 t.Proto, .bool t.Src.V6, .int .u64 t.Src.Hi, .int .u64 t.Src.Lo, .bool t.Dst.V6, .int .u64 t.Dst.Hi, .int .u64 t.Dst.Lo, .int .i64 t.SPort, .int .i64 t.DPort]⟩)], [.code k93_3], [], false, none⟩, [], [], 0⟩ (fun v H _ => Res 0 (rx93 res) v H) := by
  unfold R32_layoutF at h
  refine ev_ok tab_ok hS true 3000 ?_
  conv => whnf
  all_goals (cases h; exact Res.z rfl rfl rfl)
theorem ok93 (hS : SumsOK Try.prog (aget (sums93))) : SumOK Try.prog 93 (s93 (R32_layoutF)) := by
  refine SumOK.of_leads tab_ok (fun ar os r ha hr => ?_) ⟨Try.f93, rfl, by decide, rfl⟩
  replace hr : r93 (R32_layoutF) ar (conts os) = some r := hr
  unfold r93 at hr
  generalize hc : conts os = C at hr
  replace hr := dV.elim hr; obtain ⟨v0, l1, y0, rfl, e0, hr⟩ := hr; obtain rfl := uvapi_Tuple_eq _ _ e0
  replace hr := dFin hr; obtain ⟨rfl, rfl, x, h, rfl⟩ := hr
  obtain rfl := kinds_nil hc
  exact ⟨_, rfl, leads93 hS _ x h⟩
def R32_layout : api_Tuple → Option api_Layout := R32_layoutF
theorem lift93 : SumOK Try.prog 93 (s93 R32_layout) := ok93 (SumsOK.of_tab trivial)
def R32_MakeF (R14_Mask : api_Layout → api_Key → api_Tuple → Int → Option Int) (R32_layout : api_Tuple → Option api_Layout) (k : api_Key) (t : api_Tuple) (ida2 : Int) : Option Int :=
  cond (decide (ida2 < 1))
    (
    some (0))
    (
    cond (decide (ida2 > 65535))
      (
      some (0))
      (
      (R32_layout t).bind fun l =>
      (R14_Mask l k t (wI .u64 ida2)).bind fun m =>
      some (m)))
def rx38 (x : Int) : SRes := ⟨.int .u64 x, [], []⟩
def r38 (g : api_Key → api_Tuple → Int → Option Int) : Dec := dV uvapi_Key fun (y0 : api_Key) => dV uvapi_Tuple fun (y1 : api_Tuple) => dV (asI .i64) fun (y2 : Int) => dEnd (ofG (g y0 y1 y2) rx38)
theorem r38_c {g : api_Key → api_Tuple → Int → Option Int} {y0 : api_Key} {y1 : api_Tuple} {y2 : Int} {x : Int} (hx : g y0 y1 y2 = some x) : r38 g [.agg ⟨[.int .u64 y0.A, .int .u64 y0.B]⟩, .agg ⟨[.int .i64 y1.Proto, .bool y1.Src.V6, .int .u64 y1.Src.Hi, .int .u64 y1.Src.Lo, .bool y1.Dst.V6, .int .u64 y1.Dst.Hi, .int .u64 y1.Dst.Lo, .int .i64 y1.SPort, .int .i64 y1.DPort]⟩, .int .i64 y2] [] = some (rx38 x) := (dV_eq (uvapi_Key_c _)).trans ((dV_eq (uvapi_Tuple_c _)).trans ((dV_eq (asI_c _)).trans (ofG_eq hx)))
def s38 (g : api_Key → api_Tuple → Int → Option Int) : Summ := ⟨[.v, .v, .v], r38 g⟩
theorem r38_eq {g : api_Key → api_Tuple → Int → Option Int} {y0 : api_Key} {y1 : api_Tuple} {y2 : Int} {x : Int} (hx : g y0 y1 y2 = some x) : (s38 g).run [.agg ⟨[.int .u64 y0.A, .int .u64 y0.B]⟩, .agg ⟨[.int .i64 y1.Proto, .bool y1.Src.V6, .int .u64 y1.Src.Hi, .int .u64 y1.Src.Lo, .bool y1.Dst.V6, .int .u64 y1.Dst.Hi, .int .u64 y1.Dst.Lo, .int .i64 y1.SPort, .int .i64 y1.DPort]⟩, .int .i64 y2] [] = some (rx38 x) := r38_c hx
abbrev sums38 (R14_Mask : api_Layout → api_Key → api_Tuple → Int → Option Int) (R32_layout : api_Tuple → Option api_Layout) : List (Nat × Summ) := [(92, s92 R14_Mask), (93, s93 R32_layout)]
theorem leads38 (R14_Mask : api_Layout → api_Key → api_Tuple → Int → Option Int) (R32_layout : api_Tuple → Option api_Layout) (hS : SumsOK Try.prog (aget (sums38 R14_Mask R32_layout))) (k : api_Key) (t : api_Tuple) (ida2 : Int) (res : Int) (h : R32_MakeF R14_Mask R32_layout k t ida2 = some res) :
    Leads Try.prog 38 0 ⟨⟨38, 20, [(0, .agg ⟨[.int .u64 k.A, .int .u64 k.B]⟩), (1, .agg ⟨[.int .i64 t.Proto, .bool t.Src.V6, .int .u64 t.Src.Hi, .int .u64 t.Src.Lo, .bool t.Dst.V6, .int .u64 t.Dst.Hi, .int .u64 t.Dst.Lo, .int .i64 t.SPort, .int .i64 t.DPort]⟩), (2, .int .i64 ida2)], [.code k38_9], [], false, none⟩, [], [], 0⟩ (fun v H _ => Res 0 (rx38 res) v H) := by
  unfold R32_MakeF at h
  refine ev_ok tab_ok hS true 3000 ?_
  conv => whnf
  refine br.h h ?_ ?_ ?_
  · rfl
  · clear h; intro hb h; conv => whnf
    all_goals (cases h; exact Res.z rfl rfl rfl)
  clear h; intro hb h; conv => whnf
  refine br.h h ?_ ?_ ?_
  · rfl
  · clear h; intro hb h; conv => whnf
    all_goals (cases h; exact Res.z rfl rfl rfl)
  clear h; intro hb h; conv => whnf
  replace h := obind.elim h; obtain ⟨l, hy, h⟩ := h
  refine sumK.q rfl rfl (r93_eq hy) rfl rfl rfl ?_
  conv => whnf
  replace h := obind.elim h; obtain ⟨m, hy, h⟩ := h
  refine sumK.q rfl rfl (r92_eq hy) rfl rfl rfl ?_
  conv => whnf
  all_goals (cases h; exact Res.z rfl rfl rfl)
theorem ok38 (R14_Mask : api_Layout → api_Key → api_Tuple → Int → Option Int) (R32_layout : api_Tuple → Option api_Layout) (hS : SumsOK Try.prog (aget (sums38 R14_Mask R32_layout))) : SumOK Try.prog 38 (s38 (R32_MakeF R14_Mask R32_layout)) := by
  refine SumOK.of_leads tab_ok (fun ar os r ha hr => ?_) ⟨Try.f38, rfl, by decide, rfl⟩
  replace hr : r38 (R32_MakeF R14_Mask R32_layout) ar (conts os) = some r := hr
  unfold r38 at hr
  generalize hc : conts os = C at hr
  replace hr := dV.elim hr; obtain ⟨v0, l1, y0, rfl, e0, hr⟩ := hr; obtain rfl := uvapi_Key_eq _ _ e0
  replace hr := dV.elim hr; obtain ⟨v1, l2, y1, rfl, e1, hr⟩ := hr; obtain rfl := uvapi_Tuple_eq _ _ e1
  replace hr := dV.elim hr; obtain ⟨v2, l3, y2, rfl, e2, hr⟩ := hr; obtain rfl := asI_eq _ _ _ e2
  replace hr := dFin hr; obtain ⟨rfl, rfl, x, h, rfl⟩ := hr
  obtain rfl := kinds_nil hc
  exact ⟨_, rfl, leads38 R14_Mask R32_layout hS _ _ _ x h⟩
def R32_Make : api_Key → api_Tuple → Int → Option Int := R32_MakeF R14_Mask R32_layout
theorem lift38 : SumOK Try.prog 38 (s38 R32_Make) := ok38 R14_Mask R32_layout (SumsOK.of_tab ⟨lift92, lift93, trivial⟩)
def R32_OpenF (R14_Mask : api_Layout → api_Key → api_Tuple → Int → Option Int) (R32_Make : api_Key → api_Tuple → Int → Option Int) (R32_layout : api_Tuple → Option api_Layout) (k : api_Key) (t : api_Tuple) (cookie : Int) : Option (Int × Bool) :=
  (R32_layout t).bind fun l =>
  (R14_Mask l k t cookie).bind fun m =>
  cond (decide (m < 1))
    (
    some ((0, false)))
    (
    cond (decide (m > 65535))
      (
      some ((0, false)))
      (
      (R32_Make k t (wI .i64 m)).bind fun m1 =>
      cond (m1 != cookie)
        (
        some ((0, false)))
        (
        some ((wI .i64 m, true)))))
def rx46 (x : Int × Bool) : SRes := ⟨.tuple ⟨[.int .i64 x.1, .bool x.2]⟩, [], []⟩
def r46 (g : api_Key → api_Tuple → Int → Option (Int × Bool)) : Dec := dV uvapi_Key fun (y0 : api_Key) => dV uvapi_Tuple fun (y1 : api_Tuple) => dV (asI .u64) fun (y2 : Int) => dEnd (ofG (g y0 y1 y2) rx46)
theorem r46_c {g : api_Key → api_Tuple → Int → Option (Int × Bool)} {y0 : api_Key} {y1 : api_Tuple} {y2 : Int} {x : Int × Bool} (hx : g y0 y1 y2 = some x) : r46 g [.agg ⟨[.int .u64 y0.A, .int .u64 y0.B]⟩, .agg ⟨[.int .i64 y1.Proto, .bool y1.Src.V6, .int .u64 y1.Src.Hi, .int .u64 y1.Src.Lo, .bool y1.Dst.V6, .int .u64 y1.Dst.Hi, .int .u64 y1.Dst.Lo, .int .i64 y1.SPort, .int .i64 y1.DPort]⟩, .int .u64 y2] [] = some (rx46 x) := (dV_eq (uvapi_Key_c _)).trans ((dV_eq (uvapi_Tuple_c _)).trans ((dV_eq (asI_c _)).trans (ofG_eq hx)))
def s46 (g : api_Key → api_Tuple → Int → Option (Int × Bool)) : Summ := ⟨[.v, .v, .v], r46 g⟩
theorem r46_eq {g : api_Key → api_Tuple → Int → Option (Int × Bool)} {y0 : api_Key} {y1 : api_Tuple} {y2 : Int} {x : Int × Bool} (hx : g y0 y1 y2 = some x) : (s46 g).run [.agg ⟨[.int .u64 y0.A, .int .u64 y0.B]⟩, .agg ⟨[.int .i64 y1.Proto, .bool y1.Src.V6, .int .u64 y1.Src.Hi, .int .u64 y1.Src.Lo, .bool y1.Dst.V6, .int .u64 y1.Dst.Hi, .int .u64 y1.Dst.Lo, .int .i64 y1.SPort, .int .i64 y1.DPort]⟩, .int .u64 y2] [] = some (rx46 x) := r46_c hx
abbrev sums46 (R14_Mask : api_Layout → api_Key → api_Tuple → Int → Option Int) (R32_Make : api_Key → api_Tuple → Int → Option Int) (R32_layout : api_Tuple → Option api_Layout) : List (Nat × Summ) := [(92, s92 R14_Mask), (38, s38 R32_Make), (93, s93 R32_layout)]
theorem leads46 (R14_Mask : api_Layout → api_Key → api_Tuple → Int → Option Int) (R32_Make : api_Key → api_Tuple → Int → Option Int) (R32_layout : api_Tuple → Option api_Layout) (hS : SumsOK Try.prog (aget (sums46 R14_Mask R32_Make R32_layout))) (k : api_Key) (t : api_Tuple) (cookie : Int) (res : Int × Bool) (h : R32_OpenF R14_Mask R32_Make R32_layout k t cookie = some res) :
    Leads Try.prog 46 0 ⟨⟨46, 32, [(0, .agg ⟨[.int .u64 k.A, .int .u64 k.B]⟩), (1, .agg ⟨[.int .i64 t.Proto, .bool t.Src.V6, .int .u64 t.Src.Hi, .int .u64 t.Src.Lo, .bool t.Dst.V6, .int .u64 t.Dst.Hi, .int .u64 t.Dst.Lo, .int .i64 t.SPort, .int .i64 t.DPort]⟩), (2, .int .u64 cookie)], [.code k46_11], [], false, none⟩, [], [], 0⟩ (fun v H _ => Res 0 (rx46 res) v H) := by
  unfold R32_OpenF at h
  refine ev_ok tab_ok hS true 3000 ?_
  conv => whnf
  replace h := obind.elim h; obtain ⟨l, hy, h⟩ := h
  refine sumK.q rfl rfl (r93_eq hy) rfl rfl rfl ?_
  conv => whnf
  replace h := obind.elim h; obtain ⟨m, hy, h⟩ := h
  refine sumK.q rfl rfl (r92_eq hy) rfl rfl rfl ?_
  conv => whnf
  refine br.h h ?_ ?_ ?_
  · rfl
  · clear h; intro hb h; conv => whnf
    all_goals (cases h; exact Res.z rfl rfl rfl)
  clear h; intro hb h; conv => whnf
  refine br.h h ?_ ?_ ?_
  · rfl
  · clear h; intro hb h; conv => whnf
    all_goals (cases h; exact Res.z rfl rfl rfl)
  clear h; intro hb h; conv => whnf
  replace h := obind.elim h; obtain ⟨m1, hy, h⟩ := h
  refine sumK.q rfl rfl (r38_eq hy) rfl rfl rfl ?_
  conv => whnf
  refine br.h h ?_ ?_ ?_
  · rfl
  · clear h; intro hb h; conv => whnf
    all_goals (cases h; exact Res.z rfl rfl rfl)
  clear h; intro hb h; conv => whnf
  all_goals (cases h; exact Res.z rfl rfl rfl)
theorem ok46 (R14_Mask : api_Layout → api_Key → api_Tuple → Int → Option Int) (R32_Make : api_Key → api_Tuple → Int → Option Int) (R32_layout : api_Tuple → Option api_Layout) (hS : SumsOK Try.prog (aget (sums46 R14_Mask R32_Make R32_layout))) : SumOK Try.prog 46 (s46 (R32_OpenF R14_Mask R32_Make R32_layout)) := by
  refine SumOK.of_leads tab_ok (fun ar os r ha hr => ?_) ⟨Try.f46, rfl, by decide, rfl⟩
  replace hr : r46 (R32_OpenF R14_Mask R32_Make R32_layout) ar (conts os) = some r := hr
  unfold r46 at hr
  generalize hc : conts os = C at hr
  replace hr := dV.elim hr; obtain ⟨v0, l1, y0, rfl, e0, hr⟩ := hr; obtain rfl := uvapi_Key_eq _ _ e0
  replace hr := dV.elim hr; obtain ⟨v1, l2, y1, rfl, e1, hr⟩ := hr; obtain rfl := uvapi_Tuple_eq _ _ e1
  replace hr := dV.elim hr; obtain ⟨v2, l3, y2, rfl, e2, hr⟩ := hr; obtain rfl := asI_eq _ _ _ e2
  replace hr := dFin hr; obtain ⟨rfl, rfl, x, h, rfl⟩ := hr
  obtain rfl := kinds_nil hc
  exact ⟨_, rfl, leads46 R14_Mask R32_Make R32_layout hS _ _ _ x h⟩
def R32_Open : api_Key → api_Tuple → Int → Option (Int × Bool) := R32_OpenF R14_Mask R32_Make R32_layout
theorem lift46 : SumOK Try.prog 46 (s46 R32_Open) := ok46 R14_Mask R32_Make R32_layout (SumsOK.of_tab ⟨lift92, lift38, lift93, trivial⟩)
def R32_FindF (R23_Registry_Get : R23_Registry → Int → Option (api_Backend × Bool)) (R32_Open : api_Key → api_Tuple → Int → Option (Int × Bool)) (ga0 : R23_Registry) (k : api_Key) (t : api_Tuple) (cookie : Int) : Option (api_Backend × Bool) :=
  (R32_Open k t cookie).bind fun xo =>
  cond (!xo.2)
    (
    some ((api_Backend.mk 0 0 0 (api_Addr.mk false 0 0), false)))
    (
    (R23_Registry_Get ga0 xo.1).bind fun xg =>
    cond (!xg.2)
      (
      some ((api_Backend.mk 0 0 0 (api_Addr.mk false 0 0), false)))
      (
      cond (xg.1.State == 4)
        (
        some ((api_Backend.mk 0 0 0 (api_Addr.mk false 0 0), false)))
        (
        some ((xg.1, true)))))
def rx68 (x : api_Backend × Bool) : SRes := ⟨.tuple ⟨[.agg ⟨[.int .i64 x.1.ID, .int .i64 x.1.Weight, .int .i64 x.1.State, .bool x.1.Addr.V6, .int .u64 x.1.Addr.Hi, .int .u64 x.1.Addr.Lo]⟩, .bool x.2]⟩, [], [none, none]⟩
def r68 (g : R23_Registry → api_Key → api_Tuple → Int → Option (api_Backend × Bool)) : Dec := dTr 2 (udR23_Registry 0) fun (y0 : R23_Registry) => dV uvapi_Key fun (y1 : api_Key) => dV uvapi_Tuple fun (y2 : api_Tuple) => dV (asI .u64) fun (y3 : Int) => dEnd (ofG (g y0 y1 y2 y3) rx68)
theorem r68_c {g : R23_Registry → api_Key → api_Tuple → Int → Option (api_Backend × Bool)} {y0 : R23_Registry} {y1 : api_Key} {y2 : api_Tuple} {y3 : Int} {x : api_Backend × Bool} (hx : g y0 y1 y2 y3 = some x) : r68 g [.pointer (some ⟨0, 0, none⟩), .agg ⟨[.int .u64 y1.A, .int .u64 y1.B]⟩, .agg ⟨[.int .i64 y2.Proto, .bool y2.Src.V6, .int .u64 y2.Src.Hi, .int .u64 y2.Src.Lo, .bool y2.Dst.V6, .int .u64 y2.Dst.Hi, .int .u64 y2.Dst.Lo, .int .i64 y2.SPort, .int .i64 y2.DPort]⟩, .int .u64 y3] [some [.int .i64 y0.Rule.Rise, .int .i64 y0.Rule.Fall, .slice (some ⟨1, 0, none⟩) y0.L.length 8, .int .i64 y0.Last, .int .i64 y0.Version], some (vT cR23_Row y0.L)] = some (rx68 x) := (dTr_eq rfl rfl (udR23_Registry_c 0 _)).trans ((dV_eq (uvapi_Key_c _)).trans ((dV_eq (uvapi_Tuple_c _)).trans ((dV_eq (asI_c _)).trans (ofG_eq hx))))
def s68 (g : R23_Registry → api_Key → api_Tuple → Int → Option (api_Backend × Bool)) : Summ := ⟨[.tr [⟨none, 0, 0, 0, none⟩, ⟨some 0, 2, 0, 0, some 8⟩], .v, .v, .v], r68 g⟩
theorem r68_eq {g : R23_Registry → api_Key → api_Tuple → Int → Option (api_Backend × Bool)} {y0 : R23_Registry} {y1 : api_Key} {y2 : api_Tuple} {y3 : Int} {x : api_Backend × Bool} (hx : g y0 y1 y2 y3 = some x) : (s68 g).run [.pointer (some ⟨0, 0, none⟩), .agg ⟨[.int .u64 y1.A, .int .u64 y1.B]⟩, .agg ⟨[.int .i64 y2.Proto, .bool y2.Src.V6, .int .u64 y2.Src.Hi, .int .u64 y2.Src.Lo, .bool y2.Dst.V6, .int .u64 y2.Dst.Hi, .int .u64 y2.Dst.Lo, .int .i64 y2.SPort, .int .i64 y2.DPort]⟩, .int .u64 y3] [some [.int .i64 y0.Rule.Rise, .int .i64 y0.Rule.Fall, .slice (some ⟨1, 0, none⟩) y0.L.length 8, .int .i64 y0.Last, .int .i64 y0.Version], some (vT cR23_Row y0.L)] = some (rx68 x) := r68_c hx
abbrev sums68 (R23_Registry_Get : R23_Registry → Int → Option (api_Backend × Bool)) (R32_Open : api_Key → api_Tuple → Int → Option (Int × Bool)) : List (Nat × Summ) := [(19, s19 R23_Registry_Get), (46, s46 R32_Open)]
theorem leads68 (R23_Registry_Get : R23_Registry → Int → Option (api_Backend × Bool)) (R32_Open : api_Key → api_Tuple → Int → Option (Int × Bool)) (hS : SumsOK Try.prog (aget (sums68 R23_Registry_Get R32_Open))) (ga0 : R23_Registry) (k : api_Key) (t : api_Tuple) (cookie : Int) (res : api_Backend × Bool) (h : R32_FindF R23_Registry_Get R32_Open ga0 k t cookie = some res) :
    Leads Try.prog 68 2 ⟨⟨68, 39, [(0, .pointer (some ⟨0, 0, none⟩)), (1, .agg ⟨[.int .u64 k.A, .int .u64 k.B]⟩), (2, .agg ⟨[.int .i64 t.Proto, .bool t.Src.V6, .int .u64 t.Src.Hi, .int .u64 t.Src.Lo, .bool t.Dst.V6, .int .u64 t.Dst.Hi, .int .u64 t.Dst.Lo, .int .i64 t.SPort, .int .i64 t.DPort]⟩), (3, .int .u64 cookie)], [.code k68_19], [], false, none⟩, [], [(0, .row false [.int .i64 ga0.Rule.Rise, .int .i64 ga0.Rule.Fall, .slice (some ⟨1, 0, none⟩) ga0.L.length 8, .int .i64 ga0.Last, .int .i64 ga0.Version]), (1, .row false (vT cR23_Row ga0.L))], 2⟩ (fun v H _ => Res 2 (rx68 res) v H) := by
  unfold R32_FindF at h
  refine ev_ok tab_ok hS true 3000 ?_
  conv => whnf
  replace h := obind.elim h; obtain ⟨xo, hy, h⟩ := h
  refine sumK.q rfl rfl (r46_eq hy) rfl rfl rfl ?_
  conv => whnf
  refine br.h h ?_ ?_ ?_
  · rfl
  · clear h; intro hb h; conv => whnf
    all_goals (cases h)
    all_goals exact Res.of [] rfl nw_0 (by decide) js_0 (wr_n (wr_n wr_0))
  clear h; intro hb h; conv => whnf
  replace h := obind.elim h; obtain ⟨xg, hy, h⟩ := h
  refine sumK.introF [] (sumRun_of (aqs := [.pointer (some ⟨0, 0, none⟩), .int .i64 xo.1]) (ws := [.blk 0 false, .blk 1 false]) (n := 0) (m := 0) (t' := 5) (ra_cons (ra_tr rfl rfl (vp_at rfl rfl rfl rfl (vp_at rfl rfl (rn_T cR23_Row_flat) rfl vp_nil)) rfl) rfl (ra_cons rfl rfl ra_nil)) rfl (by rfl) (r19_eq hy) rfl rfl rfl rfl (wb_skip rfl (wb_skip rfl wb_nil)) an_nil rfl) ?_
  conv => whnf
  refine br.h h ?_ ?_ ?_
  · rfl
  · clear h; intro hb h; conv => whnf
    all_goals (cases h)
    all_goals exact Res.of [] rfl nw_0 (by decide) js_0 (wr_n (wr_n wr_0))
  clear h; intro hb h; conv => whnf
  refine br.h h ?_ ?_ ?_
  · rfl
  · clear h; intro hb h; conv => whnf
    all_goals (cases h)
    all_goals exact Res.of [] rfl nw_0 (by decide) js_0 (wr_n (wr_n wr_0))
  clear h; intro hb h; conv => whnf
  all_goals (cases h)
  all_goals exact Res.of [] rfl nw_0 (by decide) js_0 (wr_n (wr_n wr_0))
theorem ok68 (R23_Registry_Get : R23_Registry → Int → Option (api_Backend × Bool)) (R32_Open : api_Key → api_Tuple → Int → Option (Int × Bool)) (hS : SumsOK Try.prog (aget (sums68 R23_Registry_Get R32_Open))) : SumOK Try.prog 68 (s68 (R32_FindF R23_Registry_Get R32_Open)) := by
  refine SumOK.of_leads tab_ok (fun ar os r ha hr => ?_) ⟨Try.f68, rfl, by decide, rfl⟩
  replace hr : r68 (R32_FindF R23_Registry_Get R32_Open) ar (conts os) = some r := hr
  unfold r68 at hr
  generalize hc : conts os = C at hr
  have hq := dTr.elim hr; clear hr; obtain ⟨v0, l1, c0, C, y0, rfl, rfl, e0, hr⟩ := hq; obtain ⟨rfl, rfl⟩ := udR23_Registry_eq e0; simp only [List.nil_append, List.cons_append] at hc
  replace hr := dV.elim hr; obtain ⟨v1, l2, y1, rfl, e1, hr⟩ := hr; obtain rfl := uvapi_Key_eq _ _ e1
  replace hr := dV.elim hr; obtain ⟨v2, l3, y2, rfl, e2, hr⟩ := hr; obtain rfl := uvapi_Tuple_eq _ _ e2
  replace hr := dV.elim hr; obtain ⟨v3, l4, y3, rfl, e3, hr⟩ := hr; obtain rfl := asI_eq _ _ _ e3
  replace hr := dFin hr; obtain ⟨rfl, rfl, x, h, rfl⟩ := hr
  obtain ⟨os, rfl, ha, hc⟩ := kinds_some ha hc
  obtain ⟨os, rfl, ha, hc⟩ := kinds_some ha hc
  obtain rfl := kinds_nil hc
  exact ⟨_, rfl, leads68 R23_Registry_Get R32_Open hS _ _ _ _ x h⟩
def R32_Find : R23_Registry → api_Key → api_Tuple → Int → Option (api_Backend × Bool) := R32_FindF R23_Registry_Get R32_Open
theorem lift68 : SumOK Try.prog 68 (s68 R32_Find) := ok68 R23_Registry_Get R32_Open (SumsOK.of_tab ⟨lift19, lift46, trivial⟩)
def stateless_MakeF (stateless_mask : api_Key → api_Tuple → Int → Option Int) (stateless_within : Int → Option Bool) (k : api_Key) (t : api_Tuple) (ida2 : Int) : Option Int :=
  cond (decide (ida2 < 0))
    (
    some (0))
    (
    (stateless_within (wI .u64 ida2)).bind fun w =>
    cond (!w)
      (
      some (0))
      (
      (stateless_mask k t (wI .u64 ida2)).bind fun m =>
      some (m)))
def rx64 (x : Int) : SRes := ⟨.int .u64 x, [], []⟩
def r64 (g : api_Key → api_Tuple → Int → Option Int) : Dec := dV uvapi_Key fun (y0 : api_Key) => dV uvapi_Tuple fun (y1 : api_Tuple) => dV (asI .i64) fun (y2 : Int) => dEnd (ofG (g y0 y1 y2) rx64)
theorem r64_c {g : api_Key → api_Tuple → Int → Option Int} {y0 : api_Key} {y1 : api_Tuple} {y2 : Int} {x : Int} (hx : g y0 y1 y2 = some x) : r64 g [.agg ⟨[.int .u64 y0.A, .int .u64 y0.B]⟩, .agg ⟨[.int .i64 y1.Proto, .bool y1.Src.V6, .int .u64 y1.Src.Hi, .int .u64 y1.Src.Lo, .bool y1.Dst.V6, .int .u64 y1.Dst.Hi, .int .u64 y1.Dst.Lo, .int .i64 y1.SPort, .int .i64 y1.DPort]⟩, .int .i64 y2] [] = some (rx64 x) := (dV_eq (uvapi_Key_c _)).trans ((dV_eq (uvapi_Tuple_c _)).trans ((dV_eq (asI_c _)).trans (ofG_eq hx)))
def s64 (g : api_Key → api_Tuple → Int → Option Int) : Summ := ⟨[.v, .v, .v], r64 g⟩
theorem r64_eq {g : api_Key → api_Tuple → Int → Option Int} {y0 : api_Key} {y1 : api_Tuple} {y2 : Int} {x : Int} (hx : g y0 y1 y2 = some x) : (s64 g).run [.agg ⟨[.int .u64 y0.A, .int .u64 y0.B]⟩, .agg ⟨[.int .i64 y1.Proto, .bool y1.Src.V6, .int .u64 y1.Src.Hi, .int .u64 y1.Src.Lo, .bool y1.Dst.V6, .int .u64 y1.Dst.Hi, .int .u64 y1.Dst.Lo, .int .i64 y1.SPort, .int .i64 y1.DPort]⟩, .int .i64 y2] [] = some (rx64 x) := r64_c hx
abbrev sums64 (stateless_mask : api_Key → api_Tuple → Int → Option Int) (stateless_within : Int → Option Bool) : List (Nat × Summ) := [(120, s120 stateless_mask), (119, s119 stateless_within)]
theorem leads64 (stateless_mask : api_Key → api_Tuple → Int → Option Int) (stateless_within : Int → Option Bool) (hS : SumsOK Try.prog (aget (sums64 stateless_mask stateless_within))) (k : api_Key) (t : api_Tuple) (ida2 : Int) (res : Int) (h : stateless_MakeF stateless_mask stateless_within k t ida2 = some res) :
    Leads Try.prog 64 0 ⟨⟨64, 20, [(0, .agg ⟨[.int .u64 k.A, .int .u64 k.B]⟩), (1, .agg ⟨[.int .i64 t.Proto, .bool t.Src.V6, .int .u64 t.Src.Hi, .int .u64 t.Src.Lo, .bool t.Dst.V6, .int .u64 t.Dst.Hi, .int .u64 t.Dst.Lo, .int .i64 t.SPort, .int .i64 t.DPort]⟩), (2, .int .i64 ida2)], [.code k64_9], [], false, none⟩, [], [], 0⟩ (fun v H _ => Res 0 (rx64 res) v H) := by
  unfold stateless_MakeF at h
  refine ev_ok tab_ok hS true 3000 ?_
  conv => whnf
  refine br.h h ?_ ?_ ?_
  · rfl
  · clear h; intro hb h; conv => whnf
    all_goals (cases h; exact Res.z rfl rfl rfl)
  clear h; intro hb h; conv => whnf
  replace h := obind.elim h; obtain ⟨w, hy, h⟩ := h
  refine sumK.q rfl rfl (r119_eq hy) rfl rfl rfl ?_
  conv => whnf
  refine br.h h ?_ ?_ ?_
  · rfl
  · clear h; intro hb h; conv => whnf
    all_goals (cases h; exact Res.z rfl rfl rfl)
  clear h; intro hb h; conv => whnf
  replace h := obind.elim h; obtain ⟨m, hy, h⟩ := h
  refine sumK.q rfl rfl (r120_eq hy) rfl rfl rfl ?_
  conv => whnf
  all_goals (cases h; exact Res.z rfl rfl rfl)
theorem ok64 (stateless_mask : api_Key → api_Tuple → Int → Option Int) (stateless_within : Int → Option Bool) (hS : SumsOK Try.prog (aget (sums64 stateless_mask stateless_within))) : SumOK Try.prog 64 (s64 (stateless_MakeF stateless_mask stateless_within)) := by
  refine SumOK.of_leads tab_ok (fun ar os r ha hr => ?_) ⟨Try.f64, rfl, by decide, rfl⟩
  replace hr : r64 (stateless_MakeF stateless_mask stateless_within) ar (conts os) = some r := hr
  unfold r64 at hr
  generalize hc : conts os = C at hr
  replace hr := dV.elim hr; obtain ⟨v0, l1, y0, rfl, e0, hr⟩ := hr; obtain rfl := uvapi_Key_eq _ _ e0
  replace hr := dV.elim hr; obtain ⟨v1, l2, y1, rfl, e1, hr⟩ := hr; obtain rfl := uvapi_Tuple_eq _ _ e1
  replace hr := dV.elim hr; obtain ⟨v2, l3, y2, rfl, e2, hr⟩ := hr; obtain rfl := asI_eq _ _ _ e2
  replace hr := dFin hr; obtain ⟨rfl, rfl, x, h, rfl⟩ := hr
  obtain rfl := kinds_nil hc
  exact ⟨_, rfl, leads64 stateless_mask stateless_within hS _ _ _ x h⟩
def stateless_Make : api_Key → api_Tuple → Int → Option Int := stateless_MakeF stateless_mask stateless_within
theorem lift64 : SumOK Try.prog 64 (s64 stateless_Make) := ok64 stateless_mask stateless_within (SumsOK.of_tab ⟨lift120, lift119, trivial⟩)
end Go.Vm.Code
namespace Go.Vm.Code
open Go Go.Vm
def lyS (t : api_Tuple) : api_Layout := ⟨t.Proto != 6, 0, 0⟩
def mkS (k : api_Key) (t : api_Tuple) (n : Nat) : Nat := mskN (lyS t) k t n
def widS (t : api_Tuple) : Nat := if t.Proto = 6 then 16 else 64
theorem lyS_wid (t : api_Tuple) : widN (lyS t) = widS t := by
  unfold widN widS bitsN
  by_cases h : t.Proto = 6
  · have : lyS t = ⟨false, 0, 0⟩ := by unfold lyS; rw [h]; rfl
    rw [this, if_pos h, if_pos (by unfold LOK; decide)]; rfl
  · have : lyS t = ⟨true, 0, 0⟩ := by unfold lyS; rw [show (t.Proto != 6) = true from by rw [bne_iff_ne]; exact h]
    rw [this, if_neg h, if_pos (by unfold LOK; decide)]; rfl
theorem mkS_eq (k : api_Key) (t : api_Tuple) (n : Nat) : mkS k t n = (n ^^^ (hshI k t).toNat) % 2 ^ widS t := by unfold mkS mskN; rw [lyS_wid]
theorem mkS_twice (k : api_Key) (t : api_Tuple) (n : Nat) : mkS k t (mkS k t n) = n % 2 ^ widS t := by
  rw [mkS_eq, mkS_eq]
  apply Nat.eq_of_testBit_eq
  intro i
  simp only [Nat.testBit_mod_two_pow, Nat.testBit_xor]
  by_cases h : i < widS t <;> simp [h, Bool.xor_assoc]
theorem mkS_lt (k : api_Key) (t : api_Tuple) (n : Nat) : mkS k t n < 2 ^ widS t := by rw [mkS_eq]; exact Nat.mod_lt _ (Nat.two_pow_pos _)
theorem wid16 (t : api_Tuple) : 2 ^ 16 ≤ 2 ^ widS t ∧ 2 ^ widS t ≤ 2 ^ 64 := by
  unfold widS; split <;> decide
theorem smask_eq {k : api_Key} {t : api_Tuple} {n : Int} (hn : 0 ≤ n ∧ n < 2 ^ 64) (hs : inU t.Src) (hd : inU t.Dst) : stateless_mask k t n = some ((mkS k t n.toNat : Nat) : Int) := by
  unfold stateless_mask stateless_maskF
  show (cookie_Mask (lyS t) k t n).bind _ = _
  rw [cMask_eq hn hs hd, Option.bind_some]; rfl
theorem rmask_eq {k : api_Key} {t : api_Tuple} {n : Int} (hn : 0 ≤ n ∧ n < 2 ^ 64) (hs : inU t.Src) (hd : inU t.Dst) : R14_Mask (lyS t) k t n = some ((mkS k t n.toNat : Nat) : Int) := rMaskT_eq hn hs hd
theorem swithin_eq (n : Int) : stateless_within n = some (decide (1 ≤ n ∧ n ≤ 65535)) := by
  unfold stateless_within stateless_withinF
  by_cases h : n ≥ 1
  · rw [cond_p h]; congr 1; rw [decide_eq_decide]; omega
  · rw [cond_n h]; congr 1; symm; rw [decide_eq_false_iff_not]; omega
def ckI (k : api_Key) (t : api_Tuple) (id : Int) : Int := if 1 ≤ id ∧ id ≤ 65535 then ((mkS k t id.toNat : Nat) : Int) else 0
theorem ckI_rng (k : api_Key) (t : api_Tuple) (id : Int) : 0 ≤ ckI k t id ∧ ckI k t id < 2 ^ 64 := by
  unfold ckI
  split
  · have := mkS_lt k t id.toNat; have := wid16 t; omega
  · omega
theorem smake_eq {k : api_Key} {t : api_Tuple} {id : Int} (hi : -2 ^ 63 ≤ id ∧ id < 2 ^ 63) (hs : inU t.Src) (hd : inU t.Dst) : stateless_Make k t id = some (ckI k t id) := by
  unfold stateless_Make stateless_MakeF ckI
  by_cases h : id < 0
  · rw [cond_p h, if_neg (by omega)]
  · rw [cond_n h, wU64 (by omega) (by omega), swithin_eq, Option.bind_some]
    by_cases h1 : 1 ≤ id ∧ id ≤ 65535
    · rw [decide_eq_true h1, if_pos h1, smask_eq ⟨by omega, by omega⟩ hs hd]; rfl
    · rw [decide_eq_false h1, if_neg h1]; rfl
theorem rmake_eq {k : api_Key} {t : api_Tuple} {id : Int} (hs : inU t.Src) (hd : inU t.Dst) : R32_Make k t id = some (ckI k t id) := by
  unfold R32_Make R32_MakeF R32_layout R32_layoutF ckI
  by_cases h : id < 1
  · rw [cond_p h, if_neg (by omega)]
  · rw [cond_n h]
    by_cases h1 : id > 65535
    · rw [cond_p h1, if_neg (by omega)]
    · rw [cond_n h1, if_pos (by omega), Option.bind_some, wU64 (by omega) (by omega)]
      show (R14_Mask (lyS t) k t id).bind _ = _
      rw [rmask_eq ⟨by omega, by omega⟩ hs hd]; rfl
def opI (k : api_Key) (t : api_Tuple) (n : Nat) : Int × Bool := if 1 ≤ mkS k t n ∧ mkS k t n ≤ 65535 ∧ n < 2 ^ widS t then (((mkS k t n : Nat) : Int), true) else (0, false)
theorem sopen_eq {k : api_Key} {t : api_Tuple} {n : Nat} (hn : n < 2 ^ 64) (hs : inU t.Src) (hd : inU t.Dst) : stateless_Open k t (n : Int) = some (opI k t n) := by
  unfold stateless_Open stateless_OpenF opI
  have hm := mkS_lt k t n; have hw := wid16 t
  rw [smask_eq ⟨by omega, by omega⟩ hs hd, Option.bind_some, swithin_eq, Option.bind_some, Int.toNat_natCast]
  by_cases h1 : 1 ≤ mkS k t n ∧ mkS k t n ≤ 65535
  · rw [decide_eq_true (show (1 : Int) ≤ ((mkS k t n : Nat) : Int) ∧ ((mkS k t n : Nat) : Int) ≤ 65535 by omega)]
    simp only [Bool.not_true, cond_false]
    rw [smask_eq ⟨by omega, by omega⟩ hs hd, Option.bind_some, Int.toNat_natCast, mkS_twice]
    by_cases h2 : n < 2 ^ widS t
    · rw [if_pos ⟨h1.1, h1.2, h2⟩, Nat.mod_eq_of_lt h2, show ((n : Int) != (n : Int)) = false from by simp, cond_false, wI64 (by omega) (by omega)]
    · have := Nat.mod_lt n (Nat.two_pow_pos (widS t))
      rw [if_neg (fun c => h2 c.2.2), show (((n % 2 ^ widS t : Nat) : Int) != (n : Int)) = true from by rw [bne_iff_ne]; omega, cond_true]
  · rw [decide_eq_false (show ¬ ((1 : Int) ≤ ((mkS k t n : Nat) : Int) ∧ ((mkS k t n : Nat) : Int) ≤ 65535) by omega), if_neg (fun c => h1 ⟨c.1, c.2.1⟩)]; rfl
theorem ropen_eq {k : api_Key} {t : api_Tuple} {n : Nat} (hn : n < 2 ^ 64) (hs : inU t.Src) (hd : inU t.Dst) : R32_Open k t (n : Int) = some (opI k t n) := by
  unfold R32_Open R32_OpenF R32_layout R32_layoutF opI
  have hm := mkS_lt k t n; have hw := wid16 t
  rw [Option.bind_some]
  show (R14_Mask (lyS t) k t n).bind _ = _
  rw [rmask_eq ⟨by omega, by omega⟩ hs hd, Option.bind_some, Int.toNat_natCast]
  by_cases h0 : ((mkS k t n : Nat) : Int) < 1
  · rw [cond_p h0, if_neg (by omega)]
  · rw [cond_n h0]
    by_cases h1 : ((mkS k t n : Nat) : Int) > 65535
    · rw [cond_p h1, if_neg (by omega)]
    · rw [cond_n h1, wI64 (by omega) (by omega), rmake_eq hs hd, Option.bind_some]
      unfold ckI
      rw [if_pos (by omega), Int.toNat_natCast, mkS_twice]
      by_cases h2 : n < 2 ^ widS t
      · rw [if_pos ⟨by omega, by omega, h2⟩, Nat.mod_eq_of_lt h2, show ((n : Int) != (n : Int)) = false from by simp, cond_false]
      · have := Nat.mod_lt n (Nat.two_pow_pos (widS t))
        rw [if_neg (fun c => h2 c.2.2), show (((n % 2 ^ widS t : Nat) : Int) != (n : Int)) = true from by rw [bne_iff_ne]; omega, cond_true]
def fnd (o : Int × Bool) (b : api_Backend × Bool) : api_Backend × Bool := if o.2 = true ∧ b.2 = true ∧ b.1.State ≠ 4 then (b.1, true) else (noB, false)
theorem find_tail (o : Int × Bool) (G : Int → Option (api_Backend × Bool)) {b : api_Backend × Bool} (hb : G o.1 = some b) :
    cond (!o.2) (some ((api_Backend.mk 0 0 0 (api_Addr.mk false 0 0), false))) ((G o.1).bind fun xg => cond (!xg.2) (some ((api_Backend.mk 0 0 0 (api_Addr.mk false 0 0), false)))
      (cond (xg.1.State == 4) (some ((api_Backend.mk 0 0 0 (api_Addr.mk false 0 0), false))) (some ((xg.1, true))))) = some (fnd o b) := by
  unfold fnd
  rw [hb, Option.bind_some]
  cases o.2 with
  | false => simp [noB]
  | true =>
  cases b.2 with
  | false => simp [noB]
  | true =>
  by_cases h : b.1.State = 4
  · simp [h, noB]
  · simp only [Bool.not_true, cond_false]
    rw [show (b.1.State == 4) = false from by rw [beq_eq_false_iff_ne]; exact h, cond_false, if_pos (by simp [h])]
theorem sfind_eq {g : registry_Registry} {k : api_Key} {t : api_Tuple} {n : Nat} {b : api_Backend × Bool} (hn : n < 2 ^ 64) (hs : inU t.Src) (hd : inU t.Dst) (hb : registry_Registry_Get g (opI k t n).1 = some b) : stateless_Find g k t (n : Int) = some (fnd (opI k t n) b) := by
  unfold stateless_Find stateless_FindF
  rw [sopen_eq hn hs hd, Option.bind_some]
  exact find_tail (opI k t n) (registry_Registry_Get g) hb
theorem rfind_eq {g : R23_Registry} {k : api_Key} {t : api_Tuple} {n : Nat} {b : api_Backend × Bool} (hn : n < 2 ^ 64) (hs : inU t.Src) (hd : inU t.Dst) (hb : R23_Registry_Get g (opI k t n).1 = some b) : R32_Find g k t (n : Int) = some (fnd (opI k t n) b) := by
  unfold R32_Find R32_FindF
  rw [ropen_eq hn hs hd, Option.bind_some]
  exact find_tail (opI k t n) (R23_Registry_Get g) hb
theorem andN (f : Int) {m : Nat} (hm : m < 2 ^ 63) : andI .i64 f (m : Int) = (((BitVec.ofInt 64 f).toNat &&& m : Nat) : Int) := by
  have h : (BitVec.ofInt 64 f).toNat &&& m ≤ m := Nat.and_le_right
  show IntKind.wrap .i64 _ = _
  rw [show IntKind.bits .i64 = 64 from rfl, BitVec.toNat_and, bv64 (n := m) (by omega)]
  exact wI64 (by omega) (by omega)
theorem and21 (n : Nat) : n &&& 21 = (n &&& 16) ||| (n &&& 4) ||| (n &&& 1) := by
  rw [show (21 : Nat) = 16 ||| 4 ||| 1 from by decide, Nat.and_or_distrib_left, Nat.and_or_distrib_left]
theorem bit1 (n i : Nat) : n &&& 2 ^ i = 0 ∨ n &&& 2 ^ i = 2 ^ i := by
  cases h : n.testBit i
  · left
    apply Nat.eq_of_testBit_eq; intro j
    rw [Nat.testBit_and, Nat.testBit_two_pow, Nat.zero_testBit]
    by_cases e : i = j
    · subst e; simp [h]
    · simp [e]
  · right
    apply Nat.eq_of_testBit_eq; intro j
    rw [Nat.testBit_and, Nat.testBit_two_pow]
    by_cases e : i = j
    · subst e; simp [h]
    · simp [e]
def firB (f : Int) : Bool := ((andI .i64 f 2) == 2) && !((andI .i64 f 21) != 0)
theorem cFirst_eq (f : Int) : conn_First 6 f = some (firB f) := by
  unfold conn_First conn_FirstF conn_flags_has conn_flags_hasF conn_flags_any conn_flags_anyF firB
  rw [show ((6 : Int) == 6) = true from rfl, cond_true, Option.bind_some, Option.bind_some]
  cases (andI .i64 f 2) == 2 <;> rfl
theorem rFirst_eq (f : Int) : R18_First 6 f = some (firB f) := by
  unfold R18_First R18_FirstF R18_has R18_hasF firB
  rw [show ((6 : Int) == 6) = true from rfl, cond_true, Option.bind_some, Option.bind_some, Option.bind_some, Option.bind_some]
  cases (andI .i64 f 2) == 2 with
  | false => rfl
  | true =>
  rw [cond_true, Bool.true_and]
  have e21 := andN f (m := 21) (by decide); have e16 := andN f (m := 16) (by decide); have e4 := andN f (m := 4) (by decide); have e1 := andN f (m := 1) (by decide)
  simp only [Int.cast_ofNat_Int] at e21 e16 e4 e1
  have b16 := bit1 (BitVec.ofInt 64 f).toNat 4; have b4 := bit1 (BitVec.ofInt 64 f).toNat 2; have b1 := bit1 (BitVec.ofInt 64 f).toNat 0
  simp only [Nat.reducePow] at b16 b4 b1
  rw [and21] at e21
  rcases b16 with h16 | h16 <;> rcases b4 with h4 | h4 <;> rcases b1 with h1 | h1 <;> rw [h16] at e16 e21 <;> rw [h4] at e4 e21 <;> rw [h1] at e1 e21 <;>
    (rw [show andI .i64 f 21 = _ from e21, show andI .i64 f 16 = _ from e16, show andI .i64 f 4 = _ from e4, show andI .i64 f 1 = _ from e1]; rfl)
theorem of_eq {p : api_Packet} (hE : 0 ≤ p.Echo ∧ p.Echo < 2 ^ 32) (hc : p.CID.length ≤ 40) : ∃ c, stateless_Of p = some c ∧ R32_Of p = some c := by
  unfold stateless_Of stateless_OfF R32_Of R32_OfF
  rw [cFirst_eq, rFirst_eq, octet_Get_eq (by omega), R02_Get_eq (by omega)]
  simp only [Option.bind_some]
  have hq : wI .u64 (p.Echo.fdiv (2 ^ 16)) = wI .u64 ((wI .u64 p.Echo).tdiv 65536) := by
    rw [fdivP, wU64 (n := p.Echo) (by omega) (by omega), Int.tdiv_eq_ediv_of_nonneg (by omega)]; rfl
  by_cases h6 : p.Tuple.Proto = 6
  · rw [show (p.Tuple.Proto == 6) = true from by simp [h6], show (p.Tuple.Proto == 17) = false from by simp [h6], hq]
    simp only [cond_true, cond_false]
    cases firB p.Flags <;> cases p.Stamped <;> exact ⟨_, rfl, rfl⟩
  · rw [show (p.Tuple.Proto == 6) = false from by simp [h6]]
    simp only [cond_false]
    by_cases h17 : p.Tuple.Proto = 17
    · rw [show (p.Tuple.Proto == 17) = true from by simp [h17], show (p.Tuple.Proto != 17) = false from by simp [h17]]
      simp only [cond_true, cond_false]
      cases hn : p.CID == [] with
      | true => exact ⟨⟨false, false, 0⟩, by simp, by simp⟩
      | false =>
        simp only [Bool.not_false, cond_true, cond_false]
        by_cases h8 : p.CID.length = 8
        · rw [show ((p.CID.length : Int) != 8) = false from by rw [bne_eq_false_iff_eq]; omega, show ((p.CID.length : Int) == 8) = true from by rw [beq_iff_eq]; omega]
          refine ⟨_, rfl, ?_⟩
          rw [show (p.CID.length : Int) = 8 from by omega]
          unfold getS
          rw [if_pos (by omega)]; rfl
        · rw [show ((p.CID.length : Int) != 8) = true from by rw [bne_iff_ne]; omega, show ((p.CID.length : Int) == 8) = false from by rw [beq_eq_false_iff_ne]; omega]
          exact ⟨_, rfl, rfl⟩
    · rw [show (p.Tuple.Proto == 17) = false from by simp [h17], show (p.Tuple.Proto != 17) = true from by simp [h17]]
      exact ⟨_, rfl, rfl⟩
end Go.Vm.Code
namespace Go.Vm.Code
open Go Go.Vm Go.Proofs
set_option maxRecDepth 100000
set_option maxHeartbeats 4000000
set_option linter.unusedVariables false
def law32_awakeF (stateless_Find : registry_Registry → api_Key → api_Tuple → Int → Option (api_Backend × Bool)) (stateless_Find_nil : api_Key → api_Tuple → Int → Option (api_Backend × Bool)) (stateless_Make : api_Key → api_Tuple → Int → Option Int) (stateless_Of : api_Packet → Option stateless_Clue) : Option Bool :=
  (stateless_Of (api_Packet.mk (api_Tuple.mk 6 (api_Addr.mk false 0 0) (api_Addr.mk false 0 0) 0 0) 16 true 0 65536 false [] 0)).bind fun xo =>
  (stateless_Of (api_Packet.mk (api_Tuple.mk 17 (api_Addr.mk false 0 0) (api_Addr.mk false 0 0) 0 0) 0 false 0 0 true [97] 0)).bind fun xo1 =>
  (stateless_Find_nil (api_Key.mk 0 0) (api_Tuple.mk 0 (api_Addr.mk false 0 0) (api_Addr.mk false 0 0) 0 0) 0).bind fun n =>
  cond (!xo.First)
    (
    cond (xo.Has)
      (
      cond (xo.Cookie == 1)
        (
        cond (xo1.First)
          (
          cond (!xo1.Has)
            (
            cond (!n.2)
              (
              (stateless_Make (api_Key.mk 0 0) (api_Tuple.mk 0 (api_Addr.mk false 0 0) (api_Addr.mk false 0 0) 0 0) 0).bind fun m =>
              some (m == 0))
              (
              some (false)))
            (
            some (false)))
          (
          some (false)))
        (
        some (false)))
      (
      some (false)))
    (
    some (false))
def rx61 (x : Bool) : SRes := ⟨.bool x, [], []⟩
def r61 (g : Option Bool) : Dec := dEnd (ofG (g) rx61)
theorem r61_c {g : Option Bool} {x : Bool} (hx : g = some x) : r61 g [] [] = some (rx61 x) := ofG_eq hx
def s61 (g : Option Bool) : Summ := ⟨[], r61 g⟩
theorem r61_eq {g : Option Bool} {x : Bool} (hx : g = some x) : (s61 g).run [] [] = some (rx61 x) := r61_c hx
abbrev sums61 (stateless_Find : registry_Registry → api_Key → api_Tuple → Int → Option (api_Backend × Bool)) (stateless_Find_nil : api_Key → api_Tuple → Int → Option (api_Backend × Bool)) (stateless_Make : api_Key → api_Tuple → Int → Option Int) (stateless_Of : api_Packet → Option stateless_Clue) : List (Nat × Summ) := [(67, s67 stateless_Find stateless_Find_nil), (64, s64 stateless_Make), (62, s62 stateless_Of)]
theorem leads61 (stateless_Find : registry_Registry → api_Key → api_Tuple → Int → Option (api_Backend × Bool)) (stateless_Find_nil : api_Key → api_Tuple → Int → Option (api_Backend × Bool)) (stateless_Make : api_Key → api_Tuple → Int → Option Int) (stateless_Of : api_Packet → Option stateless_Clue) (hS : SumsOK Try.prog (aget (sums61 stateless_Find stateless_Find_nil stateless_Make stateless_Of))) (res : Bool) (h : law32_awakeF stateless_Find stateless_Find_nil stateless_Make stateless_Of = some res) :
    Leads Try.prog 61 0 ⟨⟨61, 48, [], [.code k61_9], [], false, none⟩, [], [], 0⟩ (fun v H _ => Res 0 (rx61 res) v H) := by
  unfold law32_awakeF at h
  refine ev_ok tab_ok hS true 3000 ?_
  conv => whnf
  replace h := obind.elim h; obtain ⟨xo, hy, h⟩ := h
  refine sumK.q rfl rfl (r62_eq hy) rfl rfl rfl ?_
  conv => whnf
  replace h := obind.elim h; obtain ⟨xo1, hy, h⟩ := h
  refine sumK.q rfl rfl (r62_eq hy) rfl rfl rfl ?_
  conv => whnf
  replace h := obind.elim h; obtain ⟨n, hy, h⟩ := h
  refine sumK.introF [] (sumRun_of (aqs := [.pointer none, .agg ⟨[.int .u64 0, .int .u64 0]⟩, .agg ⟨[.int .i64 0, .bool false, .int .u64 0, .int .u64 0, .bool false, .int .u64 0, .int .u64 0, .int .i64 0, .int .i64 0]⟩, .int .u64 0]) (ws := [.no, .no]) (n := 0) (m := 0) (t' := 2) (ra_cons rfl rfl (ra_cons rfl rfl (ra_cons rfl rfl (ra_cons rfl rfl ra_nil)))) rfl (by rfl) (r67n_eq hy) rfl rfl rfl rfl (wb_skip rfl (wb_skip rfl wb_nil)) an_nil rfl) ?_
  conv => whnf
  refine br.h2 h ?_ ?_ ?_
  · rfl
  · clear h; intro hb h; conv => whnf
    all_goals (cases h; exact Res.z rfl rfl rfl)
  clear h; intro hb h; conv => whnf
  refine br.h2 h ?_ ?_ ?_
  · rfl
  · clear h; intro hb h; conv => whnf
    all_goals (cases h; exact Res.z rfl rfl rfl)
  clear h; intro hb h; conv => whnf
  refine br.h2 h ?_ ?_ ?_
  · rfl
  · clear h; intro hb h; conv => whnf
    all_goals (cases h; exact Res.z rfl rfl rfl)
  clear h; intro hb h; conv => whnf
  refine br.h2 h ?_ ?_ ?_
  · rfl
  · clear h; intro hb h; conv => whnf
    all_goals (cases h; exact Res.z rfl rfl rfl)
  clear h; intro hb h; conv => whnf
  refine br.h2 h ?_ ?_ ?_
  · rfl
  · clear h; intro hb h; conv => whnf
    all_goals (cases h; exact Res.z rfl rfl rfl)
  clear h; intro hb h; conv => whnf
  refine br.h2 h ?_ ?_ ?_
  · rfl
  · clear h; intro hb h; conv => whnf
    all_goals (cases h; exact Res.z rfl rfl rfl)
  clear h; intro hb h; conv => whnf
  replace h := obind.elim h; obtain ⟨m, hy, h⟩ := h
  refine sumK.q rfl rfl (r64_eq hy) rfl rfl rfl ?_
  conv => whnf
  all_goals (cases h; exact Res.z rfl rfl rfl)
theorem ok61 (stateless_Find : registry_Registry → api_Key → api_Tuple → Int → Option (api_Backend × Bool)) (stateless_Find_nil : api_Key → api_Tuple → Int → Option (api_Backend × Bool)) (stateless_Make : api_Key → api_Tuple → Int → Option Int) (stateless_Of : api_Packet → Option stateless_Clue) (hS : SumsOK Try.prog (aget (sums61 stateless_Find stateless_Find_nil stateless_Make stateless_Of))) : SumOK Try.prog 61 (s61 (law32_awakeF stateless_Find stateless_Find_nil stateless_Make stateless_Of)) := by
  refine SumOK.of_leads tab_ok (fun ar os r ha hr => ?_) ⟨Try.f61, rfl, by decide, rfl⟩
  replace hr : r61 (law32_awakeF stateless_Find stateless_Find_nil stateless_Make stateless_Of) ar (conts os) = some r := hr
  unfold r61 at hr
  generalize hc : conts os = C at hr
  replace hr := dFin hr; obtain ⟨rfl, rfl, x, h, rfl⟩ := hr
  obtain rfl := kinds_nil hc
  exact ⟨_, rfl, leads61 stateless_Find stateless_Find_nil stateless_Make stateless_Of hS x h⟩
def law32_awake : Option Bool := law32_awakeF stateless_Find stateless_Find_nil stateless_Make stateless_Of
theorem lift61 : SumOK Try.prog 61 (s61 law32_awake) := ok61 stateless_Find stateless_Find_nil stateless_Make stateless_Of (SumsOK.of_tab ⟨lift67, lift64, lift62, trivial⟩)
def law32_grown_s1 (R23_Registry_Add : R23_Registry → Int → api_Addr → Option (Int × Int × R23_Registry)) (R23_Registry_Drain : R23_Registry → Int → Bool → Option (Int × R23_Registry)) (R23_Registry_Remove : R23_Registry → Int → Option (Int × R23_Registry)) (registry_Registry_Add : registry_Registry → Int → api_Addr → Option (Int × Int × registry_Registry)) (registry_Registry_Drain : registry_Registry → Int → Bool → Option (Int × registry_Registry)) (registry_Registry_Remove : registry_Registry → Int → Option (Int × registry_Registry)) (l : List R23_Step) (i : Int) (xg : Int) (xg1 : Int) (xg3 : Int) (xg4 : Int) (x : Int) (x1 : Int) (x3 : Int) (x4 : Int) (c : List registry_row) (c1 : List R23_Row) : Option (Sum (Int × Int × Int × Int × Int × Int × Int × Int × Int × (List registry_row) × (List R23_Row)) (registry_Registry × R23_Registry)) :=
  cond (decide (i < (l.length : Int)))
    (
    oreq (decide ((0 : Int) ≤ i ∧ i < (l.length : Int))) <|
    (l[i.toNat]?).bind fun (e : R23_Step) =>
    cond (e.Kind == 0)
      (
      oreq (decide ((0 : Int) ≤ i ∧ i < (l.length : Int))) <|
      oreq (decide ((0 : Int) ≤ i ∧ i < (l.length : Int))) <|
      (registry_Registry_Add (registry_Registry.mk (health_Rule.mk xg xg1) c xg3 xg4) e.N e.Addr).bind fun a =>
      oreq (decide ((0 : Int) ≤ i ∧ i < (l.length : Int))) <|
      oreq (decide ((0 : Int) ≤ i ∧ i < (l.length : Int))) <|
      (R23_Registry_Add (R23_Registry.mk (health_Rule.mk x x1) c1 x3 x4) e.N e.Addr).bind fun a1 =>
      some (.inl (wI .i64 (i + 1), a.2.2.rule.Rise, a.2.2.rule.Fall, a.2.2.last, a.2.2.version, a1.2.2.Rule.Rise, a1.2.2.Rule.Fall, a1.2.2.Last, a1.2.2.Version, a.2.2.rows, a1.2.2.L)))
      (
      cond (e.Kind == 1)
        (
        oreq (decide ((0 : Int) ≤ i ∧ i < (l.length : Int))) <|
        (registry_Registry_Remove (registry_Registry.mk (health_Rule.mk xg xg1) c xg3 xg4) e.ID).bind fun xr2 =>
        oreq (decide ((0 : Int) ≤ i ∧ i < (l.length : Int))) <|
        (R23_Registry_Remove (R23_Registry.mk (health_Rule.mk x x1) c1 x3 x4) e.ID).bind fun xr3 =>
        some (.inl (wI .i64 (i + 1), xr2.2.rule.Rise, xr2.2.rule.Fall, xr2.2.last, xr2.2.version, xr3.2.Rule.Rise, xr3.2.Rule.Fall, xr3.2.Last, xr3.2.Version, xr2.2.rows, xr3.2.L)))
        (
        cond (e.Kind == 2)
          (
          oreq (decide ((0 : Int) ≤ i ∧ i < (l.length : Int))) <|
          oreq (decide ((0 : Int) ≤ i ∧ i < (l.length : Int))) <|
          (registry_Registry_Drain (registry_Registry.mk (health_Rule.mk xg xg1) c xg3 xg4) e.ID e.On).bind fun d =>
          oreq (decide ((0 : Int) ≤ i ∧ i < (l.length : Int))) <|
          oreq (decide ((0 : Int) ≤ i ∧ i < (l.length : Int))) <|
          (R23_Registry_Drain (R23_Registry.mk (health_Rule.mk x x1) c1 x3 x4) e.ID e.On).bind fun d1 =>
          some (.inl (wI .i64 (i + 1), d.2.rule.Rise, d.2.rule.Fall, d.2.last, d.2.version, d1.2.Rule.Rise, d1.2.Rule.Fall, d1.2.Last, d1.2.Version, d.2.rows, d1.2.L)))
          (
          some (.inl (wI .i64 (i + 1), xg, xg1, xg3, xg4, x, x1, x3, x4, c, c1))))))
    (
    some (.inr ((registry_Registry.mk (health_Rule.mk xg xg1) c xg3 xg4, R23_Registry.mk (health_Rule.mk x x1) c1 x3 x4))))
def law32_grownF (R21_Right : health_Rule → Option Bool) (R23_Registry_Add : R23_Registry → Int → api_Addr → Option (Int × Int × R23_Registry)) (R23_Registry_Drain : R23_Registry → Int → Bool → Option (Int × R23_Registry)) (R23_Registry_Remove : R23_Registry → Int → Option (Int × R23_Registry)) (health_Right : health_Rule → Option Bool) (registry_Registry_Add : registry_Registry → Int → api_Addr → Option (Int × Int × registry_Registry)) (registry_Registry_Drain : registry_Registry → Int → Bool → Option (Int × registry_Registry)) (registry_Registry_Remove : registry_Registry → Int → Option (Int × registry_Registry)) (l : List R23_Step) : Option (registry_Registry × R23_Registry) :=
  (health_Right (health_Rule.mk 1 1)).bind fun xr =>
  oreq (xr) <|
  (R21_Right (health_Rule.mk 1 1)).bind fun xr1 =>
  oreq (xr1) <|
  iter (fun st => law32_grown_s1 R23_Registry_Add R23_Registry_Drain R23_Registry_Remove registry_Registry_Add registry_Registry_Drain registry_Registry_Remove l st.1 st.2.1 st.2.2.1 st.2.2.2.1 st.2.2.2.2.1 st.2.2.2.2.2.1 st.2.2.2.2.2.2.1 st.2.2.2.2.2.2.2.1 st.2.2.2.2.2.2.2.2.1 st.2.2.2.2.2.2.2.2.2.1 st.2.2.2.2.2.2.2.2.2.2) FUEL (0, 1, 1, 0, 0, 1, 1, 0, 0, [], [])
def rx66 (x : registry_Registry × R23_Registry) : SRes := ⟨.tuple ⟨[.pointer (some ⟨0, 0, none⟩), .pointer (some ⟨2, 0, none⟩)]⟩, [[.int .i64 x.1.rule.Rise, .int .i64 x.1.rule.Fall, .slice (some ⟨1, 0, none⟩) x.1.rows.length 9, .int .i64 x.1.last, .int .i64 x.1.version], (vT cregistry_row x.1.rows), [.int .i64 x.2.Rule.Rise, .int .i64 x.2.Rule.Fall, .slice (some ⟨3, 0, none⟩) x.2.L.length 8, .int .i64 x.2.Last, .int .i64 x.2.Version], (vT cR23_Row x.2.L)], [none]⟩
def r66 (g : (List R23_Step) → Option (registry_Registry × R23_Registry)) : Dec := dSl 0 7 (unR 7 unR23_Step) fun (y0 : List R23_Step) => dEnd (ofG (g y0) rx66)
theorem r66_c {g : (List R23_Step) → Option (registry_Registry × R23_Registry)} {y0 : List R23_Step} {x : registry_Registry × R23_Registry} (hx : g y0 = some x) : r66 g [.slice (some ⟨0, 0, none⟩) y0.length 7] [some (vT cR23_Step y0)] = some (rx66 x) := (dSl_eq (unR_vT (by first | exact capi_Addr_len | exact capi_Tuple_len | exact capi_Packet_len | exact capi_Key_len | exact cR23_Step_len | exact cstateless_Clue_len | exact chealth_Rule_len | exact capi_Backend_len | exact chealth_State_len | exact cregistry_row_len | exact capi_Layout_len | exact cArr4_Int_len | exact csip_Hasher_len | exact ccookie_layout_len | exact cR23_Row_len) (by decide) unR23_Step_c _)).trans (ofG_eq hx)
def s66 (g : (List R23_Step) → Option (registry_Registry × R23_Registry)) : Summ := ⟨[.sl 7], r66 g⟩
theorem r66_eq {g : (List R23_Step) → Option (registry_Registry × R23_Registry)} {y0 : List R23_Step} {x : registry_Registry × R23_Registry} (hx : g y0 = some x) : (s66 g).run [.slice (some ⟨0, 0, none⟩) y0.length 7] [some (vT cR23_Step y0)] = some (rx66 x) := r66_c hx
abbrev sums66 (R21_Right : health_Rule → Option Bool) (R23_Registry_Add : R23_Registry → Int → api_Addr → Option (Int × Int × R23_Registry)) (R23_Registry_Drain : R23_Registry → Int → Bool → Option (Int × R23_Registry)) (R23_Registry_Remove : R23_Registry → Int → Option (Int × R23_Registry)) (health_Right : health_Rule → Option Bool) (registry_Registry_Add : registry_Registry → Int → api_Addr → Option (Int × Int × registry_Registry)) (registry_Registry_Drain : registry_Registry → Int → Bool → Option (Int × registry_Registry)) (registry_Registry_Remove : registry_Registry → Int → Option (Int × registry_Registry)) : List (Nat × Summ) := [(25, s25 R21_Right), (75, s75 R23_Registry_Add), (77, s77 R23_Registry_Drain), (76, s76 R23_Registry_Remove), (69, s69 health_Right), (26, s26 registry_Registry_Add), (28, s28 registry_Registry_Drain), (27, s27 registry_Registry_Remove)]
def head66_1 (l : List R23_Step) (i : Int) (xg : Int) (xg1 : Int) (xg3 : Int) (xg4 : Int) (x : Int) (x1 : Int) (x3 : Int) (x4 : Int) (c : List registry_row) (c1 : List R23_Row) : VM :=
  ⟨⟨66, 96, [(0, .slice (some ⟨0, 0, none⟩) l.length 7), (4, .pointer (some ⟨2, 0, none⟩)), (6, .pointer (some ⟨4, 0, none⟩)), (7, .int .i64 i)], [.code k66_31, .inLoop k66_31, .inBlock 0, .code k66_36], [], false, none⟩, [], [(0, .row false (vT cR23_Step l)), (2, .cells [.int .i64 xg, .int .i64 xg1, .slice (some ⟨5, 0, none⟩) c.length 9, .int .i64 xg3, .int .i64 xg4]), (4, .cells [.int .i64 x, .int .i64 x1, .slice (some ⟨6, 0, none⟩) c1.length 8, .int .i64 x3, .int .i64 x4]), (5, .row true (vT cregistry_row c)), (6, .row true (vT cR23_Row c1))], 7⟩
theorem loop66_1 (R21_Right : health_Rule → Option Bool) (R23_Registry_Add : R23_Registry → Int → api_Addr → Option (Int × Int × R23_Registry)) (R23_Registry_Drain : R23_Registry → Int → Bool → Option (Int × R23_Registry)) (R23_Registry_Remove : R23_Registry → Int → Option (Int × R23_Registry)) (health_Right : health_Rule → Option Bool) (registry_Registry_Add : registry_Registry → Int → api_Addr → Option (Int × Int × registry_Registry)) (registry_Registry_Drain : registry_Registry → Int → Bool → Option (Int × registry_Registry)) (registry_Registry_Remove : registry_Registry → Int → Option (Int × registry_Registry)) (hS : SumsOK Try.prog (aget (sums66 R21_Right R23_Registry_Add R23_Registry_Drain R23_Registry_Remove health_Right registry_Registry_Add registry_Registry_Drain registry_Registry_Remove))) (l : List R23_Step) (res : registry_Registry × R23_Registry) : ∀ fuel (st : Int × Int × Int × Int × Int × Int × Int × Int × Int × (List registry_row) × (List R23_Row)) (o : registry_Registry × R23_Registry), iter (fun st => law32_grown_s1 R23_Registry_Add R23_Registry_Drain R23_Registry_Remove registry_Registry_Add registry_Registry_Drain registry_Registry_Remove l st.1 st.2.1 st.2.2.1 st.2.2.2.1 st.2.2.2.2.1 st.2.2.2.2.2.1 st.2.2.2.2.2.2.1 st.2.2.2.2.2.2.2.1 st.2.2.2.2.2.2.2.2.1 st.2.2.2.2.2.2.2.2.2.1 st.2.2.2.2.2.2.2.2.2.2) fuel st = some o → (o = res) →
    Leads Try.prog 66 1 (head66_1 l st.1 st.2.1 st.2.2.1 st.2.2.2.1 st.2.2.2.2.1 st.2.2.2.2.2.1 st.2.2.2.2.2.2.1 st.2.2.2.2.2.2.2.1 st.2.2.2.2.2.2.2.2.1 st.2.2.2.2.2.2.2.2.2.1 st.2.2.2.2.2.2.2.2.2.2) (fun v H _ => Res 1 (rx66 res) v H) := by
  intro fuel st o h hc
  refine iter_leads (head := fun st => head66_1 l st.1 st.2.1 st.2.2.1 st.2.2.2.1 st.2.2.2.2.1 st.2.2.2.2.2.1 st.2.2.2.2.2.2.1 st.2.2.2.2.2.2.2.1 st.2.2.2.2.2.2.2.2.1 st.2.2.2.2.2.2.2.2.2.1 st.2.2.2.2.2.2.2.2.2.2) (C := fun o => (o = res)) ?_ fuel st o h hc
  clear h hc o st fuel
  intro st o h hc
  obtain ⟨i, xg, xg1, xg3, xg4, x, x1, x3, x4, c, c1⟩ := st
  replace h : law32_grown_s1 R23_Registry_Add R23_Registry_Drain R23_Registry_Remove registry_Registry_Add registry_Registry_Drain registry_Registry_Remove l i xg xg1 xg3 xg4 x x1 x3 x4 c c1 = some o := h
  show Leads Try.prog 66 1 (head66_1 l i xg xg1 xg3 xg4 x x1 x3 x4 c c1) (fun v H _ => Res 1 (rx66 res) v H)
  unfold law32_grown_s1 at h
  refine ev_ok tab_ok hS true 3000 ?_
  conv => whnf
  refine br.h2 h ?_ ?_ ?_
  · rfl
  · clear h; intro hb h; conv => whnf
    all_goals (cases h; cases hc)
    all_goals exact Res.of [2, 5, 4, 6] rfl (nw_s (rfl) (hs_cells rfl) (nw_s (rn_T cregistry_row_flat) (hs_row rfl) (nw_s (rfl) (hs_cells rfl) (nw_s (rn_T cR23_Row_flat) (hs_row rfl) nw_0)))) (by decide) (js_l (by decide) (js_l (by decide) (js_l (by decide) (js_l (by decide) js_0)))) (wr_n wr_0)
  clear h; intro hb h; conv => whnf
  replace h := oreq.elim h; obtain ⟨hb, h⟩ := h
  first | (refine req.intro hb ?_; conv => whnf) | skip
  replace h := obind.elim h; obtain ⟨e, hy, h⟩ := h
  refine rd.T (j := 0) cR23_Step_len hy (by first | omega | exact Nat.zero_add _ | exact congrArg (· + _) (Nat.zero_add _)) (by decide) rfl ?_
  conv => whnf
  refine br.h h ?_ ?_ ?_
  · rfl
  · clear h; intro hb h; conv => whnf
    replace h := oreq.elim h; obtain ⟨hb, h⟩ := h
    first | (refine req.intro hb ?_; conv => whnf) | skip
    refine rd.T (i := i.toNat) (x := e) (j := 2) cR23_Step_len (by assumption) (by first | omega | exact Nat.zero_add _ | exact congrArg (· + _) (Nat.zero_add _)) (by decide) rfl ?_
    conv => whnf
    replace h := oreq.elim h; obtain ⟨hb, h⟩ := h
    first | (refine req.intro hb ?_; conv => whnf) | skip
    refine ld_TP (i := i.toNat) (x := e) (j := 3) cR23_Step_len (by assumption) (by first | omega | exact Nat.zero_add _ | exact congrArg (· + _) (Nat.zero_add _)) (by decide) ?_
    conv => whnf
    replace h := obind.elim h; obtain ⟨a, hy, h⟩ := h
    refine sumK.introF [2] (sumRun_of (aqs := [.pointer (some ⟨0, 0, none⟩), .int .i64 e.N, .agg ⟨[.bool e.Addr.V6, .int .u64 e.Addr.Hi, .int .u64 e.Addr.Lo]⟩]) (ws := [.blk 2 true, .blk 5 true]) (n := 1) (m := 0) (t' := 19) (ra_cons (ra_tr rfl rfl (vp_at rfl rfl rfl rfl (vp_at rfl rfl (rn_T cregistry_row_flat) rfl vp_nil)) rfl) rfl (ra_cons rfl rfl (ra_cons rfl rfl ra_nil))) rfl (by rfl) (r26_eq hy) rfl rfl rfl rfl (wb_blk rfl rfl rfl rfl (wb_del wb_nil)) (an_cons (rn_T cregistry_row_flat) an_nil) rfl) ?_
    conv => whnf
    replace h := oreq.elim h; obtain ⟨hb, h⟩ := h
    first | (refine req.intro hb ?_; conv => whnf) | skip
    refine rd.T (i := i.toNat) (x := e) (j := 2) cR23_Step_len (by assumption) (by first | omega | exact Nat.zero_add _ | exact congrArg (· + _) (Nat.zero_add _)) (by decide) rfl ?_
    conv => whnf
    replace h := oreq.elim h; obtain ⟨hb, h⟩ := h
    first | (refine req.intro hb ?_; conv => whnf) | skip
    refine ld_TP (i := i.toNat) (x := e) (j := 3) cR23_Step_len (by assumption) (by first | omega | exact Nat.zero_add _ | exact congrArg (· + _) (Nat.zero_add _)) (by decide) ?_
    conv => whnf
    replace h := obind.elim h; obtain ⟨a1, hy, h⟩ := h
    refine sumK.introF [4] (sumRun_of (aqs := [.pointer (some ⟨0, 0, none⟩), .int .i64 e.N, .agg ⟨[.bool e.Addr.V6, .int .u64 e.Addr.Hi, .int .u64 e.Addr.Lo]⟩]) (ws := [.blk 4 true, .blk 6 true]) (n := 1) (m := 0) (t' := 31) (ra_cons (ra_tr rfl rfl (vp_at rfl rfl rfl rfl (vp_at rfl rfl (rn_T cR23_Row_flat) rfl vp_nil)) rfl) rfl (ra_cons rfl rfl (ra_cons rfl rfl ra_nil))) rfl (by rfl) (r75_eq hy) rfl rfl rfl rfl (wb_blk rfl rfl rfl rfl (wb_del wb_nil)) (an_cons (rn_T cR23_Row_flat) an_nil) rfl) ?_
    conv => whnf
    cases h; simp only [Sum.elim_inl, head66_1] at hc
    exact lrA1 hc [(0, 0), (2, 2), (4, 4), (5, 18), (6, 30)] rfl
  clear h; intro hb h; conv => whnf
  refine br.h h ?_ ?_ ?_
  · rfl
  · clear h; intro hb h; conv => whnf
    replace h := oreq.elim h; obtain ⟨hb, h⟩ := h
    first | (refine req.intro hb ?_; conv => whnf) | skip
    refine rd.T (i := i.toNat) (x := e) (j := 1) cR23_Step_len (by assumption) (by first | omega | exact Nat.zero_add _ | exact congrArg (· + _) (Nat.zero_add _)) (by decide) rfl ?_
    conv => whnf
    replace h := obind.elim h; obtain ⟨xr2, hy, h⟩ := h
    refine sumK.introF [2] (sumRun_of (aqs := [.pointer (some ⟨0, 0, none⟩), .int .i64 e.ID]) (ws := [.blk 2 true, .blk 5 true]) (n := 1) (m := 0) (t' := 8) (ra_cons (ra_tr rfl rfl (vp_at rfl rfl rfl rfl (vp_at rfl rfl (rn_T cregistry_row_flat) rfl vp_nil)) rfl) rfl (ra_cons rfl rfl ra_nil)) rfl (by rfl) (r27_eq hy) rfl rfl rfl rfl (wb_blk rfl rfl rfl rfl (wb_del wb_nil)) (an_cons (rn_T cregistry_row_flat) an_nil) rfl) ?_
    conv => whnf
    replace h := oreq.elim h; obtain ⟨hb, h⟩ := h
    first | (refine req.intro hb ?_; conv => whnf) | skip
    refine rd.T (i := i.toNat) (x := e) (j := 1) cR23_Step_len (by assumption) (by first | omega | exact Nat.zero_add _ | exact congrArg (· + _) (Nat.zero_add _)) (by decide) rfl ?_
    conv => whnf
    replace h := obind.elim h; obtain ⟨xr3, hy, h⟩ := h
    refine sumK.introF [4] (sumRun_of (aqs := [.pointer (some ⟨0, 0, none⟩), .int .i64 e.ID]) (ws := [.blk 4 true, .blk 6 true]) (n := 1) (m := 0) (t' := 9) (ra_cons (ra_tr rfl rfl (vp_at rfl rfl rfl rfl (vp_at rfl rfl (rn_T cR23_Row_flat) rfl vp_nil)) rfl) rfl (ra_cons rfl rfl ra_nil)) rfl (by rfl) (r76_eq hy) rfl rfl rfl rfl (wb_blk rfl rfl rfl rfl (wb_del wb_nil)) (an_cons (rn_T cR23_Row_flat) an_nil) rfl) ?_
    conv => whnf
    cases h; simp only [Sum.elim_inl, head66_1] at hc
    exact lrA1 hc [(0, 0), (2, 2), (4, 4), (5, 7), (6, 8)] rfl
  clear h; intro hb h; conv => whnf
  refine br.h2 h ?_ ?_ ?_
  · rfl
  · clear h; intro hb h; conv => whnf
    cases h; simp only [Sum.elim_inl, head66_1] at hc
    exact lrA1 hc [(0, 0), (2, 2), (4, 4), (5, 5), (6, 6)] rfl
  clear h; intro hb h; conv => whnf
  replace h := oreq.elim h; obtain ⟨hb, h⟩ := h
  first | (refine req.intro hb ?_; conv => whnf) | skip
  refine rd.T (i := i.toNat) (x := e) (j := 1) cR23_Step_len (by assumption) (by first | omega | exact Nat.zero_add _ | exact congrArg (· + _) (Nat.zero_add _)) (by decide) rfl ?_
  conv => whnf
  replace h := oreq.elim h; obtain ⟨hb, h⟩ := h
  first | (refine req.intro hb ?_; conv => whnf) | skip
  refine rd.T (i := i.toNat) (x := e) (j := 6) cR23_Step_len (by assumption) (by first | omega | exact Nat.zero_add _ | exact congrArg (· + _) (Nat.zero_add _)) (by decide) rfl ?_
  conv => whnf
  replace h := obind.elim h; obtain ⟨d, hy, h⟩ := h
  refine sumK.introF [2] (sumRun_of (aqs := [.pointer (some ⟨0, 0, none⟩), .int .i64 e.ID, .bool e.On]) (ws := [.blk 2 true, .blk 5 true]) (n := 1) (m := 0) (t' := 19) (ra_cons (ra_tr rfl rfl (vp_at rfl rfl rfl rfl (vp_at rfl rfl (rn_T cregistry_row_flat) rfl vp_nil)) rfl) rfl (ra_cons rfl rfl (ra_cons rfl rfl ra_nil))) rfl (by rfl) (r28_eq hy) rfl rfl rfl rfl (wb_blk rfl rfl rfl rfl (wb_del wb_nil)) (an_cons (rn_T cregistry_row_flat) an_nil) rfl) ?_
  conv => whnf
  replace h := oreq.elim h; obtain ⟨hb, h⟩ := h
  first | (refine req.intro hb ?_; conv => whnf) | skip
  refine rd.T (i := i.toNat) (x := e) (j := 1) cR23_Step_len (by assumption) (by first | omega | exact Nat.zero_add _ | exact congrArg (· + _) (Nat.zero_add _)) (by decide) rfl ?_
  conv => whnf
  replace h := oreq.elim h; obtain ⟨hb, h⟩ := h
  first | (refine req.intro hb ?_; conv => whnf) | skip
  refine rd.T (i := i.toNat) (x := e) (j := 6) cR23_Step_len (by assumption) (by first | omega | exact Nat.zero_add _ | exact congrArg (· + _) (Nat.zero_add _)) (by decide) rfl ?_
  conv => whnf
  replace h := obind.elim h; obtain ⟨d1, hy, h⟩ := h
  refine sumK.introF [4] (sumRun_of (aqs := [.pointer (some ⟨0, 0, none⟩), .int .i64 e.ID, .bool e.On]) (ws := [.blk 4 true, .blk 6 true]) (n := 1) (m := 0) (t' := 31) (ra_cons (ra_tr rfl rfl (vp_at rfl rfl rfl rfl (vp_at rfl rfl (rn_T cR23_Row_flat) rfl vp_nil)) rfl) rfl (ra_cons rfl rfl (ra_cons rfl rfl ra_nil))) rfl (by rfl) (r77_eq hy) rfl rfl rfl rfl (wb_blk rfl rfl rfl rfl (wb_del wb_nil)) (an_cons (rn_T cR23_Row_flat) an_nil) rfl) ?_
  conv => whnf
  cases h; simp only [Sum.elim_inl, head66_1] at hc
  exact lrA1 hc [(0, 0), (2, 2), (4, 4), (5, 18), (6, 30)] rfl
theorem leads66 (R21_Right : health_Rule → Option Bool) (R23_Registry_Add : R23_Registry → Int → api_Addr → Option (Int × Int × R23_Registry)) (R23_Registry_Drain : R23_Registry → Int → Bool → Option (Int × R23_Registry)) (R23_Registry_Remove : R23_Registry → Int → Option (Int × R23_Registry)) (health_Right : health_Rule → Option Bool) (registry_Registry_Add : registry_Registry → Int → api_Addr → Option (Int × Int × registry_Registry)) (registry_Registry_Drain : registry_Registry → Int → Bool → Option (Int × registry_Registry)) (registry_Registry_Remove : registry_Registry → Int → Option (Int × registry_Registry)) (hS : SumsOK Try.prog (aget (sums66 R21_Right R23_Registry_Add R23_Registry_Drain R23_Registry_Remove health_Right registry_Registry_Add registry_Registry_Drain registry_Registry_Remove))) (l : List R23_Step) (res : registry_Registry × R23_Registry) (h : law32_grownF R21_Right R23_Registry_Add R23_Registry_Drain R23_Registry_Remove health_Right registry_Registry_Add registry_Registry_Drain registry_Registry_Remove l = some res) :
    Leads Try.prog 66 1 ⟨⟨66, 96, [(0, .slice (some ⟨0, 0, none⟩) l.length 7)], [.code k66_40], [], false, none⟩, [], [(0, .row false (vT cR23_Step l))], 1⟩ (fun v H _ => Res 1 (rx66 res) v H) := by
  unfold law32_grownF at h
  refine ev_ok tab_ok hS true 3000 ?_
  conv => whnf
  replace h := obind.elim h; obtain ⟨xr, hy, h⟩ := h
  refine sumK.q rfl rfl (r69_eq hy) rfl rfl rfl ?_
  conv => whnf
  replace h := oreq.elim h; obtain ⟨hb, h⟩ := h
  subst hb
  conv => whnf
  replace h := obind.elim h; obtain ⟨xr1, hy, h⟩ := h
  refine sumK.q rfl rfl (r25_eq hy) rfl rfl rfl ?_
  conv => whnf
  replace h := oreq.elim h; obtain ⟨hb, h⟩ := h
  subst hb
  conv => whnf
  have hl := loop66_1 R21_Right R23_Registry_Add R23_Registry_Drain R23_Registry_Remove health_Right registry_Registry_Add registry_Registry_Drain registry_Registry_Remove hS _ res _ _ _ h rfl; simp only [head66_1] at hl
  refine Leads.nilC 2 2 9 ?_
  refine Leads.nilC 4 2 8 ?_
  exact lrA1 hl [(0, 0), (2, 2), (4, 4), (5, 5), (6, 6)] rfl
theorem ok66 (R21_Right : health_Rule → Option Bool) (R23_Registry_Add : R23_Registry → Int → api_Addr → Option (Int × Int × R23_Registry)) (R23_Registry_Drain : R23_Registry → Int → Bool → Option (Int × R23_Registry)) (R23_Registry_Remove : R23_Registry → Int → Option (Int × R23_Registry)) (health_Right : health_Rule → Option Bool) (registry_Registry_Add : registry_Registry → Int → api_Addr → Option (Int × Int × registry_Registry)) (registry_Registry_Drain : registry_Registry → Int → Bool → Option (Int × registry_Registry)) (registry_Registry_Remove : registry_Registry → Int → Option (Int × registry_Registry)) (hS : SumsOK Try.prog (aget (sums66 R21_Right R23_Registry_Add R23_Registry_Drain R23_Registry_Remove health_Right registry_Registry_Add registry_Registry_Drain registry_Registry_Remove))) : SumOK Try.prog 66 (s66 (law32_grownF R21_Right R23_Registry_Add R23_Registry_Drain R23_Registry_Remove health_Right registry_Registry_Add registry_Registry_Drain registry_Registry_Remove)) := by
  refine SumOK.of_leads tab_ok (fun ar os r ha hr => ?_) ⟨Try.f66, rfl, by decide, rfl⟩
  replace hr : r66 (law32_grownF R21_Right R23_Registry_Add R23_Registry_Drain R23_Registry_Remove health_Right registry_Registry_Add registry_Registry_Drain registry_Registry_Remove) ar (conts os) = some r := hr
  unfold r66 at hr
  generalize hc : conts os = C at hr
  have hq := dSl.elim hr; clear hr; obtain ⟨c0, l1, C, y0, rfl, rfl, e0, hr⟩ := hq; obtain rfl := unT_eq unR23_Step_eq e0
  replace hr := dFin hr; obtain ⟨rfl, rfl, x, h, rfl⟩ := hr
  obtain ⟨os, rfl, ha, hc⟩ := kinds_some ha hc
  obtain rfl := kinds_nil hc
  exact ⟨_, rfl, leads66 R21_Right R23_Registry_Add R23_Registry_Drain R23_Registry_Remove health_Right registry_Registry_Add registry_Registry_Drain registry_Registry_Remove hS _ x h⟩
def law32_grown : (List R23_Step) → Option (registry_Registry × R23_Registry) := law32_grownF R21_Right R23_Registry_Add R23_Registry_Drain R23_Registry_Remove health_Right registry_Registry_Add registry_Registry_Drain registry_Registry_Remove
theorem lift66 : SumOK Try.prog 66 (s66 law32_grown) := ok66 R21_Right R23_Registry_Add R23_Registry_Drain R23_Registry_Remove health_Right registry_Registry_Add registry_Registry_Drain registry_Registry_Remove (SumsOK.of_tab ⟨lift25, lift75, lift77, lift76, lift69, lift26, lift28, lift27, trivial⟩)
def law32_StatelessTellsF (R32_Find : R23_Registry → api_Key → api_Tuple → Int → Option (api_Backend × Bool)) (R32_Make : api_Key → api_Tuple → Int → Option Int) (R32_Of : api_Packet → Option stateless_Clue) (R32_Open : api_Key → api_Tuple → Int → Option (Int × Bool)) (law32_awake : Option Bool) (law32_grown : (List R23_Step) → Option (registry_Registry × R23_Registry)) (stateless_Find : registry_Registry → api_Key → api_Tuple → Int → Option (api_Backend × Bool)) (stateless_Find_nil : api_Key → api_Tuple → Int → Option (api_Backend × Bool)) (stateless_Make : api_Key → api_Tuple → Int → Option Int) (stateless_Of : api_Packet → Option stateless_Clue) (stateless_Open : api_Key → api_Tuple → Int → Option (Int × Bool)) (p : api_Packet) (k : api_Key) (t : api_Tuple) (ida3 : Int) (cookie : Int) (l : List R23_Step) : Option Bool :=
  cond (decide ((l.length : Int) > 30))
    (
    (law32_awake).bind fun a =>
    some (a))
    (
    cond (decide ((p.CID.length : Int) > 40))
      (
      (law32_awake).bind fun a1 =>
      some (a1))
      (
      (stateless_Of p).bind fun xo =>
      (R32_Of p).bind fun xo1 =>
      cond (!(xo.First == xo1.First))
        (
        some (false))
        (
        cond (!(xo.Has == xo1.Has))
          (
          some (false))
          (
          cond (xo.Cookie != xo1.Cookie)
            (
            some (false))
            (
            (stateless_Make k t ida3).bind fun m =>
            (R32_Make k t ida3).bind fun m1 =>
            cond (m != m1)
              (
              some (false))
              (
              (stateless_Open k t cookie).bind fun xo2 =>
              (R32_Open k t cookie).bind fun xo3 =>
              (law32_grown l).bind fun xg =>
              (stateless_Find xg.1 k t cookie).bind fun f =>
              (R32_Find xg.2 k t cookie).bind fun f1 =>
              (stateless_Make k t ida3).bind fun m2 =>
              (stateless_Find xg.1 k t m2).bind fun f2 =>
              (R32_Find xg.2 k t m2).bind fun f3 =>
              cond (xo2.1 == xo3.1)
                (
                cond (xo2.2 == xo3.2)
                  (
                  let t1 := (f.1.ID == f1.1.ID) && ((f.1.Weight == f1.1.Weight) && ((f.1.State == f1.1.State) && ((f.1.Addr.V6 == f1.1.Addr.V6) && ((f.1.Addr.Hi == f1.1.Addr.Hi) && ((f.1.Addr.Lo == f1.1.Addr.Lo) && true)))))
                  cond (t1)
                    (
                    cond (f.2 == f1.2)
                      (
                      let t2 := (f2.1.ID == f3.1.ID) && ((f2.1.Weight == f3.1.Weight) && ((f2.1.State == f3.1.State) && ((f2.1.Addr.V6 == f3.1.Addr.V6) && ((f2.1.Addr.Hi == f3.1.Addr.Hi) && ((f2.1.Addr.Lo == f3.1.Addr.Lo) && true)))))
                      cond (t2)
                        (
                        cond (f2.2 == f3.2)
                          (
                          (law32_awake).bind fun a2 =>
                          some (a2))
                          (
                          some (false)))
                        (
                        some (false)))
                      (
                      some (false)))
                    (
                    some (false)))
                  (
                  some (false)))
                (
                some (false))))))))
def rx12 (x : Bool) : SRes := ⟨.bool x, [], [none]⟩
abbrev sums12 (R32_Find : R23_Registry → api_Key → api_Tuple → Int → Option (api_Backend × Bool)) (R32_Make : api_Key → api_Tuple → Int → Option Int) (R32_Of : api_Packet → Option stateless_Clue) (R32_Open : api_Key → api_Tuple → Int → Option (Int × Bool)) (law32_awake : Option Bool) (law32_grown : (List R23_Step) → Option (registry_Registry × R23_Registry)) (stateless_Find : registry_Registry → api_Key → api_Tuple → Int → Option (api_Backend × Bool)) (stateless_Find_nil : api_Key → api_Tuple → Int → Option (api_Backend × Bool)) (stateless_Make : api_Key → api_Tuple → Int → Option Int) (stateless_Of : api_Packet → Option stateless_Clue) (stateless_Open : api_Key → api_Tuple → Int → Option (Int × Bool)) : List (Nat × Summ) := [(68, s68 R32_Find), (38, s38 R32_Make), (63, s63 R32_Of), (46, s46 R32_Open), (61, s61 law32_awake), (66, s66 law32_grown), (67, s67 stateless_Find stateless_Find_nil), (64, s64 stateless_Make), (62, s62 stateless_Of), (65, s65 stateless_Open)]
theorem leads12 (R32_Find : R23_Registry → api_Key → api_Tuple → Int → Option (api_Backend × Bool)) (R32_Make : api_Key → api_Tuple → Int → Option Int) (R32_Of : api_Packet → Option stateless_Clue) (R32_Open : api_Key → api_Tuple → Int → Option (Int × Bool)) (law32_awake : Option Bool) (law32_grown : (List R23_Step) → Option (registry_Registry × R23_Registry)) (stateless_Find : registry_Registry → api_Key → api_Tuple → Int → Option (api_Backend × Bool)) (stateless_Find_nil : api_Key → api_Tuple → Int → Option (api_Backend × Bool)) (stateless_Make : api_Key → api_Tuple → Int → Option Int) (stateless_Of : api_Packet → Option stateless_Clue) (stateless_Open : api_Key → api_Tuple → Int → Option (Int × Bool)) (hS : SumsOK Try.prog (aget (sums12 R32_Find R32_Make R32_Of R32_Open law32_awake law32_grown stateless_Find stateless_Find_nil stateless_Make stateless_Of stateless_Open))) (p : api_Packet) (k : api_Key) (t : api_Tuple) (ida3 : Int) (cookie : Int) (l : List R23_Step) (res : Bool) (h : law32_StatelessTellsF R32_Find R32_Make R32_Of R32_Open law32_awake law32_grown stateless_Find stateless_Find_nil stateless_Make stateless_Of stateless_Open p k t ida3 cookie l = some res) :
    Leads Try.prog 12 1 ⟨⟨12, 160, [(0, .agg ⟨[.int .i64 p.Tuple.Proto, .bool p.Tuple.Src.V6, .int .u64 p.Tuple.Src.Hi, .int .u64 p.Tuple.Src.Lo, .bool p.Tuple.Dst.V6, .int .u64 p.Tuple.Dst.Hi, .int .u64 p.Tuple.Dst.Lo, .int .i64 p.Tuple.SPort, .int .i64 p.Tuple.DPort, .int .i64 p.Flags, .bool p.Stamped, .int .u32 p.Val, .int .u32 p.Echo, .bool p.Long, .string ⟨⟨p.CID⟩⟩, .int .i64 p.Size]⟩), (1, .agg ⟨[.int .u64 k.A, .int .u64 k.B]⟩), (2, .agg ⟨[.int .i64 t.Proto, .bool t.Src.V6, .int .u64 t.Src.Hi, .int .u64 t.Src.Lo, .bool t.Dst.V6, .int .u64 t.Dst.Hi, .int .u64 t.Dst.Lo, .int .i64 t.SPort, .int .i64 t.DPort]⟩), (3, .int .i64 ida3), (4, .int .u64 cookie), (5, .slice (some ⟨0, 0, none⟩) l.length 7)], [.code k12_33], [], false, none⟩, [], [(0, .row false (vT cR23_Step l))], 1⟩ (fun v H _ => Res 1 (rx12 res) v H) := by
  unfold law32_StatelessTellsF at h
  refine ev_ok tab_ok hS true 3000 ?_
  conv => whnf
  refine br.h h ?_ ?_ ?_
  · rfl
  · clear h; intro hb h; conv => whnf
    replace h := obind.elim h; obtain ⟨a, hy, h⟩ := h
    refine sumK.q rfl rfl (r61_eq hy) rfl rfl rfl ?_
    conv => whnf
    all_goals (cases h)
    all_goals exact Res.of [] rfl nw_0 (by decide) js_0 (wr_n wr_0)
  clear h; intro hb h; conv => whnf
  refine br.h h ?_ ?_ ?_
  · rfl
  · clear h; intro hb h; conv => whnf
    replace h := obind.elim h; obtain ⟨a1, hy, h⟩ := h
    refine sumK.q rfl rfl (r61_eq hy) rfl rfl rfl ?_
    conv => whnf
    all_goals (cases h)
    all_goals exact Res.of [] rfl nw_0 (by decide) js_0 (wr_n wr_0)
  clear h; intro hb h; conv => whnf
  replace h := obind.elim h; obtain ⟨xo, hy, h⟩ := h
  refine sumK.q rfl rfl (r62_eq hy) rfl rfl rfl ?_
  conv => whnf
  replace h := obind.elim h; obtain ⟨xo1, hy, h⟩ := h
  refine sumK.q rfl rfl (r63_eq hy) rfl rfl rfl ?_
  conv => whnf
  refine br.h h ?_ ?_ ?_
  · rfl
  · clear h; intro hb h; conv => whnf
    all_goals (cases h)
    all_goals exact Res.of [] rfl nw_0 (by decide) js_0 (wr_n wr_0)
  clear h; intro hb h; conv => whnf
  refine br.h h ?_ ?_ ?_
  · rfl
  · clear h; intro hb h; conv => whnf
    all_goals (cases h)
    all_goals exact Res.of [] rfl nw_0 (by decide) js_0 (wr_n wr_0)
  clear h; intro hb h; conv => whnf
  refine br.h h ?_ ?_ ?_
  · rfl
  · clear h; intro hb h; conv => whnf
    all_goals (cases h)
    all_goals exact Res.of [] rfl nw_0 (by decide) js_0 (wr_n wr_0)
  clear h; intro hb h; conv => whnf
  replace h := obind.elim h; obtain ⟨m, hy, h⟩ := h
  refine sumK.q rfl rfl (r64_eq hy) rfl rfl rfl ?_
  conv => whnf
  replace h := obind.elim h; obtain ⟨m1, hy, h⟩ := h
  refine sumK.q rfl rfl (r38_eq hy) rfl rfl rfl ?_
  conv => whnf
  refine br.h h ?_ ?_ ?_
  · rfl
  · clear h; intro hb h; conv => whnf
    all_goals (cases h)
    all_goals exact Res.of [] rfl nw_0 (by decide) js_0 (wr_n wr_0)
  clear h; intro hb h; conv => whnf
  replace h := obind.elim h; obtain ⟨xo2, hy, h⟩ := h
  refine sumK.q rfl rfl (r65_eq hy) rfl rfl rfl ?_
  conv => whnf
  replace h := obind.elim h; obtain ⟨xo3, hy, h⟩ := h
  refine sumK.q rfl rfl (r46_eq hy) rfl rfl rfl ?_
  conv => whnf
  replace h := obind.elim h; obtain ⟨xg, hy, h⟩ := h
  refine sumK.introF [39, 41] (sumRun_of (aqs := [.slice (some ⟨0, 0, none⟩) (l : List R23_Step).length 7]) (ws := [.win 0 0 (l.length * 7) false]) (n := 4) (m := 0) (t' := 43) (ra_cons (by first | rfl | exact ra_allT cR23_Step_len cR23_Step_flat rfl rfl (by first | rfl | omega) (by first | rfl | (simp; done)) | exact ra_slT cR23_Step_len cR23_Step_flat rfl rfl (by first | rfl | omega) (by first | rfl | omega) (by first | omega | (simp at *; omega))) rfl ra_nil) rfl (by rfl) (r66_eq hy) rfl rfl rfl rfl (wb_skip rfl wb_nil) (an_cons (rfl) (an_cons (rn_T cregistry_row_flat) (an_cons (rfl) (an_cons (rn_T cR23_Row_flat) an_nil)))) rfl) ?_
  conv => whnf
  replace h := obind.elim h; obtain ⟨f, hy, h⟩ := h
  refine sumK.introF [] (sumRun_of (aqs := [.pointer (some ⟨0, 0, none⟩), .agg ⟨[.int .u64 k.A, .int .u64 k.B]⟩, .agg ⟨[.int .i64 t.Proto, .bool t.Src.V6, .int .u64 t.Src.Hi, .int .u64 t.Src.Lo, .bool t.Dst.V6, .int .u64 t.Dst.Hi, .int .u64 t.Dst.Lo, .int .i64 t.SPort, .int .i64 t.DPort]⟩, .int .u64 cookie]) (ws := [.blk 39 false, .blk 40 false]) (n := 0) (m := 0) (t' := 43) (ra_cons (ra_tr rfl rfl (vp_at rfl rfl rfl rfl (vp_at rfl rfl (rn_T cregistry_row_flat) rfl vp_nil)) rfl) rfl (ra_cons rfl rfl (ra_cons rfl rfl (ra_cons rfl rfl ra_nil)))) rfl (by rfl) (r67_eq hy) rfl rfl rfl rfl (wb_skip rfl (wb_skip rfl wb_nil)) an_nil rfl) ?_
  conv => whnf
  replace h := obind.elim h; obtain ⟨f1, hy, h⟩ := h
  refine sumK.introF [] (sumRun_of (aqs := [.pointer (some ⟨0, 0, none⟩), .agg ⟨[.int .u64 k.A, .int .u64 k.B]⟩, .agg ⟨[.int .i64 t.Proto, .bool t.Src.V6, .int .u64 t.Src.Hi, .int .u64 t.Src.Lo, .bool t.Dst.V6, .int .u64 t.Dst.Hi, .int .u64 t.Dst.Lo, .int .i64 t.SPort, .int .i64 t.DPort]⟩, .int .u64 cookie]) (ws := [.blk 41 false, .blk 42 false]) (n := 0) (m := 0) (t' := 44) (ra_cons (ra_tr rfl rfl (vp_at rfl rfl rfl rfl (vp_at rfl rfl (rn_T cR23_Row_flat) rfl vp_nil)) rfl) rfl (ra_cons rfl rfl (ra_cons rfl rfl (ra_cons rfl rfl ra_nil)))) rfl (by rfl) (r68_eq hy) rfl rfl rfl rfl (wb_skip rfl (wb_skip rfl wb_nil)) an_nil rfl) ?_
  conv => whnf
  replace h := obind.elim h; obtain ⟨m2, hy, h⟩ := h
  refine sumK.q rfl rfl (r64_eq hy) rfl rfl rfl ?_
  conv => whnf
  replace h := obind.elim h; obtain ⟨f2, hy, h⟩ := h
  refine sumK.introF [] (sumRun_of (aqs := [.pointer (some ⟨0, 0, none⟩), .agg ⟨[.int .u64 k.A, .int .u64 k.B]⟩, .agg ⟨[.int .i64 t.Proto, .bool t.Src.V6, .int .u64 t.Src.Hi, .int .u64 t.Src.Lo, .bool t.Dst.V6, .int .u64 t.Dst.Hi, .int .u64 t.Dst.Lo, .int .i64 t.SPort, .int .i64 t.DPort]⟩, .int .u64 m2]) (ws := [.blk 39 false, .blk 40 false]) (n := 0) (m := 0) (t' := 45) (ra_cons (ra_tr rfl rfl (vp_at rfl rfl rfl rfl (vp_at rfl rfl (rn_T cregistry_row_flat) rfl vp_nil)) rfl) rfl (ra_cons rfl rfl (ra_cons rfl rfl (ra_cons rfl rfl ra_nil)))) rfl (by rfl) (r67_eq hy) rfl rfl rfl rfl (wb_skip rfl (wb_skip rfl wb_nil)) an_nil rfl) ?_
  conv => whnf
  replace h := obind.elim h; obtain ⟨f3, hy, h⟩ := h
  refine sumK.introF [] (sumRun_of (aqs := [.pointer (some ⟨0, 0, none⟩), .agg ⟨[.int .u64 k.A, .int .u64 k.B]⟩, .agg ⟨[.int .i64 t.Proto, .bool t.Src.V6, .int .u64 t.Src.Hi, .int .u64 t.Src.Lo, .bool t.Dst.V6, .int .u64 t.Dst.Hi, .int .u64 t.Dst.Lo, .int .i64 t.SPort, .int .i64 t.DPort]⟩, .int .u64 m2]) (ws := [.blk 41 false, .blk 42 false]) (n := 0) (m := 0) (t' := 46) (ra_cons (ra_tr rfl rfl (vp_at rfl rfl rfl rfl (vp_at rfl rfl (rn_T cR23_Row_flat) rfl vp_nil)) rfl) rfl (ra_cons rfl rfl (ra_cons rfl rfl (ra_cons rfl rfl ra_nil)))) rfl (by rfl) (r68_eq hy) rfl rfl rfl rfl (wb_skip rfl (wb_skip rfl wb_nil)) an_nil rfl) ?_
  conv => whnf
  refine br.h2 h ?_ ?_ ?_
  · rfl
  · clear h; intro hb h; conv => whnf
    all_goals (cases h)
    all_goals exact Res.of [] rfl nw_0 (by decide) js_0 (wr_n wr_0)
  clear h; intro hb h; conv => whnf
  refine br.h2 h ?_ ?_ ?_
  · rfl
  · clear h; intro hb h; conv => whnf
    all_goals (cases h)
    all_goals exact Res.of [] rfl nw_0 (by decide) js_0 (wr_n wr_0)
  clear h; intro hb h; conv => whnf
  let t1 : Bool := (f.1.ID == f1.1.ID) && ((f.1.Weight == f1.1.Weight) && ((f.1.State == f1.1.State) && ((f.1.Addr.V6 == f1.1.Addr.V6) && ((f.1.Addr.Hi == f1.1.Addr.Hi) && ((f.1.Addr.Lo == f1.1.Addr.Lo) && true)))))
  refine br.h2 h ?_ ?_ ?_
  · rfl
  · clear h; intro hb h; conv => whnf
    all_goals (cases h)
    all_goals exact Res.of [] rfl nw_0 (by decide) js_0 (wr_n wr_0)
  clear h; intro hb h; conv => whnf
  refine br.h2 h ?_ ?_ ?_
  · rfl
  · clear h; intro hb h; conv => whnf
    all_goals (cases h)
    all_goals exact Res.of [] rfl nw_0 (by decide) js_0 (wr_n wr_0)
  clear h; intro hb h; conv => whnf
  let t2 : Bool := (f2.1.ID == f3.1.ID) && ((f2.1.Weight == f3.1.Weight) && ((f2.1.State == f3.1.State) && ((f2.1.Addr.V6 == f3.1.Addr.V6) && ((f2.1.Addr.Hi == f3.1.Addr.Hi) && ((f2.1.Addr.Lo == f3.1.Addr.Lo) && true)))))
  refine br.h2 h ?_ ?_ ?_
  · rfl
  · clear h; intro hb h; conv => whnf
    all_goals (cases h)
    all_goals exact Res.of [] rfl nw_0 (by decide) js_0 (wr_n wr_0)
  clear h; intro hb h; conv => whnf
  refine br.h2 h ?_ ?_ ?_
  · rfl
  · clear h; intro hb h; conv => whnf
    all_goals (cases h)
    all_goals exact Res.of [] rfl nw_0 (by decide) js_0 (wr_n wr_0)
  clear h; intro hb h; conv => whnf
  replace h := obind.elim h; obtain ⟨a2, hy, h⟩ := h
  refine sumK.q rfl rfl (r61_eq hy) rfl rfl rfl ?_
  conv => whnf
  all_goals (cases h)
  all_goals exact Res.of [] rfl nw_0 (by decide) js_0 (wr_n wr_0)
def law32_StatelessTells : api_Packet → api_Key → api_Tuple → Int → Int → (List R23_Step) → Option Bool := law32_StatelessTellsF R32_Find R32_Make R32_Of R32_Open law32_awake law32_grown stateless_Find stateless_Find_nil stateless_Make stateless_Of stateless_Open
end Go.Vm.Code
namespace Go.Vm.Code
open Go Go.Vm
def growSt (i : Nat) (g : registry_Registry) : Int × Int × Int × Int × Int × Int × Int × Int × Int × (List registry_row) × (List R23_Row) :=
  ((i : Int), g.rule.Rise, g.rule.Fall, g.last, g.version, g.rule.Rise, g.rule.Fall, g.last, g.version, g.rows, g.rows.map cv)
theorem grow_step {l : List R23_Step} (hl : l.length ≤ 30) {i : Nat} (hi : i < l.length) {g : registry_Registry} (h : RI (i : Int) g) : ∃ g', RI ((i + 1 : Nat) : Int) g' ∧
    law32_grown_s1 R23_Registry_Add R23_Registry_Drain R23_Registry_Remove registry_Registry_Add registry_Registry_Drain registry_Registry_Remove l i g.rule.Rise g.rule.Fall g.last g.version g.rule.Rise g.rule.Fall g.last g.version g.rows (g.rows.map cv) = some (.inl (growSt (i + 1) g')) := by
  unfold law32_grown_s1
  have hN : (i : Int) < 2 ^ 40 := by omega
  have e0 : registry_Registry.mk (health_Rule.mk g.rule.Rise g.rule.Fall) g.rows g.last g.version = g := rfl
  have e1 : R23_Registry.mk (health_Rule.mk g.rule.Rise g.rule.Fall) (g.rows.map cv) g.last g.version = cnv g := rfl
  have ec : ((i + 1 : Nat) : Int) = (i : Int) + 1 := by omega
  have stay : RI ((i + 1 : Nat) : Int) g := h.mono (by omega)
  have ok : ((0 : Int) ≤ (i : Int) ∧ (i : Int) < (l.length : Int)) := ⟨by omega, by omega⟩
  rw [cond_p (by omega), oreq_p ok, Int.toNat_natCast, List.getElem?_eq_getElem hi, Option.bind_some, e0, e1, wI64 (n := (i : Int) + 1) (by omega) (by omega), ← ec]
  generalize l[i] = e
  simp only [oreq_p ok]
  cases h0 : e.Kind == 0 with
  | true =>
    rw [cond_true, add_eq h hN, Option.bind_some, radd_eq h hN, Option.bind_some]
    exact ⟨(addG g e.N e.Addr).2.2, by rw [ec]; exact add_RI h _ _, rfl⟩
  | false =>
  rw [cond_false]
  cases h1 : e.Kind == 1 with
  | true =>
    rw [cond_true]
    rcases rid_dec g e.ID with ⟨k, r, hk, eid⟩ | hn
    · rw [← eid, remove_yes h hN hk, Option.bind_some, rremove_yes h hN hk, Option.bind_some]
      exact ⟨remG g k, by rw [ec]; exact rem_RI h k, rfl⟩
    · rw [remove_no h hn, Option.bind_some, rremove_no h hn, Option.bind_some]
      exact ⟨g, stay, rfl⟩
  | false =>
  rw [cond_false]
  cases h2 : e.Kind == 2 with
  | true =>
    rw [cond_true]
    rcases rid_dec g e.ID with ⟨k, r, hk, eid⟩ | hn
    · rw [← eid, drain_yes h hN hk, Option.bind_some, rdrain_yes h hN hk, Option.bind_some]
      by_cases c : r.drains = e.On
      · rw [if_pos c, if_pos c]; exact ⟨g, stay, rfl⟩
      · rw [if_neg c, if_neg c]
        exact ⟨updR g k ⟨r.Backend, e.On, r.health⟩ 1, by rw [ec]; exact h.upd hk (by rfl) (by decide) (by decide), rfl⟩
    · rw [drain_no h hn, Option.bind_some, rdrain_no h hn, Option.bind_some]
      exact ⟨g, stay, rfl⟩
  | false =>
    rw [cond_false]
    exact ⟨g, stay, rfl⟩
theorem grown_step (l : List R23_Step) (hl : l.length ≤ 30) : ∀ (d i : Nat) (n : Nat) (g : registry_Registry), i + d = l.length → d < n → RI (i : Int) g → ∃ g', RI (100 : Int) g' ∧ iter (fun st => law32_grown_s1 R23_Registry_Add R23_Registry_Drain R23_Registry_Remove registry_Registry_Add registry_Registry_Drain registry_Registry_Remove l st.1 st.2.1 st.2.2.1 st.2.2.2.1 st.2.2.2.2.1 st.2.2.2.2.2.1 st.2.2.2.2.2.2.1 st.2.2.2.2.2.2.2.1 st.2.2.2.2.2.2.2.2.1 st.2.2.2.2.2.2.2.2.2.1 st.2.2.2.2.2.2.2.2.2.2) n (growSt i g) = some (g', cnv g')
  | 0, i, n, g, he, hn, h => by
    obtain ⟨m, rfl⟩ : ∃ m, n = m + 1 := ⟨n - 1, by omega⟩
    refine ⟨g, h.mono (by omega), ?_⟩
    rw [iter]
    simp only [growSt]
    unfold law32_grown_s1
    rw [cond_n (by omega)]; rfl
  | d + 1, i, n, g, he, hn, h => by
    obtain ⟨m, rfl⟩ : ∃ m, n = m + 1 := ⟨n - 1, by omega⟩
    obtain ⟨g', h', e⟩ := grow_step hl (show i < l.length by omega) h
    obtain ⟨g2, h2, e2⟩ := grown_step l hl d (i + 1) m g' (by omega) (by omega) h'
    refine ⟨g2, h2, ?_⟩
    rw [iter]
    simp only [growSt] at e ⊢
    rw [e]
    exact e2
theorem grown_eq {l : List R23_Step} (hl : l.length ≤ 30) : ∃ g, RI (100 : Int) g ∧ law32_grown l = some (g, cnv g) := by
  unfold law32_grown law32_grownF
  rw [hright_eq, rright_eq, Option.bind_some, Option.bind_some, show ruleB ⟨1, 1⟩ = true from by decide, oreq.mk rfl, oreq.mk rfl]
  have hi : RI ((0 : Nat) : Int) (registry_Registry.mk ⟨1, 1⟩ [] 0 0) := { rule := by decide, len := by simp, last0 := by simp, last1 := by simp, ver0 := by simp, ver1 := by simp, ids := by simp, up := by simp }
  obtain ⟨g, h1, h2⟩ := grown_step l hl l.length 0 FUEL _ (by omega) (by rw [FUEL_eq]; omega) hi
  have e : growSt 0 ⟨⟨1, 1⟩, [], 0, 0⟩ = (0, 1, 1, 0, 0, 1, 1, 0, 0, [], []) := rfl
  rw [e] at h2
  exact ⟨g, h1, h2⟩
theorem awake32 : law32_awake = some true := by decide +kernel
theorem statelessTells (p : api_Packet) (k : api_Key) (t : api_Tuple) (id cookie : Int) (l : List R23_Step) (hE : 0 ≤ p.Echo ∧ p.Echo < 2 ^ 32) (hi : -2 ^ 63 ≤ id ∧ id < 2 ^ 63) (hc : 0 ≤ cookie ∧ cookie < 2 ^ 64) (hs : inU t.Src) (hd : inU t.Dst) : law32_StatelessTells p k t id cookie l = some true := by
  unfold law32_StatelessTells law32_StatelessTellsF
  rw [awake32, Option.bind_some]
  by_cases hl : (l.length : Int) > 30
  · rw [cond_p hl]
  rw [cond_n hl]
  by_cases hp : (p.CID.length : Int) > 40
  · rw [cond_p hp]
  rw [cond_n hp]
  obtain ⟨c, c1, c2⟩ := of_eq hE (by omega)
  obtain ⟨g, hg, eg⟩ := grown_eq (l := l) (by omega)
  obtain ⟨q, rfl⟩ := Int.eq_ofNat_of_zero_le hc.1
  obtain ⟨m, hm⟩ := Int.eq_ofNat_of_zero_le (ckI_rng k t id).1
  have hm2 := (ckI_rng k t id).2
  obtain ⟨b1, o1, g1, r1⟩ := gets_eq hg (opI k t q).1
  obtain ⟨b2, o2, g2, r2⟩ := gets_eq hg (opI k t m).1
  rw [c1, c2, Option.bind_some, Option.bind_some, smake_eq hi hs hd, Option.bind_some, rmake_eq hs hd, Option.bind_some, sopen_eq (by omega) hs hd, Option.bind_some, ropen_eq (by omega) hs hd, Option.bind_some, eg, Option.bind_some]
  simp only [BEq.rfl, Bool.not_true, cond_false, bne_self_eq_false]
  rw [sfind_eq (by omega) hs hd g1, Option.bind_some, rfind_eq (by omega) hs hd r1, Option.bind_some, Option.bind_some, hm, sfind_eq (by omega) hs hd g2, Option.bind_some, rfind_eq (by omega) hs hd r2, Option.bind_some]
  simp
def t6 (t : api_Tuple) : api_Tuple := ⟨6, t.Src, t.Dst, t.SPort, t.DPort⟩
end Go.Vm.Code
