import Derived.Test.YtdnbalelfakjhaaNPacketTurnede
namespace Go.Vm.Code
open Go Go.Vm Go.Proofs
set_option maxRecDepth 100000
set_option maxHeartbeats 4000000
set_option linter.unusedVariables false
def ipfour_GetF (check_Right : (List UInt8) → Option Bool) (ipfour_fields_address : ipfour_fields → Option (api_Addr × octet_Reader)) (octet_New : (List UInt8) → Option octet_Reader) (octet_Reader_Num : octet_Reader → Int → Option (Int × octet_Reader)) (octet_Reader_Text : octet_Reader → Int → Option ((List UInt8) × octet_Reader)) (s : List UInt8) : Option (ipfour_Head × (List UInt8) × Int) :=
  cond (decide ((s.length : Int) < 20))
    (
    some ((ipfour_Head.mk 0 0 false 0 0 (api_Addr.mk false 0 0) (api_Addr.mk false 0 0) [], [], 2)))
    (
    (octet_New s).bind fun n =>
    (octet_Reader_Num n 1).bind fun n1 =>
    (octet_Reader_Num n1.2 1).bind fun n2 =>
    (octet_Reader_Num n2.2 2).bind fun n3 =>
    cond ((n1.1.fdiv (2 ^ 4)) != 4)
      (
      some ((ipfour_Head.mk 0 0 false 0 0 (api_Addr.mk false 0 0) (api_Addr.mk false 0 0) [], [], 3)))
      (
      let t := decide ((wI .i64 ((andI .i64 n1.1 15) * 4)) < 20)
      cond (t)
        (
        some ((ipfour_Head.mk 0 0 false 0 0 (api_Addr.mk false 0 0) (api_Addr.mk false 0 0) [], [], 3)))
        (
        let t1 := decide (n3.1 < (wI .i64 ((andI .i64 n1.1 15) * 4)))
        cond (t1)
          (
          some ((ipfour_Head.mk 0 0 false 0 0 (api_Addr.mk false 0 0) (api_Addr.mk false 0 0) [], [], 3)))
          (
          cond (decide (n3.1 > (s.length : Int)))
            (
            some ((ipfour_Head.mk 0 0 false 0 0 (api_Addr.mk false 0 0) (api_Addr.mk false 0 0) [], [], 2)))
            (
            oreq (decide ((0 : Int) ≤ (wI .i64 ((andI .i64 n1.1 15) * 4)) ∧ (wI .i64 ((andI .i64 n1.1 15) * 4)) ≤ (s.length : Int))) <|
            let t2 := s.take (wI .i64 ((andI .i64 n1.1 15) * 4)).toNat
            (check_Right t2).bind fun xr =>
            cond (!xr)
              (
              some ((ipfour_Head.mk 0 0 false 0 0 (api_Addr.mk false 0 0) (api_Addr.mk false 0 0) [], [], 4)))
              (
              (octet_Reader_Num n3.2 2).bind fun n4 =>
              (octet_Reader_Num n4.2 2).bind fun n5 =>
              cond ((andnI .i64 n5.1 16384) != 0)
                (
                some ((ipfour_Head.mk 0 0 false 0 0 (api_Addr.mk false 0 0) (api_Addr.mk false 0 0) [], [], 7)))
                (
                (octet_Reader_Num n5.2 1).bind fun n6 =>
                (octet_Reader_Num n6.2 1).bind fun n7 =>
                (octet_Reader_Num n7.2 2).bind fun n8 =>
                (ipfour_fields_address (ipfour_fields.mk n8.2)).bind fun a =>
                (ipfour_fields_address (ipfour_fields.mk a.2)).bind fun a1 =>
                let t3 := wI .i64 ((wI .i64 ((andI .i64 n1.1 15) * 4)) - 20)
                (octet_Reader_Text a1.2 t3).bind fun t4 =>
                let t5 := wI .i64 (n3.1 - (wI .i64 ((andI .i64 n1.1 15) * 4)))
                (octet_Reader_Text t4.2 t5).bind fun t6 =>
                some ((ipfour_Head.mk n2.1 n4.1 (n5.1 != 0) n6.1 n7.1 a.1 a1.1 t4.1, t6.1, 0)))))))))
def rx99 (x : ipfour_Head × (List UInt8) × Int) : SRes := ⟨.tuple ⟨[.agg ⟨[.int .i64 x.1.Class, .int .i64 x.1.Mark, .bool x.1.Whole, .int .i64 x.1.TTL, .int .i64 x.1.Proto, .bool x.1.Src.V6, .int .u64 x.1.Src.Hi, .int .u64 x.1.Src.Lo, .bool x.1.Dst.V6, .int .u64 x.1.Dst.Hi, .int .u64 x.1.Dst.Lo, .string ⟨⟨x.1.Options⟩⟩]⟩, .string ⟨⟨x.2.1⟩⟩, .int .i64 x.2.2]⟩, [], []⟩
def r99 (g : (List UInt8) → Option (ipfour_Head × (List UInt8) × Int)) : Dec := dV asS fun (y0 : List UInt8) => dEnd (ofG (g y0) rx99)
theorem r99_c {g : (List UInt8) → Option (ipfour_Head × (List UInt8) × Int)} {y0 : List UInt8} {x : ipfour_Head × (List UInt8) × Int} (hx : g y0 = some x) : r99 g [.string ⟨⟨y0⟩⟩] [] = some (rx99 x) := (dV_eq (asS_c)).trans (ofG_eq hx)
def s99 (g : (List UInt8) → Option (ipfour_Head × (List UInt8) × Int)) : Summ := ⟨[.v], r99 g⟩
theorem r99_eq {g : (List UInt8) → Option (ipfour_Head × (List UInt8) × Int)} {y0 : List UInt8} {x : ipfour_Head × (List UInt8) × Int} (hx : g y0 = some x) : (s99 g).run [.string ⟨⟨y0⟩⟩] [] = some (rx99 x) := r99_c hx
abbrev sums99 (check_Right : (List UInt8) → Option Bool) (ipfour_fields_address : ipfour_fields → Option (api_Addr × octet_Reader)) (octet_New : (List UInt8) → Option octet_Reader) (octet_Reader_Num : octet_Reader → Int → Option (Int × octet_Reader)) (octet_Reader_Text : octet_Reader → Int → Option ((List UInt8) × octet_Reader)) : List (Nat × Summ) := [(101, s101 check_Right), (116, s116 ipfour_fields_address), (103, s103 octet_New), (104, s104 octet_Reader_Num), (106, s106 octet_Reader_Text)]
theorem leads99 (check_Right : (List UInt8) → Option Bool) (ipfour_fields_address : ipfour_fields → Option (api_Addr × octet_Reader)) (octet_New : (List UInt8) → Option octet_Reader) (octet_Reader_Num : octet_Reader → Int → Option (Int × octet_Reader)) (octet_Reader_Text : octet_Reader → Int → Option ((List UInt8) × octet_Reader)) (hS : SumsOK Try.prog (aget (sums99 check_Right ipfour_fields_address octet_New octet_Reader_Num octet_Reader_Text))) (s : List UInt8) (res : ipfour_Head × (List UInt8) × Int) (h : ipfour_GetF check_Right ipfour_fields_address octet_New octet_Reader_Num octet_Reader_Text s = some res) :
    Leads Try.prog 99 0 ⟨⟨99, 102, [(0, .string ⟨⟨s⟩⟩)], [.code k99_54], [], false, none⟩, [], [], 0⟩ (fun v H _ => Res 0 (rx99 res) v H) := by
  unfold ipfour_GetF at h
  refine ev_ok tab_ok hS true 3000 ?_
  conv => whnf
  refine br.h h ?_ ?_ ?_
  · rfl
  · clear h; intro hb h; conv => whnf
    all_goals (cases h; exact Res.z rfl rfl rfl)
  clear h; intro hb h; conv => whnf
  replace h := obind.elim h; obtain ⟨n, hy, h⟩ := h
  refine sumK.introF [1] (sumRun_of (aqs := [.string ⟨⟨s⟩⟩]) (ws := []) (n := 1) (m := 0) (t' := 2) (ra_cons rfl rfl ra_nil) rfl (by rfl) (r103_eq hy) rfl rfl rfl rfl wb_nil (an_cons (rfl) an_nil) rfl) ?_
  conv => whnf
  replace h := obind.elim h; obtain ⟨n1, hy, h⟩ := h
  refine sumK.introF [1] (sumRun_of (aqs := [.pointer (some ⟨0, 0, none⟩), .int .i64 1]) (ws := [.win 1 0 3 true]) (n := 0) (m := 0) (t' := 3) (ra_cons rfl rfl (ra_cons rfl rfl ra_nil)) rfl (by rfl) (r104_eq hy) rfl rfl rfl rfl (wb_win rfl rfl rfl ⟨rfl, Nat.le_of_ble_eq_true rfl⟩ rfl rfl wb_nil) an_nil rfl) ?_
  conv => whnf
  replace h := obind.elim h; obtain ⟨n2, hy, h⟩ := h
  refine sumK.introF [1] (sumRun_of (aqs := [.pointer (some ⟨0, 0, none⟩), .int .i64 1]) (ws := [.win 1 0 3 true]) (n := 0) (m := 0) (t' := 3) (ra_cons rfl rfl (ra_cons rfl rfl ra_nil)) rfl (by rfl) (r104_eq hy) rfl rfl rfl rfl (wb_win rfl rfl rfl ⟨rfl, Nat.le_of_ble_eq_true rfl⟩ rfl rfl wb_nil) an_nil rfl) ?_
  conv => whnf
  replace h := obind.elim h; obtain ⟨n3, hy, h⟩ := h
  refine sumK.introF [1] (sumRun_of (aqs := [.pointer (some ⟨0, 0, none⟩), .int .i64 2]) (ws := [.win 1 0 3 true]) (n := 0) (m := 0) (t' := 4) (ra_cons rfl rfl (ra_cons rfl rfl ra_nil)) rfl (by rfl) (r104_eq hy) rfl rfl rfl rfl (wb_win rfl rfl rfl ⟨rfl, Nat.le_of_ble_eq_true rfl⟩ rfl rfl wb_nil) an_nil rfl) ?_
  conv => whnf
  refine br.h h ?_ ?_ ?_
  · rfl
  · clear h; intro hb h; conv => whnf
    all_goals (cases h; exact Res.z rfl rfl rfl)
  clear h; intro hb h; conv => whnf
  let t : Bool := decide ((wI .i64 ((andI .i64 n1.1 15) * 4)) < 20)
  refine br.h h ?_ ?_ ?_
  · rfl
  · clear h; intro hb h; conv => whnf
    all_goals (cases h; exact Res.z rfl rfl rfl)
  clear h; intro hb h; conv => whnf
  let t1 : Bool := decide (n3.1 < (wI .i64 ((andI .i64 n1.1 15) * 4)))
  refine br.h h ?_ ?_ ?_
  · rfl
  · clear h; intro hb h; conv => whnf
    all_goals (cases h; exact Res.z rfl rfl rfl)
  clear h; intro hb h; conv => whnf
  refine br.h h ?_ ?_ ?_
  · rfl
  · clear h; intro hb h; conv => whnf
    all_goals (cases h; exact Res.z rfl rfl rfl)
  clear h; intro hb h; conv => whnf
  replace h := oreq.elim h; obtain ⟨hb, h⟩ := h
  first | (refine req.intro hb ?_; conv => whnf) | skip
  let t2 : List UInt8 := s.take (wI .i64 ((andI .i64 n1.1 15) * 4)).toNat
  replace h := obind.elim h; obtain ⟨xr, hy, h⟩ := h
  refine sumK.q rfl rfl (r101_eq hy) rfl rfl rfl ?_
  conv => whnf
  refine br.h h ?_ ?_ ?_
  · rfl
  · clear h; intro hb h; conv => whnf
    all_goals (cases h; exact Res.z rfl rfl rfl)
  clear h; intro hb h; conv => whnf
  replace h := obind.elim h; obtain ⟨n4, hy, h⟩ := h
  refine sumK.introF [1] (sumRun_of (aqs := [.pointer (some ⟨0, 0, none⟩), .int .i64 2]) (ws := [.win 1 0 3 true]) (n := 0) (m := 0) (t' := 4) (ra_cons rfl rfl (ra_cons rfl rfl ra_nil)) rfl (by rfl) (r104_eq hy) rfl rfl rfl rfl (wb_win rfl rfl rfl ⟨rfl, Nat.le_of_ble_eq_true rfl⟩ rfl rfl wb_nil) an_nil rfl) ?_
  conv => whnf
  replace h := obind.elim h; obtain ⟨n5, hy, h⟩ := h
  refine sumK.introF [1] (sumRun_of (aqs := [.pointer (some ⟨0, 0, none⟩), .int .i64 2]) (ws := [.win 1 0 3 true]) (n := 0) (m := 0) (t' := 4) (ra_cons rfl rfl (ra_cons rfl rfl ra_nil)) rfl (by rfl) (r104_eq hy) rfl rfl rfl rfl (wb_win rfl rfl rfl ⟨rfl, Nat.le_of_ble_eq_true rfl⟩ rfl rfl wb_nil) an_nil rfl) ?_
  conv => whnf
  refine br.h h ?_ ?_ ?_
  · rfl
  · clear h; intro hb h; conv => whnf
    all_goals (cases h; exact Res.z rfl rfl rfl)
  clear h; intro hb h; conv => whnf
  replace h := obind.elim h; obtain ⟨n6, hy, h⟩ := h
  refine sumK.introF [1] (sumRun_of (aqs := [.pointer (some ⟨0, 0, none⟩), .int .i64 1]) (ws := [.win 1 0 3 true]) (n := 0) (m := 0) (t' := 6) (ra_cons rfl rfl (ra_cons rfl rfl ra_nil)) rfl (by rfl) (r104_eq hy) rfl rfl rfl rfl (wb_win rfl rfl rfl ⟨rfl, Nat.le_of_ble_eq_true rfl⟩ rfl rfl wb_nil) an_nil rfl) ?_
  conv => whnf
  replace h := obind.elim h; obtain ⟨n7, hy, h⟩ := h
  refine sumK.introF [1] (sumRun_of (aqs := [.pointer (some ⟨0, 0, none⟩), .int .i64 1]) (ws := [.win 1 0 3 true]) (n := 0) (m := 0) (t' := 9) (ra_cons rfl rfl (ra_cons rfl rfl ra_nil)) rfl (by rfl) (r104_eq hy) rfl rfl rfl rfl (wb_win rfl rfl rfl ⟨rfl, Nat.le_of_ble_eq_true rfl⟩ rfl rfl wb_nil) an_nil rfl) ?_
  conv => whnf
  replace h := obind.elim h; obtain ⟨n8, hy, h⟩ := h
  refine sumK.introF [1] (sumRun_of (aqs := [.pointer (some ⟨0, 0, none⟩), .int .i64 2]) (ws := [.win 1 0 3 true]) (n := 0) (m := 0) (t' := 11) (ra_cons rfl rfl (ra_cons rfl rfl ra_nil)) rfl (by rfl) (r104_eq hy) rfl rfl rfl rfl (wb_win rfl rfl rfl ⟨rfl, Nat.le_of_ble_eq_true rfl⟩ rfl rfl wb_nil) an_nil rfl) ?_
  conv => whnf
  replace h := obind.elim h; obtain ⟨a, hy, h⟩ := h
  refine sumK.introF [1] (sumRun_of (aqs := [.agg ⟨[.pointer (some ⟨0, 0, none⟩)]⟩]) (ws := [.blk 1 true]) (n := 0) (m := 0) (t' := 12) (ra_cons (ra_tr rfl rfl (vp_at rfl rfl rfl rfl vp_nil) rfl) rfl ra_nil) rfl (by rfl) (r116_eq hy) rfl rfl rfl rfl (wb_blk rfl rfl rfl rfl wb_nil) an_nil rfl) ?_
  conv => whnf
  replace h := obind.elim h; obtain ⟨a1, hy, h⟩ := h
  refine sumK.introF [1] (sumRun_of (aqs := [.agg ⟨[.pointer (some ⟨0, 0, none⟩)]⟩]) (ws := [.blk 1 true]) (n := 0) (m := 0) (t' := 14) (ra_cons (ra_tr rfl rfl (vp_at rfl rfl rfl rfl vp_nil) rfl) rfl ra_nil) rfl (by rfl) (r116_eq hy) rfl rfl rfl rfl (wb_blk rfl rfl rfl rfl wb_nil) an_nil rfl) ?_
  conv => whnf
  let t3 : Int := wI .i64 ((wI .i64 ((andI .i64 n1.1 15) * 4)) - 20)
  replace h := obind.elim h; obtain ⟨t4, hy, h⟩ := h
  refine sumK.introF [1] (sumRun_of (aqs := [.pointer (some ⟨0, 0, none⟩), .int .i64 t3]) (ws := [.win 1 0 3 true]) (n := 0) (m := 0) (t' := 16) (ra_cons rfl rfl (ra_cons rfl rfl ra_nil)) rfl (by rfl) (r106_eq hy) rfl rfl rfl rfl (wb_win rfl rfl rfl ⟨rfl, Nat.le_of_ble_eq_true rfl⟩ rfl rfl wb_nil) an_nil rfl) ?_
  conv => whnf
  let t5 : Int := wI .i64 (n3.1 - (wI .i64 ((andI .i64 n1.1 15) * 4)))
  replace h := obind.elim h; obtain ⟨t6, hy, h⟩ := h
  refine sumK.introF [1] (sumRun_of (aqs := [.pointer (some ⟨0, 0, none⟩), .int .i64 t5]) (ws := [.win 1 0 3 true]) (n := 0) (m := 0) (t' := 22) (ra_cons rfl rfl (ra_cons rfl rfl ra_nil)) rfl (by rfl) (r106_eq hy) rfl rfl rfl rfl (wb_win rfl rfl rfl ⟨rfl, Nat.le_of_ble_eq_true rfl⟩ rfl rfl wb_nil) an_nil rfl) ?_
  conv => whnf
  all_goals (cases h; exact Res.z rfl rfl rfl)
theorem ok99 (check_Right : (List UInt8) → Option Bool) (ipfour_fields_address : ipfour_fields → Option (api_Addr × octet_Reader)) (octet_New : (List UInt8) → Option octet_Reader) (octet_Reader_Num : octet_Reader → Int → Option (Int × octet_Reader)) (octet_Reader_Text : octet_Reader → Int → Option ((List UInt8) × octet_Reader)) (hS : SumsOK Try.prog (aget (sums99 check_Right ipfour_fields_address octet_New octet_Reader_Num octet_Reader_Text))) : SumOK Try.prog 99 (s99 (ipfour_GetF check_Right ipfour_fields_address octet_New octet_Reader_Num octet_Reader_Text)) := by
  refine SumOK.of_leads tab_ok (fun ar os r ha hr => ?_) ⟨Try.f99, rfl, by decide, rfl⟩
  replace hr : r99 (ipfour_GetF check_Right ipfour_fields_address octet_New octet_Reader_Num octet_Reader_Text) ar (conts os) = some r := hr
  unfold r99 at hr
  generalize hc : conts os = C at hr
  replace hr := dV.elim hr; obtain ⟨v0, l1, y0, rfl, e0, hr⟩ := hr; obtain rfl := asS_eq _ _ e0
  replace hr := dFin hr; obtain ⟨rfl, rfl, x, h, rfl⟩ := hr
  obtain rfl := kinds_nil hc
  exact ⟨_, rfl, leads99 check_Right ipfour_fields_address octet_New octet_Reader_Num octet_Reader_Text hS _ x h⟩
def ipfour_Get : (List UInt8) → Option (ipfour_Head × (List UInt8) × Int) := ipfour_GetF check_Right ipfour_fields_address octet_New octet_Reader_Num octet_Reader_Text
theorem lift99 : SumOK Try.prog 99 (s99 ipfour_Get) := ok99 check_Right ipfour_fields_address octet_New octet_Reader_Num octet_Reader_Text (SumsOK.of_tab ⟨lift101, lift116, lift103, lift104, lift106, trivial⟩)
end Go.Vm.Code
namespace Go.Vm.Code
open Go Go.Vm
def zero5 : ipfour_Head := ⟨0, 0, false, 0, 0, ⟨false, 0, 0⟩, ⟨false, 0, 0⟩, []⟩
def get5 (s : List UInt8) : ipfour_Head × List UInt8 × Int :=
  if s.length < 20 then (zero5, [], 2) else if vK s 0 1 / 16 ≠ 4 then (zero5, [], 3) else if vK s 0 1 % 16 * 4 < 20 then (zero5, [], 3) else if vK s 2 2 < vK s 0 1 % 16 * 4 then (zero5, [], 3) else if (s.length : Int) < vK s 2 2 then (zero5, [], 2) else
    if norm (wsum (s.take (vK s 0 1 % 16 * 4).toNat)) ≠ 65535 then (zero5, [], 4) else if vK s 6 2 ≠ 0 ∧ vK s 6 2 ≠ 16384 then (zero5, [], 7) else
      (⟨vK s 1 1, vK s 4 2, vK s 6 2 != 0, vK s 8 1, vK s 9 1, adr4 s 12, adr4 s 16, (s.drop 20).take ((vK s 0 1 % 16 * 4).toNat - 20)⟩, (s.drop (vK s 0 1 % 16 * 4).toNat).take ((vK s 2 2).toNat - (vK s 0 1 % 16 * 4).toNat), 0)
theorem vK_sub (s : List UInt8) (p : Nat) : vK ((s.drop p).take 4) 0 4 = vK s p 4 := by unfold vK; simp [List.take_take]
theorem faddr {s : List UInt8} {p : Nat} (h : p + 4 ≤ s.length) : ipfour_fields_address ⟨⟨s.drop p, true, false⟩⟩ = some (adr4 s p, ⟨s.drop (p + 4), true, false⟩) := by
  unfold ipfour_fields_address ipfour_fields_addressF
  rw [show (4 : Int) = ((4 : Nat) : Int) from rfl, text_at h, Option.bind_some, aget4 (by simp; omega), Option.bind_some, vK_sub]; rfl
theorem g5_eq {s : List UInt8} (hs : s.length < 2 ^ 38) : ipfour_Get s = some (get5 s) := by
  unfold ipfour_Get ipfour_GetF get5
  by_cases h0 : s.length < 20
  · rw [cond_p (by omega), if_pos h0]; rfl
  rw [cond_n (by omega), if_neg h0, rNew_eq, Option.bind_some]
  have N : ∀ (p k : Nat), 1 ≤ k → k ≤ 7 → p + k ≤ 20 → octet_Reader_Num ⟨s.drop p, true, false⟩ (k : Int) = some (vK s p k, ⟨s.drop (p + k), true, false⟩) := fun p k a b c => num_at a b (by omega) (by omega)
  have N0 : octet_Reader_Num ⟨s, true, false⟩ 1 = some (vK s 0 1, ⟨s.drop 1, true, false⟩) := N 0 1 (by omega) (by omega) (by omega)
  have N1 : octet_Reader_Num ⟨s.drop 1, true, false⟩ 1 = some (vK s 1 1, ⟨s.drop 2, true, false⟩) := N 1 1 (by omega) (by omega) (by omega)
  have N2 : octet_Reader_Num ⟨s.drop 2, true, false⟩ 2 = some (vK s 2 2, ⟨s.drop 4, true, false⟩) := N 2 2 (by omega) (by omega) (by omega)
  have N4 : octet_Reader_Num ⟨s.drop 4, true, false⟩ 2 = some (vK s 4 2, ⟨s.drop 6, true, false⟩) := N 4 2 (by omega) (by omega) (by omega)
  have N6 : octet_Reader_Num ⟨s.drop 6, true, false⟩ 2 = some (vK s 6 2, ⟨s.drop 8, true, false⟩) := N 6 2 (by omega) (by omega) (by omega)
  have N8 : octet_Reader_Num ⟨s.drop 8, true, false⟩ 1 = some (vK s 8 1, ⟨s.drop 9, true, false⟩) := N 8 1 (by omega) (by omega) (by omega)
  have N9 : octet_Reader_Num ⟨s.drop 9, true, false⟩ 1 = some (vK s 9 1, ⟨s.drop 10, true, false⟩) := N 9 1 (by omega) (by omega) (by omega)
  have N10 : octet_Reader_Num ⟨s.drop 10, true, false⟩ 2 = some (vK s 10 2, ⟨s.drop 12, true, false⟩) := N 10 2 (by omega) (by omega) (by omega)
  rw [N0, Option.bind_some, N1, Option.bind_some, N2, Option.bind_some]
  simp only []
  rw [N4]
  simp only [Option.bind_some]
  rw [N6, fdivP, show ((2 : Int) ^ 4) = 16 from rfl]
  have r0 := vK_rng s 0 1 256 (by decide)
  have r2 := vK_rng s 2 2 65536 (by decide)
  have ea : andI .i64 (vK s 0 1) 15 = vK s 0 1 % 16 := andI64_mask 4 rfl (by omega) (by omega) (by omega)
  rw [ea, wI64 (n := vK s 0 1 % 16 * 4) (by omega) (by omega)]
  have hz : (⟨0, 0, false, 0, 0, ⟨false, 0, 0⟩, ⟨false, 0, 0⟩, []⟩ : ipfour_Head) = zero5 := rfl
  rw [hz]
  by_cases g1 : vK s 0 1 / 16 = 4
  · rw [show (vK s 0 1 / 16 != 4) = false by simpa using g1, cond_false, if_neg (by simpa using g1)]
    obtain ⟨t, ht⟩ := Int.eq_ofNat_of_zero_le (show 0 ≤ vK s 0 1 % 16 * 4 by omega)
    rw [ht]
    simp only [Option.bind_some, Int.toNat_natCast]
    by_cases g2 : (t : Int) < 20
    · rw [cond_p g2, if_pos g2]
    rw [cond_n g2, if_neg g2]
    by_cases g3 : vK s 2 2 < t
    · rw [cond_p g3, if_pos g3]
    rw [cond_n g3, if_neg g3]
    by_cases g4 : (s.length : Int) < vK s 2 2
    · rw [cond_p (by omega), if_pos g4]
    rw [cond_n (by omega), if_neg g4, oreq_p (by omega), Right_eq (by simp; omega), Option.bind_some]
    by_cases g5 : norm (wsum (s.take t)) = 65535
    · rw [if_neg (by simpa using g5), g5]
      simp only [show ((((65535 : Nat) : Int) == 65535)) = true from rfl, Bool.not_true, cond_false]
      have e6 := vK_two (s := s) (p := 6) (by omega)
      rw [show (andnI .i64 (vK s 6 2) 16384 != 0) = decide (vK s 6 2 ≠ 0 ∧ vK s 6 2 ≠ 16384) by rw [e6]; exact andn_flag, cond_dec]
      split
      · rfl
      obtain ⟨m, hm⟩ := Int.eq_ofNat_of_zero_le r2.1
      rw [N8, Option.bind_some, N9, Option.bind_some, N10, Option.bind_some, faddr (by omega), Option.bind_some, faddr (by omega), Option.bind_some, wI64 (n := (t : Int) - 20) (by omega) (by omega), hm, wI64 (n := (m : Int) - t) (by omega) (by omega)]
      simp only []
      rw [show (t : Int) - 20 = ((t - 20 : Nat) : Int) by omega, show (m : Int) - t = ((m - t : Nat) : Int) by omega, text_at (by omega), Option.bind_some]
      simp only []
      rw [text_at (by omega), Option.bind_some, show 12 + 4 + 4 + (t - 20) = t by omega, Int.toNat_natCast]
    · rw [if_pos (by simpa using g5), show ((((norm (wsum (s.take t)) : Nat) : Int) == 65535)) = false by simp; omega]; rfl
  · rw [show (vK s 0 1 / 16 != 4) = true by simpa using g1, cond_true, if_pos (by simpa using g1)]
end Go.Vm.Code
namespace Go.Vm.Code
open Go Go.Vm Go.Proofs
set_option maxRecDepth 100000
set_option maxHeartbeats 4000000
set_option linter.unusedVariables false
def ipsix_GetF (addr_Get : (List UInt8) → Option (api_Addr × Bool)) (octet_New : (List UInt8) → Option octet_Reader) (octet_Reader_Bad : octet_Reader → Option (Bool × octet_Reader)) (octet_Reader_Num : octet_Reader → Int → Option (Int × octet_Reader)) (octet_Reader_Text : octet_Reader → Int → Option ((List UInt8) × octet_Reader)) (s : List UInt8) : Option (ipsix_Head × (List UInt8) × Int) :=
  (octet_New s).bind fun n =>
  (octet_Reader_Num n 4).bind fun n1 =>
  (octet_Reader_Num n1.2 2).bind fun n2 =>
  (octet_Reader_Num n2.2 1).bind fun n3 =>
  (octet_Reader_Num n3.2 1).bind fun n4 =>
  (octet_Reader_Text n4.2 16).bind fun t =>
  (octet_Reader_Text t.2 16).bind fun t1 =>
  (octet_Reader_Bad t1.2).bind fun b =>
  cond (b.1)
    (
    some ((ipsix_Head.mk 0 0 0 0 (api_Addr.mk false 0 0) (api_Addr.mk false 0 0), [], 2)))
    (
    cond ((n1.1.fdiv (2 ^ 28)) != 6)
      (
      some ((ipsix_Head.mk 0 0 0 0 (api_Addr.mk false 0 0) (api_Addr.mk false 0 0), [], 3)))
      (
      (addr_Get t.1).bind fun xg =>
      (addr_Get t1.1).bind fun xg1 =>
      (octet_Reader_Text b.2 n2.1).bind fun t2 =>
      (octet_Reader_Bad t2.2).bind fun b1 =>
      cond (b1.1)
        (
        some ((ipsix_Head.mk 0 0 0 0 (api_Addr.mk false 0 0) (api_Addr.mk false 0 0), [], 2)))
        (
        some ((ipsix_Head.mk (andI .i64 (n1.1.fdiv (2 ^ 20)) 255) (andI .i64 n1.1 1048575) n3.1 n4.1 xg.1 xg1.1, t2.1, 0)))))
def rx100 (x : ipsix_Head × (List UInt8) × Int) : SRes := ⟨.tuple ⟨[.agg ⟨[.int .i64 x.1.Class, .int .i64 x.1.Label, .int .i64 x.1.Next, .int .i64 x.1.Hop, .bool x.1.Src.V6, .int .u64 x.1.Src.Hi, .int .u64 x.1.Src.Lo, .bool x.1.Dst.V6, .int .u64 x.1.Dst.Hi, .int .u64 x.1.Dst.Lo]⟩, .string ⟨⟨x.2.1⟩⟩, .int .i64 x.2.2]⟩, [], []⟩
def r100 (g : (List UInt8) → Option (ipsix_Head × (List UInt8) × Int)) : Dec := dV asS fun (y0 : List UInt8) => dEnd (ofG (g y0) rx100)
theorem r100_c {g : (List UInt8) → Option (ipsix_Head × (List UInt8) × Int)} {y0 : List UInt8} {x : ipsix_Head × (List UInt8) × Int} (hx : g y0 = some x) : r100 g [.string ⟨⟨y0⟩⟩] [] = some (rx100 x) := (dV_eq (asS_c)).trans (ofG_eq hx)
def s100 (g : (List UInt8) → Option (ipsix_Head × (List UInt8) × Int)) : Summ := ⟨[.v], r100 g⟩
theorem r100_eq {g : (List UInt8) → Option (ipsix_Head × (List UInt8) × Int)} {y0 : List UInt8} {x : ipsix_Head × (List UInt8) × Int} (hx : g y0 = some x) : (s100 g).run [.string ⟨⟨y0⟩⟩] [] = some (rx100 x) := r100_c hx
abbrev sums100 (addr_Get : (List UInt8) → Option (api_Addr × Bool)) (octet_New : (List UInt8) → Option octet_Reader) (octet_Reader_Bad : octet_Reader → Option (Bool × octet_Reader)) (octet_Reader_Num : octet_Reader → Int → Option (Int × octet_Reader)) (octet_Reader_Text : octet_Reader → Int → Option ((List UInt8) × octet_Reader)) : List (Nat × Summ) := [(117, s117 addr_Get), (103, s103 octet_New), (105, s105 octet_Reader_Bad), (104, s104 octet_Reader_Num), (106, s106 octet_Reader_Text)]
theorem leads100 (addr_Get : (List UInt8) → Option (api_Addr × Bool)) (octet_New : (List UInt8) → Option octet_Reader) (octet_Reader_Bad : octet_Reader → Option (Bool × octet_Reader)) (octet_Reader_Num : octet_Reader → Int → Option (Int × octet_Reader)) (octet_Reader_Text : octet_Reader → Int → Option ((List UInt8) × octet_Reader)) (hS : SumsOK Try.prog (aget (sums100 addr_Get octet_New octet_Reader_Bad octet_Reader_Num octet_Reader_Text))) (s : List UInt8) (res : ipsix_Head × (List UInt8) × Int) (h : ipsix_GetF addr_Get octet_New octet_Reader_Bad octet_Reader_Num octet_Reader_Text s = some res) :
    Leads Try.prog 100 0 ⟨⟨100, 59, [(0, .string ⟨⟨s⟩⟩)], [.code k100_35], [], false, none⟩, [], [], 0⟩ (fun v H _ => Res 0 (rx100 res) v H) := by
  unfold ipsix_GetF at h
  refine ev_ok tab_ok hS true 3000 ?_
  conv => whnf
  replace h := obind.elim h; obtain ⟨n, hy, h⟩ := h
  refine sumK.introF [1] (sumRun_of (aqs := [.string ⟨⟨s⟩⟩]) (ws := []) (n := 1) (m := 0) (t' := 2) (ra_cons rfl rfl ra_nil) rfl (by rfl) (r103_eq hy) rfl rfl rfl rfl wb_nil (an_cons (rfl) an_nil) rfl) ?_
  conv => whnf
  replace h := obind.elim h; obtain ⟨n1, hy, h⟩ := h
  refine sumK.introF [1] (sumRun_of (aqs := [.pointer (some ⟨0, 0, none⟩), .int .i64 4]) (ws := [.win 1 0 3 true]) (n := 0) (m := 0) (t' := 2) (ra_cons rfl rfl (ra_cons rfl rfl ra_nil)) rfl (by rfl) (r104_eq hy) rfl rfl rfl rfl (wb_win rfl rfl rfl ⟨rfl, Nat.le_of_ble_eq_true rfl⟩ rfl rfl wb_nil) an_nil rfl) ?_
  conv => whnf
  replace h := obind.elim h; obtain ⟨n2, hy, h⟩ := h
  refine sumK.introF [1] (sumRun_of (aqs := [.pointer (some ⟨0, 0, none⟩), .int .i64 2]) (ws := [.win 1 0 3 true]) (n := 0) (m := 0) (t' := 2) (ra_cons rfl rfl (ra_cons rfl rfl ra_nil)) rfl (by rfl) (r104_eq hy) rfl rfl rfl rfl (wb_win rfl rfl rfl ⟨rfl, Nat.le_of_ble_eq_true rfl⟩ rfl rfl wb_nil) an_nil rfl) ?_
  conv => whnf
  replace h := obind.elim h; obtain ⟨n3, hy, h⟩ := h
  refine sumK.introF [1] (sumRun_of (aqs := [.pointer (some ⟨0, 0, none⟩), .int .i64 1]) (ws := [.win 1 0 3 true]) (n := 0) (m := 0) (t' := 2) (ra_cons rfl rfl (ra_cons rfl rfl ra_nil)) rfl (by rfl) (r104_eq hy) rfl rfl rfl rfl (wb_win rfl rfl rfl ⟨rfl, Nat.le_of_ble_eq_true rfl⟩ rfl rfl wb_nil) an_nil rfl) ?_
  conv => whnf
  replace h := obind.elim h; obtain ⟨n4, hy, h⟩ := h
  refine sumK.introF [1] (sumRun_of (aqs := [.pointer (some ⟨0, 0, none⟩), .int .i64 1]) (ws := [.win 1 0 3 true]) (n := 0) (m := 0) (t' := 2) (ra_cons rfl rfl (ra_cons rfl rfl ra_nil)) rfl (by rfl) (r104_eq hy) rfl rfl rfl rfl (wb_win rfl rfl rfl ⟨rfl, Nat.le_of_ble_eq_true rfl⟩ rfl rfl wb_nil) an_nil rfl) ?_
  conv => whnf
  replace h := obind.elim h; obtain ⟨t, hy, h⟩ := h
  refine sumK.introF [1] (sumRun_of (aqs := [.pointer (some ⟨0, 0, none⟩), .int .i64 16]) (ws := [.win 1 0 3 true]) (n := 0) (m := 0) (t' := 3) (ra_cons rfl rfl (ra_cons rfl rfl ra_nil)) rfl (by rfl) (r106_eq hy) rfl rfl rfl rfl (wb_win rfl rfl rfl ⟨rfl, Nat.le_of_ble_eq_true rfl⟩ rfl rfl wb_nil) an_nil rfl) ?_
  conv => whnf
  replace h := obind.elim h; obtain ⟨t1, hy, h⟩ := h
  refine sumK.introF [1] (sumRun_of (aqs := [.pointer (some ⟨0, 0, none⟩), .int .i64 16]) (ws := [.win 1 0 3 true]) (n := 0) (m := 0) (t' := 3) (ra_cons rfl rfl (ra_cons rfl rfl ra_nil)) rfl (by rfl) (r106_eq hy) rfl rfl rfl rfl (wb_win rfl rfl rfl ⟨rfl, Nat.le_of_ble_eq_true rfl⟩ rfl rfl wb_nil) an_nil rfl) ?_
  conv => whnf
  replace h := obind.elim h; obtain ⟨b, hy, h⟩ := h
  refine sumK.introF [1] (sumRun_of (aqs := [.pointer (some ⟨0, 0, none⟩)]) (ws := [.win 1 0 3 true]) (n := 0) (m := 0) (t' := 3) (ra_cons rfl rfl ra_nil) rfl (by rfl) (r105_eq hy) rfl rfl rfl rfl (wb_win rfl rfl rfl ⟨rfl, Nat.le_of_ble_eq_true rfl⟩ rfl rfl wb_nil) an_nil rfl) ?_
  conv => whnf
  refine br.h h ?_ ?_ ?_
  · rfl
  · clear h; intro hb h; conv => whnf
    all_goals (cases h; exact Res.z rfl rfl rfl)
  clear h; intro hb h; conv => whnf
  refine br.h h ?_ ?_ ?_
  · rfl
  · clear h; intro hb h; conv => whnf
    all_goals (cases h; exact Res.z rfl rfl rfl)
  clear h; intro hb h; conv => whnf
  replace h := obind.elim h; obtain ⟨xg, hy, h⟩ := h
  refine sumK.q rfl rfl (r117_eq hy) rfl rfl rfl ?_
  conv => whnf
  replace h := obind.elim h; obtain ⟨xg1, hy, h⟩ := h
  refine sumK.q rfl rfl (r117_eq hy) rfl rfl rfl ?_
  conv => whnf
  replace h := obind.elim h; obtain ⟨t2, hy, h⟩ := h
  refine sumK.introF [1] (sumRun_of (aqs := [.pointer (some ⟨0, 0, none⟩), .int .i64 n2.1]) (ws := [.win 1 0 3 true]) (n := 0) (m := 0) (t' := 3) (ra_cons rfl rfl (ra_cons rfl rfl ra_nil)) rfl (by rfl) (r106_eq hy) rfl rfl rfl rfl (wb_win rfl rfl rfl ⟨rfl, Nat.le_of_ble_eq_true rfl⟩ rfl rfl wb_nil) an_nil rfl) ?_
  conv => whnf
  replace h := obind.elim h; obtain ⟨b1, hy, h⟩ := h
  refine sumK.introF [1] (sumRun_of (aqs := [.pointer (some ⟨0, 0, none⟩)]) (ws := [.win 1 0 3 true]) (n := 0) (m := 0) (t' := 3) (ra_cons rfl rfl ra_nil) rfl (by rfl) (r105_eq hy) rfl rfl rfl rfl (wb_win rfl rfl rfl ⟨rfl, Nat.le_of_ble_eq_true rfl⟩ rfl rfl wb_nil) an_nil rfl) ?_
  conv => whnf
  refine br.h h ?_ ?_ ?_
  · rfl
  · clear h; intro hb h; conv => whnf
    all_goals (cases h; exact Res.z rfl rfl rfl)
  clear h; intro hb h; conv => whnf
  all_goals (cases h; exact Res.z rfl rfl rfl)
theorem ok100 (addr_Get : (List UInt8) → Option (api_Addr × Bool)) (octet_New : (List UInt8) → Option octet_Reader) (octet_Reader_Bad : octet_Reader → Option (Bool × octet_Reader)) (octet_Reader_Num : octet_Reader → Int → Option (Int × octet_Reader)) (octet_Reader_Text : octet_Reader → Int → Option ((List UInt8) × octet_Reader)) (hS : SumsOK Try.prog (aget (sums100 addr_Get octet_New octet_Reader_Bad octet_Reader_Num octet_Reader_Text))) : SumOK Try.prog 100 (s100 (ipsix_GetF addr_Get octet_New octet_Reader_Bad octet_Reader_Num octet_Reader_Text)) := by
  refine SumOK.of_leads tab_ok (fun ar os r ha hr => ?_) ⟨Try.f100, rfl, by decide, rfl⟩
  replace hr : r100 (ipsix_GetF addr_Get octet_New octet_Reader_Bad octet_Reader_Num octet_Reader_Text) ar (conts os) = some r := hr
  unfold r100 at hr
  generalize hc : conts os = C at hr
  replace hr := dV.elim hr; obtain ⟨v0, l1, y0, rfl, e0, hr⟩ := hr; obtain rfl := asS_eq _ _ e0
  replace hr := dFin hr; obtain ⟨rfl, rfl, x, h, rfl⟩ := hr
  obtain rfl := kinds_nil hc
  exact ⟨_, rfl, leads100 addr_Get octet_New octet_Reader_Bad octet_Reader_Num octet_Reader_Text hS _ x h⟩
def ipsix_Get : (List UInt8) → Option (ipsix_Head × (List UInt8) × Int) := ipsix_GetF addr_Get octet_New octet_Reader_Bad octet_Reader_Num octet_Reader_Text
theorem lift100 : SumOK Try.prog 100 (s100 ipsix_Get) := ok100 addr_Get octet_New octet_Reader_Bad octet_Reader_Num octet_Reader_Text (SumsOK.of_tab ⟨lift117, lift103, lift105, lift104, lift106, trivial⟩)
end Go.Vm.Code
namespace Go.Vm.Code
open Go Go.Vm
def zero6 : ipsix_Head := ⟨0, 0, 0, 0, ⟨false, 0, 0⟩, ⟨false, 0, 0⟩⟩
def head6 (s : List UInt8) : ipsix_Head :=
  let m := valL (s.take 4)
  ⟨((m / 2 ^ 20 % 256 : Nat) : Int), ((m % 2 ^ 20 : Nat) : Int), ((valL ((s.drop 6).take 1) : Nat) : Int), ((valL ((s.drop 7).take 1) : Nat) : Int), addrG ((s.drop 8).take 16), addrG ((s.drop 24).take 16)⟩
def get6 (s : List UInt8) : ipsix_Head × List UInt8 × Int :=
  if s.length < 40 then (zero6, [], 2) else if valL (s.take 4) / 2 ^ 28 ≠ 6 then (zero6, [], 3) else if s.length - 40 < valL ((s.drop 4).take 2) then (zero6, [], 2) else
    (head6 s, (s.drop 40).take (valL ((s.drop 4).take 2)), 0)
theorem get6_eq {s : List UInt8} (h : s.length < 2 ^ 60) : ipsix_Get s = some (get6 s) := by
  unfold ipsix_Get ipsix_GetF
  rw [rNew_eq, Option.bind_some]
  by_cases hs : s.length < 40
  · have e : get6 s = (zero6, [], 2) := by unfold get6; rw [if_pos hs]
    rw [rNum_eq rfl (by simp only []; omega), Option.bind_some]
    simp only []
    have b1 : ∀ (r : octet_Reader) (k : Int), (rdr r k).s.length ≤ r.s.length := by intro r k; unfold rdr; split <;> simp
    have l1 := b1 ⟨s, true, false⟩ (if (4 : Int) < 1 ∨ (4 : Int) > 7 then -1 else 4)
    simp only at l1
    generalize hr1 : rdr ⟨s, true, false⟩ (if (4 : Int) < 1 ∨ (4 : Int) > 7 then -1 else 4) = r1 at *
    have m1 : r1.made = true := by rw [← hr1]; exact rdr_made _ _
    rw [rNum_eq m1 (by omega), Option.bind_some]
    simp only []
    have l2 := b1 r1 (if (2 : Int) < 1 ∨ (2 : Int) > 7 then -1 else 2)
    generalize hr2 : rdr r1 (if (2 : Int) < 1 ∨ (2 : Int) > 7 then -1 else 2) = r2 at *
    have m2 : r2.made = true := by rw [← hr2]; exact rdr_made _ _
    rw [rNum_eq m2 (by omega), Option.bind_some]
    simp only []
    have l3 := b1 r2 (if (1 : Int) < 1 ∨ (1 : Int) > 7 then -1 else 1)
    generalize hr3 : rdr r2 (if (1 : Int) < 1 ∨ (1 : Int) > 7 then -1 else 1) = r3 at *
    have m3 : r3.made = true := by rw [← hr3]; exact rdr_made _ _
    rw [rNum_eq m3 (by omega), Option.bind_some]
    simp only []
    have l4 := b1 r3 (if (1 : Int) < 1 ∨ (1 : Int) > 7 then -1 else 1)
    generalize hr4 : rdr r3 (if (1 : Int) < 1 ∨ (1 : Int) > 7 then -1 else 1) = r4 at *
    have m4 : r4.made = true := by rw [← hr4]; exact rdr_made _ _
    rw [rText_eq m4, Option.bind_some]
    simp only []
    generalize hr5 : rdr r4 16 = r5 at *
    have m5 : r5.made = true := by rw [← hr5]; exact rdr_made _ _
    rw [rText_eq m5, Option.bind_some]
    simp only []
    generalize hr6 : rdr r5 16 = r6 at *
    have m6 : r6.made = true := by rw [← hr6]; exact rdr_made _ _
    rw [rBad_eq m6, Option.bind_some]
    have hb : r6.bad = true := by
      cases hb : r6.bad with
      | true => rfl
      | false =>
        exfalso
        obtain ⟨a5, n6⟩ := rdr_step hr6 hb
        obtain ⟨a4, n5⟩ := rdr_step hr5 a5
        obtain ⟨a3, n4⟩ := rdr_step hr4 a4
        obtain ⟨a2, n3⟩ := rdr_step hr3 a3
        obtain ⟨a1, n2⟩ := rdr_step hr2 a2
        obtain ⟨a0, n1⟩ := rdr_step hr1 a1
        rw [show (if (4 : Int) < 1 ∨ (4 : Int) > 7 then -1 else 4 : Int) = 4 by decide] at n1
        simp only at n1
        omega
    simp only [hb, cond_true]
    rw [e]; rfl
  · have i4 : (if (4 : Int) < 1 ∨ (4 : Int) > 7 then -1 else 4 : Int) = 4 := by decide
    have i2 : (if (2 : Int) < 1 ∨ (2 : Int) > 7 then -1 else 2 : Int) = 2 := by decide
    have i1 : (if (1 : Int) < 1 ∨ (1 : Int) > 7 then -1 else 1 : Int) = 1 := by decide
    have t4 : (4 : Int).toNat = 4 := rfl
    have t2 : (2 : Int).toNat = 2 := rfl
    have t1 : (1 : Int).toNat = 1 := rfl
    have t16 : (16 : Int).toNat = 16 := rfl
    rw [rNum_eq rfl (by simp only []; omega), Option.bind_some]
    simp only [rdn, i4]
    rw [rdr_ok (by omega) (by omega), rdt_ok (by omega) (by omega), t4]
    rw [rNum_eq rfl (by simp; omega), Option.bind_some]
    simp only [rdn, i2]
    rw [rdr_ok (by omega) (by simp; omega), rdt_ok (by omega) (by simp; omega), t2, List.drop_drop]
    rw [rNum_eq rfl (by simp; omega), Option.bind_some]
    simp only [rdn, i1]
    rw [rdr_ok (by omega) (by simp; omega), rdt_ok (by omega) (by simp; omega), t1, List.drop_drop]
    rw [rNum_eq rfl (by simp; omega), Option.bind_some]
    simp only [rdn, i1]
    rw [rdr_ok (by omega) (by simp; omega), rdt_ok (by omega) (by simp; omega), t1, List.drop_drop]
    rw [rText_eq rfl, Option.bind_some]
    simp only []
    rw [rdr_ok (by omega) (by simp; omega), rdt_ok (by omega) (by simp; omega), t16, List.drop_drop]
    rw [rText_eq rfl, Option.bind_some]
    simp only []
    rw [rdr_ok (by omega) (by simp; omega), rdt_ok (by omega) (by simp; omega), t16, List.drop_drop]
    rw [rBad_eq rfl, Option.bind_some]
    simp only [cond_false, Nat.reduceAdd]
    have v4 : valL (s.take 4) < 2 ^ 32 := val_take_lt _ (by decide)
    have v2 : valL ((s.drop 4).take 2) < 2 ^ 16 := val_take_lt _ (by decide)
    unfold get6
    rw [if_neg hs]
    have e1 : ((((valL (s.take 4) : Nat) : Int).fdiv (2 ^ 28)) != 6) = decide (valL (s.take 4) / 2 ^ 28 ≠ 6) := by
      rw [fdivP, Bool.eq_iff_iff, bne_iff_ne, decide_eq_true_eq]; omega
    rw [e1]
    by_cases h6 : valL (s.take 4) / 2 ^ 28 ≠ 6
    · rw [cond_p h6, if_pos h6]; rfl
    rw [cond_n h6, if_neg h6]
    rw [addr_Get16 (by simp; omega), addr_Get16 (by simp; omega)]
    simp only [Option.bind_some]
    rw [rText_eq rfl, Option.bind_some]
    by_cases hn : s.length - 40 < valL ((s.drop 4).take 2)
    · rw [rBad_eq (rdr_made _ _), Option.bind_some]
      have hb : (rdr ⟨s.drop 40, true, false⟩ ((valL ((s.drop 4).take 2) : Nat) : Int)).bad = true := by
        cases hb : (rdr ⟨s.drop 40, true, false⟩ ((valL ((s.drop 4).take 2) : Nat) : Int)).bad with
        | true => rfl
        | false =>
          exfalso
          obtain ⟨_, _, c⟩ := rdr_bad.1 hb
          simp at c; omega
      simp only [hb, cond_true]
      rw [if_pos hn]; rfl
    · rw [rdr_ok (by omega) (by simp; omega), rdt_ok (by omega) (by simp; omega), rBad_eq rfl, Option.bind_some]
      simp only [cond_false, Int.toNat_natCast]
      rw [if_neg hn]
      unfold head6
      simp only []
      have e2 : andI .i64 ((((valL (s.take 4) : Nat) : Int)).fdiv (2 ^ 20)) 255 = ((valL (s.take 4) / 2 ^ 20 % 256 : Nat) : Int) := by
        rw [fdivP, andI64_mask (m := 255) 8 (by decide) (by decide) (by omega) (by omega)]; omega
      have e3 : andI .i64 ((valL (s.take 4) : Nat) : Int) 1048575 = ((valL (s.take 4) % 2 ^ 20 : Nat) : Int) := by
        rw [andI64_mask (m := 1048575) 20 (by decide) (by decide) (by omega) (by omega)]; omega
      rw [e2, e3]
end Go.Vm.Code
namespace Go.Vm.Code
open Go Go.Vm Go.Proofs
set_option maxRecDepth 100000
set_option maxHeartbeats 4000000
set_option linter.unusedVariables false
def tcp_Stamp_s1 (octet_Get : (List UInt8) → Int → Int → Option (Int × Bool)) (text : List UInt8) (i : Int) : Option (Sum Int (Int × Int × Int)) :=
  cond (decide (i < (text.length : Int)))
    (
    oreq (decide (0 ≤ i)) <|
    (text[i.toNat]?).bind fun (b : UInt8) =>
    cond ((b.toNat : Int) == 0)
      (
      some (.inr ((0, 0, (-1)))))
      (
      cond ((b.toNat : Int) == 1)
        (
        some (.inl (wI .i64 (i + 1))))
        (
        let t := decide ((wI .i64 (i + 1)) < (text.length : Int))
        cond (t)
          (
          oreq (decide (0 ≤ (wI .i64 (i + 1)))) <|
          (text[(wI .i64 (i + 1)).toNat]?).bind fun (b1 : UInt8) =>
          cond (decide ((wI .i64 (b1.toNat : Int)) < 2))
            (
            some (.inr ((0, 0, (-1)))))
            (
            let t1 := decide ((wI .i64 (b1.toNat : Int)) > (wI .i64 ((text.length : Int) - i)))
            cond (t1)
              (
              some (.inr ((0, 0, (-1)))))
              (
              oreq (decide (0 ≤ i)) <|
              (text[i.toNat]?).bind fun (b2 : UInt8) =>
              oreq (decide ((0 : Int) ≤ (wI .i64 (i + (wI .i64 (b1.toNat : Int)))) ∧ (wI .i64 (i + (wI .i64 (b1.toNat : Int)))) ≤ (text.length : Int) ∧ (0 : Int) ≤ (wI .i64 (i + 2)) ∧ (wI .i64 (i + 2)) ≤ ((wI .i64 (i + (wI .i64 (b1.toNat : Int)))).toNat : Int))) <|
              let t2 := (text.drop (wI .i64 (i + 2)).toNat).take ((wI .i64 (i + (wI .i64 (b1.toNat : Int)))).toNat - (wI .i64 (i + 2)).toNat)
              cond ((wI .i64 (b2.toNat : Int)) != 8)
                (
                some (.inl (wI .i64 (i + (wI .i64 (b1.toNat : Int))))))
                (
                (octet_Get t2 0 8).bind fun xg =>
                cond (xg.2)
                  (
                  cond ((t2.length : Int) == 8)
                    (
                    some (.inr ((wI .u32 (xg.1.fdiv (2 ^ 32)), wI .u32 xg.1, wI .i64 (i + 2)))))
                    (
                    some (.inr ((0, 0, (-1))))))
                  (
                  some (.inr ((0, 0, (-1)))))))))
          (
          some (.inr ((0, 0, (-1))))))))
    (
    some (.inr ((0, 0, (-1)))))
def tcp_StampF (octet_Get : (List UInt8) → Int → Int → Option (Int × Bool)) (tcp_List : (List UInt8) → Option ((List tcp_Opt) × Int)) (text : List UInt8) : Option (Int × Int × Int) :=
  (tcp_List text).bind fun l =>
  cond (l.2 != 0)
    (
    some ((0, 0, (-1))))
    (
    iter (fun st => tcp_Stamp_s1 octet_Get text st) FUEL 0)
def rx64 (x : Int × Int × Int) : SRes := ⟨.tuple ⟨[.int .u32 x.1, .int .u32 x.2.1, .int .i64 x.2.2]⟩, [], []⟩
def r64 (g : (List UInt8) → Option (Int × Int × Int)) : Dec := dV asS fun (y0 : List UInt8) => dEnd (ofG (g y0) rx64)
theorem r64_c {g : (List UInt8) → Option (Int × Int × Int)} {y0 : List UInt8} {x : Int × Int × Int} (hx : g y0 = some x) : r64 g [.string ⟨⟨y0⟩⟩] [] = some (rx64 x) := (dV_eq (asS_c)).trans (ofG_eq hx)
def s64 (g : (List UInt8) → Option (Int × Int × Int)) : Summ := ⟨[.v], r64 g⟩
theorem r64_eq {g : (List UInt8) → Option (Int × Int × Int)} {y0 : List UInt8} {x : Int × Int × Int} (hx : g y0 = some x) : (s64 g).run [.string ⟨⟨y0⟩⟩] [] = some (rx64 x) := r64_c hx
abbrev sums64 (octet_Get : (List UInt8) → Int → Int → Option (Int × Bool)) (tcp_List : (List UInt8) → Option ((List tcp_Opt) × Int)) : List (Nat × Summ) := [(25, s25 octet_Get), (91, s91 tcp_List)]
def head64_1 (text : List UInt8) (i : Int) : VM :=
  ⟨⟨114, 62, [(0, .func (.yield 6) #[] #[]), (1, .pointer (some ⟨4, 0, none⟩)), (3, .int .i64 i)], [.code k114_35, .inLoop k114_35, .inBlock 0], [], false, none⟩, [⟨64, 46, [(2, .pointer (some ⟨0, 0, none⟩)), (3, .pointer (some ⟨1, 0, none⟩)), (4, .pointer (some ⟨2, 0, none⟩))], [.inRangeFunc 6, .inBlock 0, .code k64_27], [5], false, none⟩], [(0, .cells [.int .u32 0]), (1, .cells [.int .u32 0]), (2, .cells [.int .i64 0]), (4, .cells [.string ⟨⟨text⟩⟩]), (5, .marks), (6, .loop ⟨.ready, none, 64, 46, [(2, .pointer (some ⟨0, 0, none⟩)), (3, .pointer (some ⟨1, 0, none⟩)), (4, .pointer (some ⟨2, 0, none⟩))], [19], k64_9, k64_22, 5⟩)], 7⟩
theorem loop64_1 (octet_Get : (List UInt8) → Int → Int → Option (Int × Bool)) (tcp_List : (List UInt8) → Option ((List tcp_Opt) × Int)) (hS : SumsOK Try.prog (aget (sums64 octet_Get tcp_List))) (text : List UInt8) (res : Int × Int × Int) : ∀ fuel (st : Int) (o : Int × Int × Int), iter (fun st => tcp_Stamp_s1 octet_Get text st) fuel st = some o → (o = res) →
    Leads Try.prog 64 0 (head64_1 text st) (fun v H _ => Res 0 (rx64 res) v H) := by
  intro fuel st o h hc
  refine iter_leads (head := fun st => head64_1 text st) (C := fun o => (o = res)) ?_ fuel st o h hc
  clear h hc o st fuel
  intro i o h hc
  replace h : tcp_Stamp_s1 octet_Get text i = some o := h
  show Leads Try.prog 64 0 (head64_1 text i) (fun v H _ => Res 0 (rx64 res) v H)
  unfold tcp_Stamp_s1 at h
  refine ev_ok tab_ok hS true 3000 ?_
  conv => whnf
  refine br.h2 h ?_ ?_ ?_
  · rfl
  · clear h; intro hb h; conv => whnf
    all_goals (cases h; cases hc; exact Res.z rfl rfl rfl)
  clear h; intro hb h; conv => whnf
  replace h := oreq.elim h; obtain ⟨hb, h⟩ := h
  first | (refine req.intro hb ?_; conv => whnf) | skip
  replace h := obind.elim h; obtain ⟨b, hy, h⟩ := h
  refine rdS.intro hy ?_
  conv => whnf
  refine br.h h ?_ ?_ ?_
  · rfl
  · clear h; intro hb h; conv => whnf
    all_goals (cases h; cases hc; exact Res.z rfl rfl rfl)
  clear h; intro hb h; conv => whnf
  refine br.h h ?_ ?_ ?_
  · rfl
  · clear h; intro hb h; conv => whnf
    cases h; simp only [Sum.elim_inl, head64_1] at hc
    refine Leads.re hc [(0, 0), (1, 1), (2, 2), (4, 4), (5, 5), (6, 6)] rfl ?_ ?_ (hu := by repeat' first | exact trivial | refine ⟨⟨rfl, rfl, rfl, rfl, rfl, ?_, rfl, rfl⟩, ?_⟩ | refine ⟨⟨_, rfl, rfl⟩, ?_⟩) <;> (repeat' first | exact trivial | refine ⟨⟨_, rfl, rfl⟩, ?_⟩ | refine ⟨⟨_, _, rfl, rfl, .rowF (vI_flat _ _) id⟩, ?_⟩ | refine ⟨⟨_, _, rfl, rfl, .rowF (vS_flat _) id⟩, ?_⟩ | refine ⟨⟨_, _, rfl, rfl, .rowF (vB_flat _) id⟩, ?_⟩ | refine ⟨⟨_, _, rfl, rfl, .rowF (vT_flat (by first | exact capi_Addr_flat | exact capi_Tuple_flat | exact cquic_Head_flat | exact capi_Packet_flat | exact cpacket_outer_flat | exact cipfour_Head_flat | exact coctet_Reader_flat | exact cipsix_Head_flat | exact ctcp_Head_flat | exact ctcp_Opt_flat | exact cudp_Head_flat) _) id⟩, ?_⟩ | refine ⟨⟨_, _, rfl, rfl, .tyF (vI_flat _ _)⟩, ?_⟩ | refine ⟨⟨_, _, rfl, rfl, .ty rfl⟩, ?_⟩ | refine ⟨⟨_, _, rfl, rfl, .cells rfl⟩, ?_⟩ | refine ⟨⟨_, _, rfl, rfl, .row rfl id⟩, ?_⟩ | refine ⟨⟨_, _, rfl, rfl, .cr rfl⟩, ?_⟩ | refine ⟨⟨_, _, rfl, rfl, .rc rfl⟩, ?_⟩ | refine ⟨⟨_, _, rfl, rfl, .marks⟩, ?_⟩ | refine ⟨⟨_, _, rfl, rfl, .siter _ _⟩, ?_⟩ | refine ⟨⟨_, _, rfl, rfl, .loop rfl rfl rfl rfl (by repeat' first | exact trivial | refine ⟨rfl, ?_⟩) rfl rfl rfl rfl⟩, ?_⟩)
  clear h; intro hb h; conv => whnf
  let t : Bool := decide ((wI .i64 (i + 1)) < (text.length : Int))
  refine br.h2 h ?_ ?_ ?_
  · rfl
  · clear h; intro hb h; conv => whnf
    all_goals (cases h; cases hc; exact Res.z rfl rfl rfl)
  clear h; intro hb h; conv => whnf
  replace h := oreq.elim h; obtain ⟨hb, h⟩ := h
  first | (refine req.intro hb ?_; conv => whnf) | skip
  replace h := obind.elim h; obtain ⟨b1, hy, h⟩ := h
  refine rdS.intro hy ?_
  conv => whnf
  refine br.h h ?_ ?_ ?_
  · rfl
  · clear h; intro hb h; conv => whnf
    all_goals (cases h; cases hc; exact Res.z rfl rfl rfl)
  clear h; intro hb h; conv => whnf
  let t1 : Bool := decide ((wI .i64 (b1.toNat : Int)) > (wI .i64 ((text.length : Int) - i)))
  refine br.h h ?_ ?_ ?_
  · rfl
  · clear h; intro hb h; conv => whnf
    all_goals (cases h; cases hc; exact Res.z rfl rfl rfl)
  clear h; intro hb h; conv => whnf
  replace h := oreq.elim h; obtain ⟨hb, h⟩ := h
  first | (refine req.intro hb ?_; conv => whnf) | skip
  replace h := obind.elim h; obtain ⟨b2, hy, h⟩ := h
  refine rdS.intro hy ?_
  conv => whnf
  replace h := oreq.elim h; obtain ⟨hb, h⟩ := h
  first | (refine req.intro hb ?_; conv => whnf) | skip
  let t2 : List UInt8 := (text.drop (wI .i64 (i + 2)).toNat).take ((wI .i64 (i + (wI .i64 (b1.toNat : Int)))).toNat - (wI .i64 (i + 2)).toNat)
  refine br.h h ?_ ?_ ?_
  · rfl
  · clear h; intro hb h; conv => whnf
    cases h; simp only [Sum.elim_inl, head64_1] at hc
    refine Leads.re hc [(0, 0), (1, 1), (2, 2), (4, 4), (5, 5), (6, 6)] rfl ?_ ?_ (hu := by repeat' first | exact trivial | refine ⟨⟨rfl, rfl, rfl, rfl, rfl, ?_, rfl, rfl⟩, ?_⟩ | refine ⟨⟨_, rfl, rfl⟩, ?_⟩) <;> (repeat' first | exact trivial | refine ⟨⟨_, rfl, rfl⟩, ?_⟩ | refine ⟨⟨_, _, rfl, rfl, .rowF (vI_flat _ _) id⟩, ?_⟩ | refine ⟨⟨_, _, rfl, rfl, .rowF (vS_flat _) id⟩, ?_⟩ | refine ⟨⟨_, _, rfl, rfl, .rowF (vB_flat _) id⟩, ?_⟩ | refine ⟨⟨_, _, rfl, rfl, .rowF (vT_flat (by first | exact capi_Addr_flat | exact capi_Tuple_flat | exact cquic_Head_flat | exact capi_Packet_flat | exact cpacket_outer_flat | exact cipfour_Head_flat | exact coctet_Reader_flat | exact cipsix_Head_flat | exact ctcp_Head_flat | exact ctcp_Opt_flat | exact cudp_Head_flat) _) id⟩, ?_⟩ | refine ⟨⟨_, _, rfl, rfl, .tyF (vI_flat _ _)⟩, ?_⟩ | refine ⟨⟨_, _, rfl, rfl, .ty rfl⟩, ?_⟩ | refine ⟨⟨_, _, rfl, rfl, .cells rfl⟩, ?_⟩ | refine ⟨⟨_, _, rfl, rfl, .row rfl id⟩, ?_⟩ | refine ⟨⟨_, _, rfl, rfl, .cr rfl⟩, ?_⟩ | refine ⟨⟨_, _, rfl, rfl, .rc rfl⟩, ?_⟩ | refine ⟨⟨_, _, rfl, rfl, .marks⟩, ?_⟩ | refine ⟨⟨_, _, rfl, rfl, .siter _ _⟩, ?_⟩ | refine ⟨⟨_, _, rfl, rfl, .loop rfl rfl rfl rfl (by repeat' first | exact trivial | refine ⟨rfl, ?_⟩) rfl rfl rfl rfl⟩, ?_⟩)
  clear h; intro hb h; conv => whnf
  replace h := obind.elim h; obtain ⟨xg, hy, h⟩ := h
  refine sumK.q rfl rfl (r25_eq hy) rfl rfl rfl ?_
  conv => whnf
  refine br.h2 h ?_ ?_ ?_
  · rfl
  · clear h; intro hb h; conv => whnf
    all_goals (cases h; cases hc; exact Res.z rfl rfl rfl)
  clear h; intro hb h; conv => whnf
  refine br.h h ?_ ?_ ?_
  · rfl
  · clear h; intro hb h; conv => whnf
    all_goals (cases h; cases hc; exact Res.z rfl rfl rfl)
  clear h; intro hb h; conv => whnf
  all_goals (cases h; cases hc; exact Res.z rfl rfl rfl)
theorem leads64 (octet_Get : (List UInt8) → Int → Int → Option (Int × Bool)) (tcp_List : (List UInt8) → Option ((List tcp_Opt) × Int)) (hS : SumsOK Try.prog (aget (sums64 octet_Get tcp_List))) (text : List UInt8) (res : Int × Int × Int) (h : tcp_StampF octet_Get tcp_List text = some res) :
    Leads Try.prog 64 0 ⟨⟨64, 46, [(0, .string ⟨⟨text⟩⟩)], [.code k64_30], [], false, none⟩, [], [], 0⟩ (fun v H _ => Res 0 (rx64 res) v H) := by
  unfold tcp_StampF at h
  refine ev_ok tab_ok hS true 3000 ?_
  conv => whnf
  replace h := obind.elim h; obtain ⟨l, hy, h⟩ := h
  refine sumK.introF [] (sumRun_of (aqs := [.string ⟨⟨text⟩⟩]) (ws := []) (n := 1) (m := 0) (t' := 4) (ra_cons rfl rfl ra_nil) rfl (by rfl) (r91_eq hy) rfl rfl rfl rfl wb_nil (an_cons (rn_T ctcp_Opt_flat) an_nil) rfl) ?_
  conv => whnf
  refine br.h h ?_ ?_ ?_
  · rfl
  · clear h; intro hb h; conv => whnf
    all_goals (cases h; exact Res.z rfl rfl rfl)
  clear h; intro hb h; conv => whnf
  have hl := loop64_1 octet_Get tcp_List hS _ res _ _ _ h rfl; simp only [head64_1] at hl
  refine Leads.re hl [(0, 0), (1, 1), (2, 2), (4, 4), (5, 5), (6, 6)] rfl ?_ ?_ (hu := by repeat' first | exact trivial | refine ⟨⟨rfl, rfl, rfl, rfl, rfl, ?_, rfl, rfl⟩, ?_⟩ | refine ⟨⟨_, rfl, rfl⟩, ?_⟩) <;> (repeat' first | exact trivial | refine ⟨⟨_, rfl, rfl⟩, ?_⟩ | refine ⟨⟨_, _, rfl, rfl, .rowF (vI_flat _ _) id⟩, ?_⟩ | refine ⟨⟨_, _, rfl, rfl, .rowF (vS_flat _) id⟩, ?_⟩ | refine ⟨⟨_, _, rfl, rfl, .rowF (vB_flat _) id⟩, ?_⟩ | refine ⟨⟨_, _, rfl, rfl, .rowF (vT_flat (by first | exact capi_Addr_flat | exact capi_Tuple_flat | exact cquic_Head_flat | exact capi_Packet_flat | exact cpacket_outer_flat | exact cipfour_Head_flat | exact coctet_Reader_flat | exact cipsix_Head_flat | exact ctcp_Head_flat | exact ctcp_Opt_flat | exact cudp_Head_flat) _) id⟩, ?_⟩ | refine ⟨⟨_, _, rfl, rfl, .tyF (vI_flat _ _)⟩, ?_⟩ | refine ⟨⟨_, _, rfl, rfl, .ty rfl⟩, ?_⟩ | refine ⟨⟨_, _, rfl, rfl, .cells rfl⟩, ?_⟩ | refine ⟨⟨_, _, rfl, rfl, .row rfl id⟩, ?_⟩ | refine ⟨⟨_, _, rfl, rfl, .cr rfl⟩, ?_⟩ | refine ⟨⟨_, _, rfl, rfl, .rc rfl⟩, ?_⟩ | refine ⟨⟨_, _, rfl, rfl, .marks⟩, ?_⟩ | refine ⟨⟨_, _, rfl, rfl, .siter _ _⟩, ?_⟩ | refine ⟨⟨_, _, rfl, rfl, .loop rfl rfl rfl rfl (by repeat' first | exact trivial | refine ⟨rfl, ?_⟩) rfl rfl rfl rfl⟩, ?_⟩)
theorem ok64 (octet_Get : (List UInt8) → Int → Int → Option (Int × Bool)) (tcp_List : (List UInt8) → Option ((List tcp_Opt) × Int)) (hS : SumsOK Try.prog (aget (sums64 octet_Get tcp_List))) : SumOK Try.prog 64 (s64 (tcp_StampF octet_Get tcp_List)) := by
  refine SumOK.of_leads tab_ok (fun ar os r ha hr => ?_) ⟨Try.f64, rfl, by decide, rfl⟩
  replace hr : r64 (tcp_StampF octet_Get tcp_List) ar (conts os) = some r := hr
  unfold r64 at hr
  generalize hc : conts os = C at hr
  replace hr := dV.elim hr; obtain ⟨v0, l1, y0, rfl, e0, hr⟩ := hr; obtain rfl := asS_eq _ _ e0
  replace hr := dFin hr; obtain ⟨rfl, rfl, x, h, rfl⟩ := hr
  obtain rfl := kinds_nil hc
  exact ⟨_, rfl, leads64 octet_Get tcp_List hS _ x h⟩
def tcp_Stamp : (List UInt8) → Option (Int × Int × Int) := tcp_StampF octet_Get tcp_List
theorem lift64 : SumOK Try.prog 64 (s64 tcp_Stamp) := ok64 octet_Get tcp_List (SumsOK.of_tab ⟨lift25, lift91, trivial⟩)
def R07_StampedF (R07_num : Int → Int → Option (List UInt8)) (val : Int) (echo : Int) : Option (List UInt8) :=
  (R07_num (wI .i64 val) 4).bind fun n =>
  oreq (decide (4 + n.length < 2 ^ 63)) <|
  (R07_num (wI .i64 echo) 4).bind fun n1 =>
  oreq (decide (([1, 1, 8, 10] ++ n).length + n1.length < 2 ^ 63)) <|
  some (([1, 1, 8, 10] ++ n) ++ n1)
def rx15 (x : List UInt8) : SRes := ⟨.string ⟨⟨x⟩⟩, [], []⟩
def r15 (g : Int → Int → Option (List UInt8)) : Dec := dV (asI .u32) fun (y0 : Int) => dV (asI .u32) fun (y1 : Int) => dEnd (ofG (g y0 y1) rx15)
theorem r15_c {g : Int → Int → Option (List UInt8)} {y0 : Int} {y1 : Int} {x : List UInt8} (hx : g y0 y1 = some x) : r15 g [.int .u32 y0, .int .u32 y1] [] = some (rx15 x) := (dV_eq (asI_c _)).trans ((dV_eq (asI_c _)).trans (ofG_eq hx))
def s15 (g : Int → Int → Option (List UInt8)) : Summ := ⟨[.v, .v], r15 g⟩
theorem r15_eq {g : Int → Int → Option (List UInt8)} {y0 : Int} {y1 : Int} {x : List UInt8} (hx : g y0 y1 = some x) : (s15 g).run [.int .u32 y0, .int .u32 y1] [] = some (rx15 x) := r15_c hx
abbrev sums15 (R07_num : Int → Int → Option (List UInt8)) : List (Nat × Summ) := [(33, s33 R07_num)]
theorem leads15 (R07_num : Int → Int → Option (List UInt8)) (hS : SumsOK Try.prog (aget (sums15 R07_num))) (val : Int) (echo : Int) (res : List UInt8) (h : R07_StampedF R07_num val echo = some res) :
    Leads Try.prog 15 0 ⟨⟨15, 13, [(0, .int .u32 val), (1, .int .u32 echo)], [.code k15_3], [], false, none⟩, [], [], 0⟩ (fun v H _ => Res 0 (rx15 res) v H) := by
  unfold R07_StampedF at h
  refine ev_ok tab_ok hS true 3000 ?_
  conv => whnf
  replace h := obind.elim h; obtain ⟨n, hy, h⟩ := h
  refine sumK.q rfl rfl (r33_eq hy) rfl rfl rfl ?_
  conv => whnf
  replace h := oreq.elim h; obtain ⟨hb, h⟩ := h
  first | (refine req.intro hb ?_; conv => whnf) | skip
  replace h := obind.elim h; obtain ⟨n1, hy, h⟩ := h
  refine sumK.q rfl rfl (r33_eq hy) rfl rfl rfl ?_
  conv => whnf
  replace h := oreq.elim h; obtain ⟨hb, h⟩ := h
  first | (refine req.intro hb ?_; conv => whnf) | skip
  all_goals (cases h; exact Res.z rfl rfl rfl)
theorem ok15 (R07_num : Int → Int → Option (List UInt8)) (hS : SumsOK Try.prog (aget (sums15 R07_num))) : SumOK Try.prog 15 (s15 (R07_StampedF R07_num)) := by
  refine SumOK.of_leads tab_ok (fun ar os r ha hr => ?_) ⟨Try.f15, rfl, by decide, rfl⟩
  replace hr : r15 (R07_StampedF R07_num) ar (conts os) = some r := hr
  unfold r15 at hr
  generalize hc : conts os = C at hr
  replace hr := dV.elim hr; obtain ⟨v0, l1, y0, rfl, e0, hr⟩ := hr; obtain rfl := asI_eq _ _ _ e0
  replace hr := dV.elim hr; obtain ⟨v1, l2, y1, rfl, e1, hr⟩ := hr; obtain rfl := asI_eq _ _ _ e1
  replace hr := dFin hr; obtain ⟨rfl, rfl, x, h, rfl⟩ := hr
  obtain rfl := kinds_nil hc
  exact ⟨_, rfl, leads15 R07_num hS _ _ x h⟩
def R07_Stamped : Int → Int → Option (List UInt8) := R07_StampedF R07_num
theorem lift15 : SumOK Try.prog 15 (s15 R07_Stamped) := ok15 R07_num (SumsOK.of_tab ⟨lift33, trivial⟩)
end Go.Vm.Code
namespace Go.Vm.Code
open Go Go.Vm
def stL : List Opt7 → Int × Int × Int
  | [] => (0, 0, -1)
  | o :: l => if o.Kind = 8 then (if o.Data.length = 8 then (vK o.Data 0 4, vK o.Data 4 4, o.At) else (0, 0, -1)) else stL l
def stamp7 (s : List UInt8) : Int × Int × Int := stL (opt7 s).1
theorem optF_gen (s : List UInt8) : ∀ (n i : Nat) (out : List Opt7), optF s n i out = if (optF s n i []).2 = 0 then (out ++ (optF s n i []).1, 0) else ([], 3) := by
  intro n
  induction n using Nat.strongRecOn with
  | ind n ih =>
    intro i out
    cases n with
    | zero => rw [optF, optF]; simp
    | succ n =>
      have e : ∀ o, optF s (n + 1) i o = match s[i]? with
        | none => (o, 0)
        | some b => if b = 0 then (o, 0) else if b = 1 then optF s n (i + 1) o else match s[i + 1]? with
          | none => ([], 3)
          | some k => if k.toNat < 2 then ([], 3) else if s.length - i < k.toNat then ([], 3) else
              optF s (n + 1 - k.toNat) (i + k.toNat) (o ++ [⟨(b.toNat : Int), (s.drop (i + 2)).take (k.toNat - 2), ((i + 2 : Nat) : Int)⟩]) := fun o => by rw [optF]; cases s[i]? <;> cases s[i + 1]? <;> rfl
      rw [e out, e []]
      cases s[i]? with
      | none => simp
      | some b =>
        simp only
        by_cases h0 : b = 0
        · simp [h0]
        rw [if_neg h0, if_neg h0]
        by_cases h1 : b = 1
        · rw [if_pos h1, if_pos h1]; exact ih n (by omega) _ _
        rw [if_neg h1, if_neg h1]
        cases s[i + 1]? with
        | none => simp
        | some k =>
          simp only
          by_cases h2 : k.toNat < 2
          · simp [h2]
          by_cases h3 : s.length - i < k.toNat
          · simp [h2, h3]
          rw [if_neg h2, if_neg h2, if_neg h3, if_neg h3, ih _ (by omega) _ (out ++ _), ih _ (by omega) _ ([] ++ _)]
          by_cases hz : (optF s (n + 1 - k.toNat) (i + k.toNat) []).2 = 0
          · simp [hz]
          · simp [hz]
theorem opt7_err {s : List UInt8} (h : (opt7 s).2 ≠ 0) : (opt7 s).1 = [] := by
  unfold opt7 at *
  have := optF_gen s s.length 0 []
  rw [if_neg h] at this
  rw [this]
theorem val8 {t : List UInt8} (h : t.length = 8) : ((valL t : Nat) : Int) = vK t 0 4 * 4294967296 + vK t 4 4 := by
  unfold vK
  have e : t.take 4 ++ (t.drop 4).take 4 = t := by rw [List.take_of_length_le (l := t.drop 4) (by simp; omega), List.take_append_drop]
  have := val_append (t.take 4) ((t.drop 4).take 4)
  rw [e, show ((t.drop 4).take 4).length = 4 by simp; omega] at this
  rw [List.drop_zero, this]
  omega
theorem t7st_eq {s : List UInt8} (hs : s.length < 2 ^ 20) : tcp_Stamp s = some (stamp7 s) := by
  unfold tcp_Stamp tcp_StampF
  rw [t7_eq hs, Option.bind_some]
  by_cases hz : (opt7 s).2 = 0
  · rw [show ((opt7 s).2 != 0) = false by simpa using hz, cond_false]
    unfold stamp7 opt7
    unfold opt7 at hz
    have key := iter_eq (step := fun st => tcp_Stamp_s1 octet_Get s st) (fun st => stL (optF s (s.length - st.toNat) st.toNat []).1) (fun st => 0 ≤ st ∧ st ≤ s.length ∧ (optF s (s.length - st.toNat) st.toNat []).2 = 0) (fun st => s.length - st.toNat) ?_ FUEL 0 ⟨by omega, by omega, by simpa using hz⟩ (by rw [FUEL_eq]; omega)
    · rw [key]; rfl
    intro st ⟨g1, g2, g3⟩
    obtain ⟨i, rfl⟩ := Int.eq_ofNat_of_zero_le g1
    simp only [Int.toNat_natCast] at g3 ⊢
    unfold tcp_Stamp_s1
    by_cases hi : i < s.length
    · obtain ⟨n, hn⟩ : ∃ n, s.length - i = n + 1 := ⟨s.length - i - 1, by omega⟩
      have e : s[i]? = some s[i] := List.getElem?_eq_getElem hi
      rw [hn, optF, e] at g3
      simp only at g3
      rw [cond_p (by omega), oreq_p (by omega), Int.toNat_natCast, e, Option.bind_some, hn, optF, e]
      by_cases h0 : s[i] = 0
      · refine .inl ?_
        rw [show ((s[i].toNat : Int) == 0) = true by rw [h0]; rfl, cond_true]
        simp only [h0, if_true]; rfl
      rw [show ((s[i].toNat : Int) == 0) = false by simp; intro hx; exact h0 (UInt8.toNat_inj.1 (by simpa using hx)), cond_false]
      rw [if_neg h0] at g3
      simp only [if_neg h0]
      by_cases h1 : s[i] = 1
      · rw [if_pos h1] at g3
        refine .inr ⟨((i + 1 : Nat) : Int), ?_, ⟨by omega, by omega, ?_⟩, by omega, ?_⟩
        · rw [show ((s[i].toNat : Int) == 1) = true by rw [h1]; rfl, cond_true, wI64 (by omega) (by omega)]; rfl
        · rw [Int.toNat_natCast, show s.length - (i + 1) = n by omega]; exact g3
        · simp only [Int.toNat_natCast, if_pos h1]
          rw [show s.length - (i + 1) = n by omega]
      rw [show ((s[i].toNat : Int) == 1) = false by simp; intro hx; exact h1 (UInt8.toNat_inj.1 (by simp; omega)), cond_false]
      rw [if_neg h1] at g3
      simp only [if_neg h1]
      rw [wI64 (n := (i : Int) + 1) (by omega) (by omega)]
      by_cases h2 : s.length ≤ i + 1
      · rw [List.getElem?_eq_none (by omega)] at g3
        simp at g3
      have hi1 : i + 1 < s.length := by omega
      have e1 : s[i + 1]? = some s[i + 1] := List.getElem?_eq_getElem hi1
      have b1 := s[i + 1].toNat_lt
      rw [e1] at g3
      simp only at g3
      rw [cond_p (by omega), show ((i : Int) + 1).toNat = i + 1 by omega, e1, oreq_p (by omega), Option.bind_some]
      simp only [Option.bind_some]
      rw [wI64 (n := (s[i + 1].toNat : Int)) (by omega) (by omega)]
      by_cases h3 : s[i + 1].toNat < 2
      · rw [if_pos h3] at g3
        exact absurd g3 (by decide)
      rw [if_neg h3] at g3
      rw [cond_n (by omega), if_neg h3, wI64 (n := (s.length : Int) - i) (by omega) (by omega)]
      by_cases h4 : s.length - i < s[i + 1].toNat
      · rw [if_pos h4] at g3
        exact absurd g3 (by decide)
      rw [if_neg h4, optF_gen] at g3
      have b0 := s[i].toNat_lt
      have hz2 : (optF s (n + 1 - s[i + 1].toNat) (i + s[i + 1].toNat) []).2 = 0 := by
        apply Decidable.byContradiction
        intro hx
        rw [if_neg hx] at g3
        exact absurd g3 (by decide)
      rw [if_neg h4, optF_gen, if_pos hz2, cond_n (by omega), oreq_p (by omega), wI64 (n := (i : Int) + s[i + 1].toNat) (by omega) (by omega), wI64 (n := (i : Int) + 2) (by omega) (by omega), wI64 (n := (s[i].toNat : Int)) (by omega) (by omega), oreq_p (by omega), show ((i : Int) + s[i + 1].toNat).toNat - ((i : Int) + 2).toNat = s[i + 1].toNat - 2 by omega, show ((i : Int) + 2).toNat = i + 2 by omega]
      simp only [List.nil_append, List.cons_append, stL]
      have hdl : ((s.drop (i + 2)).take (s[i + 1].toNat - 2)).length = s[i + 1].toNat - 2 := by simp; omega
      generalize (s.drop (i + 2)).take (s[i + 1].toNat - 2) = D at *
      by_cases h8 : (s[i].toNat : Int) = 8
      · refine .inl ?_
        rw [show ((s[i].toNat : Int) != 8) = false by simpa using h8, cond_false, if_pos h8, octet_Get_eq (by omega), Option.bind_some]
        by_cases hl : D.length = 8
        · rw [getS_at (by omega) (by omega) (by omega) (by omega), if_pos hl]
          have r0 := vK_rng D 0 4 4294967296 (by decide)
          have r4 := vK_rng D 4 4 4294967296 (by decide)
          have hv := val8 hl
          have ev : (D.drop (0 : Int).toNat).take (8 : Int).toNat = D := by
            rw [show (0 : Int).toNat = 0 from rfl, show (8 : Int).toNat = 8 from rfl, List.drop_zero, List.take_of_length_le (by omega)]
          simp only [cond_true, ev]
          rw [show ((D.length : Int) == 8) = true by simp; omega, cond_true, hv, fdivP, show ((2 : Int) ^ 32) = 4294967296 from rfl, show (vK D 0 4 * 4294967296 + vK D 4 4) / 4294967296 = vK D 0 4 by omega, wU32 r0.1 r0.2, wU32m, show (vK D 0 4 * 4294967296 + vK D 4 4) % 4294967296 = vK D 4 4 by omega]; rfl
        · rw [if_neg hl]
          rw [show ((D.length : Int) == 8) = false by simp; omega]
          cases (getS D 0 8).2 <;> rfl
      · refine .inr ⟨((i + s[i + 1].toNat : Nat) : Int), ?_, ⟨by omega, by omega, ?_⟩, by omega, ?_⟩
        · rw [show ((s[i].toNat : Int) != 8) = true by simpa using h8, cond_true]; rfl
        · rw [Int.toNat_natCast, show s.length - (i + s[i + 1].toNat) = n + 1 - s[i + 1].toNat by omega]; exact hz2
        · rw [Int.toNat_natCast, show s.length - (i + s[i + 1].toNat) = n + 1 - s[i + 1].toNat by omega, if_neg h8]
    · refine .inl ?_
      rw [cond_n (by omega), show s.length - i = 0 by omega, optF]; rfl
  · rw [show ((opt7 s).2 != 0) = true by simpa using hz, cond_true]
    unfold stamp7
    rw [opt7_err hz]; rfl
def stamped7 (v e : Nat) : List UInt8 := [1, 1, 8, 10] ++ (be v 4 ++ be e 4)
theorem l8 {l : List UInt8} (h : l.length = 8) : ∃ a b c d e f g i, l = [a, b, c, d, e, f, g, i] := by
  match l, h with
  | [a, b, c, d, e, f, g, i], _ => exact ⟨a, b, c, d, e, f, g, i, rfl⟩
theorem opt7_stamped {d : List UInt8} (h : d.length = 8) : opt7 ([1, 1, 8, 10] ++ d) = ([⟨8, d, 4⟩], 0) := by
  obtain ⟨a, b, c, d, e, f, g, i, rfl⟩ := l8 h
  unfold opt7
  show optF [1, 1, 8, 10, a, b, c, d, e, f, g, i] 12 0 [] = _
  rw [optF]
  show optF [1, 1, 8, 10, a, b, c, d, e, f, g, i] 11 1 [] = _
  rw [optF]
  show optF [1, 1, 8, 10, a, b, c, d, e, f, g, i] 10 2 [] = _
  rw [optF]
  show optF [1, 1, 8, 10, a, b, c, d, e, f, g, i] 0 12 [⟨8, [a, b, c, d, e, f, g, i], 4⟩] = _
  rw [optF]
end Go.Vm.Code
namespace Go.Vm.Code
open Go Go.Vm Go.Proofs
set_option maxRecDepth 100000
set_option maxHeartbeats 4000000
set_option linter.unusedVariables false
def octet_Reader_RestF (octet_Reader_Bad : octet_Reader → Option (Bool × octet_Reader)) (octet_Reader_Text : octet_Reader → Int → Option ((List UInt8) × octet_Reader)) (ra0 : octet_Reader) : Option ((List UInt8) × octet_Reader) :=
  (octet_Reader_Bad ra0).bind fun b =>
  cond (b.1)
    (
    some (([], b.2)))
    (
    (octet_Reader_Text b.2 (b.2.s.length : Int)).bind fun t =>
    some ((t.1, t.2)))
def rx107 (x : (List UInt8) × octet_Reader) : SRes := ⟨.string ⟨⟨x.1⟩⟩, [], [some [.string ⟨⟨x.2.s⟩⟩, .bool x.2.made, .bool x.2.bad]]⟩
def r107 (g : octet_Reader → Option ((List UInt8) × octet_Reader)) : Dec := dPt 0 unoctet_Reader fun (y0 : octet_Reader) => dEnd (ofG (g y0) rx107)
theorem r107_c {g : octet_Reader → Option ((List UInt8) × octet_Reader)} {y0 : octet_Reader} {x : (List UInt8) × octet_Reader} (hx : g y0 = some x) : r107 g [.pointer (some ⟨0, 0, none⟩)] [some [.string ⟨⟨y0.s⟩⟩, .bool y0.made, .bool y0.bad]] = some (rx107 x) := (dPt_eq (unoctet_Reader_c _)).trans (ofG_eq hx)
def s107 (g : octet_Reader → Option ((List UInt8) × octet_Reader)) : Summ := ⟨[.pt 3], r107 g⟩
theorem r107_eq {g : octet_Reader → Option ((List UInt8) × octet_Reader)} {y0 : octet_Reader} {x : (List UInt8) × octet_Reader} (hx : g y0 = some x) : (s107 g).run [.pointer (some ⟨0, 0, none⟩)] [some [.string ⟨⟨y0.s⟩⟩, .bool y0.made, .bool y0.bad]] = some (rx107 x) := r107_c hx
abbrev sums107 (octet_Reader_Bad : octet_Reader → Option (Bool × octet_Reader)) (octet_Reader_Text : octet_Reader → Int → Option ((List UInt8) × octet_Reader)) : List (Nat × Summ) := [(105, s105 octet_Reader_Bad), (106, s106 octet_Reader_Text)]
theorem leads107 (octet_Reader_Bad : octet_Reader → Option (Bool × octet_Reader)) (octet_Reader_Text : octet_Reader → Int → Option ((List UInt8) × octet_Reader)) (hS : SumsOK Try.prog (aget (sums107 octet_Reader_Bad octet_Reader_Text))) (ra0 : octet_Reader) (res : (List UInt8) × octet_Reader) (h : octet_Reader_RestF octet_Reader_Bad octet_Reader_Text ra0 = some res) :
    Leads Try.prog 107 1 ⟨⟨107, 12, [(0, .pointer (some ⟨0, 0, none⟩))], [.code k107_9], [], false, none⟩, [], [(0, .cells [.string ⟨⟨ra0.s⟩⟩, .bool ra0.made, .bool ra0.bad])], 1⟩ (fun v H _ => Res 1 (rx107 res) v H) := by
  unfold octet_Reader_RestF at h
  refine ev_ok tab_ok hS true 3000 ?_
  conv => whnf
  replace h := obind.elim h; obtain ⟨b, hy, h⟩ := h
  refine sumK.introF [0] (sumRun_of (aqs := [.pointer (some ⟨0, 0, none⟩)]) (ws := [.win 0 0 3 true]) (n := 0) (m := 0) (t' := 1) (ra_cons rfl rfl ra_nil) rfl (by rfl) (r105_eq hy) rfl rfl rfl rfl (wb_win rfl rfl rfl ⟨rfl, Nat.le_of_ble_eq_true rfl⟩ rfl rfl wb_nil) an_nil rfl) ?_
  conv => whnf
  refine br.h h ?_ ?_ ?_
  · rfl
  · clear h; intro hb h; conv => whnf
    all_goals (cases h)
    all_goals exact Res.of [] rfl nw_0 (by decide) js_0 (wr_s (rfl) (hs_cells rfl) wr_0)
  clear h; intro hb h; conv => whnf
  replace h := obind.elim h; obtain ⟨t, hy, h⟩ := h
  refine sumK.introF [0] (sumRun_of (aqs := [.pointer (some ⟨0, 0, none⟩), .int .i64 (b.2.s.length : Int)]) (ws := [.win 0 0 3 true]) (n := 0) (m := 0) (t' := 1) (ra_cons rfl rfl (ra_cons rfl rfl ra_nil)) rfl (by rfl) (r106_eq hy) rfl rfl rfl rfl (wb_win rfl rfl rfl ⟨rfl, Nat.le_of_ble_eq_true rfl⟩ rfl rfl wb_nil) an_nil rfl) ?_
  conv => whnf
  all_goals (cases h)
  all_goals exact Res.of [] rfl nw_0 (by decide) js_0 (wr_s (rfl) (hs_cells rfl) wr_0)
theorem ok107 (octet_Reader_Bad : octet_Reader → Option (Bool × octet_Reader)) (octet_Reader_Text : octet_Reader → Int → Option ((List UInt8) × octet_Reader)) (hS : SumsOK Try.prog (aget (sums107 octet_Reader_Bad octet_Reader_Text))) : SumOK Try.prog 107 (s107 (octet_Reader_RestF octet_Reader_Bad octet_Reader_Text)) := by
  refine SumOK.of_leads tab_ok (fun ar os r ha hr => ?_) ⟨Try.f107, rfl, by decide, rfl⟩
  replace hr : r107 (octet_Reader_RestF octet_Reader_Bad octet_Reader_Text) ar (conts os) = some r := hr
  unfold r107 at hr
  generalize hc : conts os = C at hr
  have hq := dPt.elim hr; clear hr; obtain ⟨c0, l1, C, y0, rfl, rfl, e0, hr⟩ := hq; obtain rfl := unoctet_Reader_eq _ _ e0
  replace hr := dFin hr; obtain ⟨rfl, rfl, x, h, rfl⟩ := hr
  obtain ⟨os, rfl, ha, hc⟩ := kinds_some ha hc
  obtain rfl := kinds_nil hc
  exact ⟨_, rfl, leads107 octet_Reader_Bad octet_Reader_Text hS _ x h⟩
def octet_Reader_Rest : octet_Reader → Option ((List UInt8) × octet_Reader) := octet_Reader_RestF octet_Reader_Bad octet_Reader_Text
theorem lift107 : SumOK Try.prog 107 (s107 octet_Reader_Rest) := ok107 octet_Reader_Bad octet_Reader_Text (SumsOK.of_tab ⟨lift105, lift106, trivial⟩)
def quic_idF (octet_Reader_Bad : octet_Reader → Option (Bool × octet_Reader)) (octet_Reader_Num : octet_Reader → Int → Option (Int × octet_Reader)) (octet_Reader_Text : octet_Reader → Int → Option ((List UInt8) × octet_Reader)) (ra0 : octet_Reader) : Option ((List UInt8) × Int × octet_Reader) :=
  (octet_Reader_Num ra0 1).bind fun n =>
  (octet_Reader_Bad n.2).bind fun b =>
  cond (!b.1)
    (
    cond (decide (n.1 > 20))
      (
      some (([], 3, b.2)))
      (
      (octet_Reader_Text b.2 n.1).bind fun t =>
      (octet_Reader_Bad t.2).bind fun b1 =>
      cond (b1.1)
        (
        some (([], 2, b1.2)))
        (
        some ((t.1, 0, b1.2)))))
    (
    (octet_Reader_Text b.2 n.1).bind fun t1 =>
    (octet_Reader_Bad t1.2).bind fun b2 =>
    cond (b2.1)
      (
      some (([], 2, b2.2)))
      (
      some ((t1.1, 0, b2.2))))
def rx109 (x : (List UInt8) × Int × octet_Reader) : SRes := ⟨.tuple ⟨[.string ⟨⟨x.1⟩⟩, .int .i64 x.2.1]⟩, [], [some [.string ⟨⟨x.2.2.s⟩⟩, .bool x.2.2.made, .bool x.2.2.bad]]⟩
def r109 (g : octet_Reader → Option ((List UInt8) × Int × octet_Reader)) : Dec := dPt 0 unoctet_Reader fun (y0 : octet_Reader) => dEnd (ofG (g y0) rx109)
theorem r109_c {g : octet_Reader → Option ((List UInt8) × Int × octet_Reader)} {y0 : octet_Reader} {x : (List UInt8) × Int × octet_Reader} (hx : g y0 = some x) : r109 g [.pointer (some ⟨0, 0, none⟩)] [some [.string ⟨⟨y0.s⟩⟩, .bool y0.made, .bool y0.bad]] = some (rx109 x) := (dPt_eq (unoctet_Reader_c _)).trans (ofG_eq hx)
def s109 (g : octet_Reader → Option ((List UInt8) × Int × octet_Reader)) : Summ := ⟨[.pt 3], r109 g⟩
theorem r109_eq {g : octet_Reader → Option ((List UInt8) × Int × octet_Reader)} {y0 : octet_Reader} {x : (List UInt8) × Int × octet_Reader} (hx : g y0 = some x) : (s109 g).run [.pointer (some ⟨0, 0, none⟩)] [some [.string ⟨⟨y0.s⟩⟩, .bool y0.made, .bool y0.bad]] = some (rx109 x) := r109_c hx
abbrev sums109 (octet_Reader_Bad : octet_Reader → Option (Bool × octet_Reader)) (octet_Reader_Num : octet_Reader → Int → Option (Int × octet_Reader)) (octet_Reader_Text : octet_Reader → Int → Option ((List UInt8) × octet_Reader)) : List (Nat × Summ) := [(105, s105 octet_Reader_Bad), (104, s104 octet_Reader_Num), (106, s106 octet_Reader_Text)]
theorem leads109 (octet_Reader_Bad : octet_Reader → Option (Bool × octet_Reader)) (octet_Reader_Num : octet_Reader → Int → Option (Int × octet_Reader)) (octet_Reader_Text : octet_Reader → Int → Option ((List UInt8) × octet_Reader)) (hS : SumsOK Try.prog (aget (sums109 octet_Reader_Bad octet_Reader_Num octet_Reader_Text))) (ra0 : octet_Reader) (res : (List UInt8) × Int × octet_Reader) (h : quic_idF octet_Reader_Bad octet_Reader_Num octet_Reader_Text ra0 = some res) :
    Leads Try.prog 109 1 ⟨⟨109, 21, [(0, .pointer (some ⟨0, 0, none⟩))], [.code k109_19], [], false, none⟩, [], [(0, .cells [.string ⟨⟨ra0.s⟩⟩, .bool ra0.made, .bool ra0.bad])], 1⟩ (fun v H _ => Res 1 (rx109 res) v H) := by
  unfold quic_idF at h
  refine ev_ok tab_ok hS true 3000 ?_
  conv => whnf
  replace h := obind.elim h; obtain ⟨n, hy, h⟩ := h
  refine sumK.introF [0] (sumRun_of (aqs := [.pointer (some ⟨0, 0, none⟩), .int .i64 1]) (ws := [.win 0 0 3 true]) (n := 0) (m := 0) (t' := 1) (ra_cons rfl rfl (ra_cons rfl rfl ra_nil)) rfl (by rfl) (r104_eq hy) rfl rfl rfl rfl (wb_win rfl rfl rfl ⟨rfl, Nat.le_of_ble_eq_true rfl⟩ rfl rfl wb_nil) an_nil rfl) ?_
  conv => whnf
  replace h := obind.elim h; obtain ⟨b, hy, h⟩ := h
  refine sumK.introF [0] (sumRun_of (aqs := [.pointer (some ⟨0, 0, none⟩)]) (ws := [.win 0 0 3 true]) (n := 0) (m := 0) (t' := 1) (ra_cons rfl rfl ra_nil) rfl (by rfl) (r105_eq hy) rfl rfl rfl rfl (wb_win rfl rfl rfl ⟨rfl, Nat.le_of_ble_eq_true rfl⟩ rfl rfl wb_nil) an_nil rfl) ?_
  conv => whnf
  refine br.h2 h ?_ ?_ ?_
  · rfl
  · clear h; intro hb h; conv => whnf
    replace h := obind.elim h; obtain ⟨t1, hy, h⟩ := h
    refine sumK.introF [0] (sumRun_of (aqs := [.pointer (some ⟨0, 0, none⟩), .int .i64 n.1]) (ws := [.win 0 0 3 true]) (n := 0) (m := 0) (t' := 1) (ra_cons rfl rfl (ra_cons rfl rfl ra_nil)) rfl (by rfl) (r106_eq hy) rfl rfl rfl rfl (wb_win rfl rfl rfl ⟨rfl, Nat.le_of_ble_eq_true rfl⟩ rfl rfl wb_nil) an_nil rfl) ?_
    conv => whnf
    replace h := obind.elim h; obtain ⟨b2, hy, h⟩ := h
    refine sumK.introF [0] (sumRun_of (aqs := [.pointer (some ⟨0, 0, none⟩)]) (ws := [.win 0 0 3 true]) (n := 0) (m := 0) (t' := 1) (ra_cons rfl rfl ra_nil) rfl (by rfl) (r105_eq hy) rfl rfl rfl rfl (wb_win rfl rfl rfl ⟨rfl, Nat.le_of_ble_eq_true rfl⟩ rfl rfl wb_nil) an_nil rfl) ?_
    conv => whnf
    refine br.h h ?_ ?_ ?_
    · rfl
    · clear h; intro hb h; conv => whnf
      all_goals (cases h)
      all_goals exact Res.of [] rfl nw_0 (by decide) js_0 (wr_s (rfl) (hs_cells rfl) wr_0)
    clear h; intro hb h; conv => whnf
    all_goals (cases h)
    all_goals exact Res.of [] rfl nw_0 (by decide) js_0 (wr_s (rfl) (hs_cells rfl) wr_0)
  clear h; intro hb h; conv => whnf
  refine br.h h ?_ ?_ ?_
  · rfl
  · clear h; intro hb h; conv => whnf
    all_goals (cases h)
    all_goals exact Res.of [] rfl nw_0 (by decide) js_0 (wr_s (rfl) (hs_cells rfl) wr_0)
  clear h; intro hb h; conv => whnf
  replace h := obind.elim h; obtain ⟨t, hy, h⟩ := h
  refine sumK.introF [0] (sumRun_of (aqs := [.pointer (some ⟨0, 0, none⟩), .int .i64 n.1]) (ws := [.win 0 0 3 true]) (n := 0) (m := 0) (t' := 1) (ra_cons rfl rfl (ra_cons rfl rfl ra_nil)) rfl (by rfl) (r106_eq hy) rfl rfl rfl rfl (wb_win rfl rfl rfl ⟨rfl, Nat.le_of_ble_eq_true rfl⟩ rfl rfl wb_nil) an_nil rfl) ?_
  conv => whnf
  replace h := obind.elim h; obtain ⟨b1, hy, h⟩ := h
  refine sumK.introF [0] (sumRun_of (aqs := [.pointer (some ⟨0, 0, none⟩)]) (ws := [.win 0 0 3 true]) (n := 0) (m := 0) (t' := 1) (ra_cons rfl rfl ra_nil) rfl (by rfl) (r105_eq hy) rfl rfl rfl rfl (wb_win rfl rfl rfl ⟨rfl, Nat.le_of_ble_eq_true rfl⟩ rfl rfl wb_nil) an_nil rfl) ?_
  conv => whnf
  refine br.h h ?_ ?_ ?_
  · rfl
  · clear h; intro hb h; conv => whnf
    all_goals (cases h)
    all_goals exact Res.of [] rfl nw_0 (by decide) js_0 (wr_s (rfl) (hs_cells rfl) wr_0)
  clear h; intro hb h; conv => whnf
  all_goals (cases h)
  all_goals exact Res.of [] rfl nw_0 (by decide) js_0 (wr_s (rfl) (hs_cells rfl) wr_0)
theorem ok109 (octet_Reader_Bad : octet_Reader → Option (Bool × octet_Reader)) (octet_Reader_Num : octet_Reader → Int → Option (Int × octet_Reader)) (octet_Reader_Text : octet_Reader → Int → Option ((List UInt8) × octet_Reader)) (hS : SumsOK Try.prog (aget (sums109 octet_Reader_Bad octet_Reader_Num octet_Reader_Text))) : SumOK Try.prog 109 (s109 (quic_idF octet_Reader_Bad octet_Reader_Num octet_Reader_Text)) := by
  refine SumOK.of_leads tab_ok (fun ar os r ha hr => ?_) ⟨Try.f109, rfl, by decide, rfl⟩
  replace hr : r109 (quic_idF octet_Reader_Bad octet_Reader_Num octet_Reader_Text) ar (conts os) = some r := hr
  unfold r109 at hr
  generalize hc : conts os = C at hr
  have hq := dPt.elim hr; clear hr; obtain ⟨c0, l1, C, y0, rfl, rfl, e0, hr⟩ := hq; obtain rfl := unoctet_Reader_eq _ _ e0
  replace hr := dFin hr; obtain ⟨rfl, rfl, x, h, rfl⟩ := hr
  obtain ⟨os, rfl, ha, hc⟩ := kinds_some ha hc
  obtain rfl := kinds_nil hc
  exact ⟨_, rfl, leads109 octet_Reader_Bad octet_Reader_Num octet_Reader_Text hS _ x h⟩
def quic_id : octet_Reader → Option ((List UInt8) × Int × octet_Reader) := quic_idF octet_Reader_Bad octet_Reader_Num octet_Reader_Text
theorem lift109 : SumOK Try.prog 109 (s109 quic_id) := ok109 octet_Reader_Bad octet_Reader_Num octet_Reader_Text (SumsOK.of_tab ⟨lift105, lift104, lift106, trivial⟩)
def quic_GetF (octet_New : (List UInt8) → Option octet_Reader) (octet_Reader_Bad : octet_Reader → Option (Bool × octet_Reader)) (octet_Reader_Num : octet_Reader → Int → Option (Int × octet_Reader)) (octet_Reader_Rest : octet_Reader → Option ((List UInt8) × octet_Reader)) (octet_Reader_Text : octet_Reader → Int → Option ((List UInt8) × octet_Reader)) (quic_id : octet_Reader → Option ((List UInt8) × Int × octet_Reader)) (s : List UInt8) : Option (quic_Head × Int) :=
  (octet_New s).bind fun n =>
  (octet_Reader_Num n 1).bind fun n1 =>
  (octet_Reader_Bad n1.2).bind fun b =>
  cond (b.1)
    (
    some ((quic_Head.mk false 0 0 [] [] [], 2)))
    (
    cond ((andI .i64 n1.1 64) == 0)
      (
      some ((quic_Head.mk false 0 0 [] [] [], 3)))
      (
      cond (!((andI .i64 n1.1 128) != 0))
        (
        (octet_Reader_Text b.2 8).bind fun t =>
        (octet_Reader_Bad t.2).bind fun b1 =>
        cond (b1.1)
          (
          some ((quic_Head.mk false 0 0 [] [] [], 2)))
          (
          (octet_Reader_Rest b1.2).bind fun xr =>
          some ((quic_Head.mk ((andI .i64 n1.1 128) != 0) (andI .i64 n1.1 63) 0 t.1 [] xr.1, 0))))
        (
        (octet_Reader_Num b.2 4).bind fun n2 =>
        (quic_id n2.2).bind fun i =>
        cond (i.2.1 != 0)
          (
          some ((quic_Head.mk false 0 0 [] [] [], i.2.1)))
          (
          (quic_id i.2.2).bind fun i1 =>
          cond (i1.2.1 != 0)
            (
            some ((quic_Head.mk false 0 0 [] [] [], i1.2.1)))
            (
            (octet_Reader_Rest i1.2.2).bind fun xr1 =>
            some ((quic_Head.mk ((andI .i64 n1.1 128) != 0) (andI .i64 n1.1 63) (wI .u32 n2.1) i.1 i1.1 xr1.1, 0)))))))
def rx83 (x : quic_Head × Int) : SRes := ⟨.tuple ⟨[.agg ⟨[.bool x.1.Long, .int .i64 x.1.Bits, .int .u32 x.1.Version, .string ⟨⟨x.1.DCID⟩⟩, .string ⟨⟨x.1.SCID⟩⟩, .string ⟨⟨x.1.Rest⟩⟩]⟩, .int .i64 x.2]⟩, [], []⟩
def r83 (g : (List UInt8) → Option (quic_Head × Int)) : Dec := dV asS fun (y0 : List UInt8) => dEnd (ofG (g y0) rx83)
theorem r83_c {g : (List UInt8) → Option (quic_Head × Int)} {y0 : List UInt8} {x : quic_Head × Int} (hx : g y0 = some x) : r83 g [.string ⟨⟨y0⟩⟩] [] = some (rx83 x) := (dV_eq (asS_c)).trans (ofG_eq hx)
def s83 (g : (List UInt8) → Option (quic_Head × Int)) : Summ := ⟨[.v], r83 g⟩
theorem r83_eq {g : (List UInt8) → Option (quic_Head × Int)} {y0 : List UInt8} {x : quic_Head × Int} (hx : g y0 = some x) : (s83 g).run [.string ⟨⟨y0⟩⟩] [] = some (rx83 x) := r83_c hx
abbrev sums83 (octet_New : (List UInt8) → Option octet_Reader) (octet_Reader_Bad : octet_Reader → Option (Bool × octet_Reader)) (octet_Reader_Num : octet_Reader → Int → Option (Int × octet_Reader)) (octet_Reader_Rest : octet_Reader → Option ((List UInt8) × octet_Reader)) (octet_Reader_Text : octet_Reader → Int → Option ((List UInt8) × octet_Reader)) (quic_id : octet_Reader → Option ((List UInt8) × Int × octet_Reader)) : List (Nat × Summ) := [(103, s103 octet_New), (105, s105 octet_Reader_Bad), (104, s104 octet_Reader_Num), (107, s107 octet_Reader_Rest), (106, s106 octet_Reader_Text), (109, s109 quic_id)]
theorem leads83 (octet_New : (List UInt8) → Option octet_Reader) (octet_Reader_Bad : octet_Reader → Option (Bool × octet_Reader)) (octet_Reader_Num : octet_Reader → Int → Option (Int × octet_Reader)) (octet_Reader_Rest : octet_Reader → Option ((List UInt8) × octet_Reader)) (octet_Reader_Text : octet_Reader → Int → Option ((List UInt8) × octet_Reader)) (quic_id : octet_Reader → Option ((List UInt8) × Int × octet_Reader)) (hS : SumsOK Try.prog (aget (sums83 octet_New octet_Reader_Bad octet_Reader_Num octet_Reader_Rest octet_Reader_Text quic_id))) (s : List UInt8) (res : quic_Head × Int) (h : quic_GetF octet_New octet_Reader_Bad octet_Reader_Num octet_Reader_Rest octet_Reader_Text quic_id s = some res) :
    Leads Try.prog 83 0 ⟨⟨83, 60, [(0, .string ⟨⟨s⟩⟩)], [.code k83_51], [], false, none⟩, [], [], 0⟩ (fun v H _ => Res 0 (rx83 res) v H) := by
  unfold quic_GetF at h
  refine ev_ok tab_ok hS true 3000 ?_
  conv => whnf
  replace h := obind.elim h; obtain ⟨n, hy, h⟩ := h
  refine sumK.introF [1] (sumRun_of (aqs := [.string ⟨⟨s⟩⟩]) (ws := []) (n := 1) (m := 0) (t' := 2) (ra_cons rfl rfl ra_nil) rfl (by rfl) (r103_eq hy) rfl rfl rfl rfl wb_nil (an_cons (rfl) an_nil) rfl) ?_
  conv => whnf
  replace h := obind.elim h; obtain ⟨n1, hy, h⟩ := h
  refine sumK.introF [1] (sumRun_of (aqs := [.pointer (some ⟨0, 0, none⟩), .int .i64 1]) (ws := [.win 1 0 3 true]) (n := 0) (m := 0) (t' := 2) (ra_cons rfl rfl (ra_cons rfl rfl ra_nil)) rfl (by rfl) (r104_eq hy) rfl rfl rfl rfl (wb_win rfl rfl rfl ⟨rfl, Nat.le_of_ble_eq_true rfl⟩ rfl rfl wb_nil) an_nil rfl) ?_
  conv => whnf
  replace h := obind.elim h; obtain ⟨b, hy, h⟩ := h
  refine sumK.introF [1] (sumRun_of (aqs := [.pointer (some ⟨0, 0, none⟩)]) (ws := [.win 1 0 3 true]) (n := 0) (m := 0) (t' := 2) (ra_cons rfl rfl ra_nil) rfl (by rfl) (r105_eq hy) rfl rfl rfl rfl (wb_win rfl rfl rfl ⟨rfl, Nat.le_of_ble_eq_true rfl⟩ rfl rfl wb_nil) an_nil rfl) ?_
  conv => whnf
  refine br.h h ?_ ?_ ?_
  · rfl
  · clear h; intro hb h; conv => whnf
    all_goals (cases h; exact Res.z rfl rfl rfl)
  clear h; intro hb h; conv => whnf
  refine br.h h ?_ ?_ ?_
  · rfl
  · clear h; intro hb h; conv => whnf
    all_goals (cases h; exact Res.z rfl rfl rfl)
  clear h; intro hb h; conv => whnf
  refine br.h h ?_ ?_ ?_
  · rfl
  · clear h; intro hb h; conv => whnf
    replace h := obind.elim h; obtain ⟨t, hy, h⟩ := h
    refine sumK.introF [1] (sumRun_of (aqs := [.pointer (some ⟨0, 0, none⟩), .int .i64 8]) (ws := [.win 1 0 3 true]) (n := 0) (m := 0) (t' := 3) (ra_cons rfl rfl (ra_cons rfl rfl ra_nil)) rfl (by rfl) (r106_eq hy) rfl rfl rfl rfl (wb_win rfl rfl rfl ⟨rfl, Nat.le_of_ble_eq_true rfl⟩ rfl rfl wb_nil) an_nil rfl) ?_
    conv => whnf
    replace h := obind.elim h; obtain ⟨b1, hy, h⟩ := h
    refine sumK.introF [1] (sumRun_of (aqs := [.pointer (some ⟨0, 0, none⟩)]) (ws := [.win 1 0 3 true]) (n := 0) (m := 0) (t' := 3) (ra_cons rfl rfl ra_nil) rfl (by rfl) (r105_eq hy) rfl rfl rfl rfl (wb_win rfl rfl rfl ⟨rfl, Nat.le_of_ble_eq_true rfl⟩ rfl rfl wb_nil) an_nil rfl) ?_
    conv => whnf
    refine br.h h ?_ ?_ ?_
    · rfl
    · clear h; intro hb h; conv => whnf
      all_goals (cases h; exact Res.z rfl rfl rfl)
    clear h; intro hb h; conv => whnf
    replace h := obind.elim h; obtain ⟨xr, hy, h⟩ := h
    refine sumK.introF [1] (sumRun_of (aqs := [.pointer (some ⟨0, 0, none⟩)]) (ws := [.win 1 0 3 true]) (n := 0) (m := 0) (t' := 3) (ra_cons rfl rfl ra_nil) rfl (by rfl) (r107_eq hy) rfl rfl rfl rfl (wb_win rfl rfl rfl ⟨rfl, Nat.le_of_ble_eq_true rfl⟩ rfl rfl wb_nil) an_nil rfl) ?_
    conv => whnf
    all_goals (cases h; exact Res.z rfl rfl rfl)
  clear h; intro hb h; conv => whnf
  replace h := obind.elim h; obtain ⟨n2, hy, h⟩ := h
  refine sumK.introF [1] (sumRun_of (aqs := [.pointer (some ⟨0, 0, none⟩), .int .i64 4]) (ws := [.win 1 0 3 true]) (n := 0) (m := 0) (t' := 3) (ra_cons rfl rfl (ra_cons rfl rfl ra_nil)) rfl (by rfl) (r104_eq hy) rfl rfl rfl rfl (wb_win rfl rfl rfl ⟨rfl, Nat.le_of_ble_eq_true rfl⟩ rfl rfl wb_nil) an_nil rfl) ?_
  conv => whnf
  refine ev_ok tab_ok hS true 3000 ?_
  conv => whnf
  replace h := obind.elim h; obtain ⟨i, hy, h⟩ := h
  refine sumK.introF [1] (sumRun_of (aqs := [.pointer (some ⟨0, 0, none⟩)]) (ws := [.win 1 0 3 true]) (n := 0) (m := 0) (t' := 4) (ra_cons rfl rfl ra_nil) rfl (by rfl) (r109_eq hy) rfl rfl rfl rfl (wb_win rfl rfl rfl ⟨rfl, Nat.le_of_ble_eq_true rfl⟩ rfl rfl wb_nil) an_nil rfl) ?_
  conv => whnf
  refine br.h h ?_ ?_ ?_
  · rfl
  · clear h; intro hb h; conv => whnf
    refine br.pos ?_ ?_; (focus (clear h; first | assumption | (simp_all; done)))
    conv => whnf
    all_goals (cases h; exact Res.z rfl rfl rfl)
  clear h; intro hb h; conv => whnf
  refine ev_ok tab_ok hS true 3000 ?_
  conv => whnf
  replace h := obind.elim h; obtain ⟨i1, hy, h⟩ := h
  refine sumK.introF [1] (sumRun_of (aqs := [.pointer (some ⟨0, 0, none⟩)]) (ws := [.win 1 0 3 true]) (n := 0) (m := 0) (t' := 4) (ra_cons rfl rfl ra_nil) rfl (by rfl) (r109_eq hy) rfl rfl rfl rfl (wb_win rfl rfl rfl ⟨rfl, Nat.le_of_ble_eq_true rfl⟩ rfl rfl wb_nil) an_nil rfl) ?_
  conv => whnf
  refine br.h h ?_ ?_ ?_
  · rfl
  · clear h; intro hb h; conv => whnf
    refine br.pos ?_ ?_; (focus (clear h; first | assumption | (simp_all; done)))
    conv => whnf
    all_goals (cases h; exact Res.z rfl rfl rfl)
  clear h; intro hb h; conv => whnf
  refine ev_ok tab_ok hS true 3000 ?_
  conv => whnf
  replace h := obind.elim h; obtain ⟨xr1, hy, h⟩ := h
  refine sumK.introF [1] (sumRun_of (aqs := [.pointer (some ⟨0, 0, none⟩)]) (ws := [.win 1 0 3 true]) (n := 0) (m := 0) (t' := 4) (ra_cons rfl rfl ra_nil) rfl (by rfl) (r107_eq hy) rfl rfl rfl rfl (wb_win rfl rfl rfl ⟨rfl, Nat.le_of_ble_eq_true rfl⟩ rfl rfl wb_nil) an_nil rfl) ?_
  conv => whnf
  all_goals (cases h; exact Res.z rfl rfl rfl)
theorem ok83 (octet_New : (List UInt8) → Option octet_Reader) (octet_Reader_Bad : octet_Reader → Option (Bool × octet_Reader)) (octet_Reader_Num : octet_Reader → Int → Option (Int × octet_Reader)) (octet_Reader_Rest : octet_Reader → Option ((List UInt8) × octet_Reader)) (octet_Reader_Text : octet_Reader → Int → Option ((List UInt8) × octet_Reader)) (quic_id : octet_Reader → Option ((List UInt8) × Int × octet_Reader)) (hS : SumsOK Try.prog (aget (sums83 octet_New octet_Reader_Bad octet_Reader_Num octet_Reader_Rest octet_Reader_Text quic_id))) : SumOK Try.prog 83 (s83 (quic_GetF octet_New octet_Reader_Bad octet_Reader_Num octet_Reader_Rest octet_Reader_Text quic_id)) := by
  refine SumOK.of_leads tab_ok (fun ar os r ha hr => ?_) ⟨Try.f83, rfl, by decide, rfl⟩
  replace hr : r83 (quic_GetF octet_New octet_Reader_Bad octet_Reader_Num octet_Reader_Rest octet_Reader_Text quic_id) ar (conts os) = some r := hr
  unfold r83 at hr
  generalize hc : conts os = C at hr
  replace hr := dV.elim hr; obtain ⟨v0, l1, y0, rfl, e0, hr⟩ := hr; obtain rfl := asS_eq _ _ e0
  replace hr := dFin hr; obtain ⟨rfl, rfl, x, h, rfl⟩ := hr
  obtain rfl := kinds_nil hc
  exact ⟨_, rfl, leads83 octet_New octet_Reader_Bad octet_Reader_Num octet_Reader_Rest octet_Reader_Text quic_id hS _ x h⟩
def quic_Get : (List UInt8) → Option (quic_Head × Int) := quic_GetF octet_New octet_Reader_Bad octet_Reader_Num octet_Reader_Rest octet_Reader_Text quic_id
theorem lift83 : SumOK Try.prog 83 (s83 quic_Get) := ok83 octet_New octet_Reader_Bad octet_Reader_Num octet_Reader_Rest octet_Reader_Text quic_id (SumsOK.of_tab ⟨lift103, lift105, lift104, lift107, lift106, lift109, trivial⟩)
end Go.Vm.Code
namespace Go.Vm.Code
open Go Go.Vm
def zeroQ : quic_Head := ⟨false, 0, 0, [], [], []⟩
def idS (s : List UInt8) (p : Nat) : List UInt8 × Int × Nat :=
  if s.length ≤ p then ([], 2, 0) else if 20 < b1 s p then ([], 3, 0) else if s.length < p + 1 + b1 s p then ([], 2, 0) else ((s.drop (p + 1)).take (b1 s p), 0, p + 1 + b1 s p)
theorem i17 : (if (1 : Int) < 1 ∨ (1 : Int) > 7 then -1 else 1 : Int) = 1 := by decide
theorem i47 : (if (4 : Int) < 1 ∨ (4 : Int) > 7 then -1 else 4 : Int) = 4 := by decide
theorem rdr_bad_k (s : List UInt8) (k : Int) : rdr ⟨s, true, true⟩ k = ⟨s, true, true⟩ := by unfold rdr; rw [if_pos (.inl rfl)]
theorem qid_bad (s : List UInt8) (h : s.length < 2 ^ 38) : quic_id ⟨s, true, true⟩ = some ([], 2, ⟨s, true, true⟩) := by
  unfold quic_id quic_idF
  rw [rNum_eq rfl (by simp only []; omega), Option.bind_some]
  simp only [rdr_bad_k]
  rw [rBad_eq rfl, Option.bind_some]
  simp only [Bool.not_true, cond_false]
  rw [rText_eq rfl, Option.bind_some]
  simp only [rdr_bad_k]
  rw [rBad_eq rfl, Option.bind_some]
  rfl
theorem qid_eq {s : List UInt8} {p : Nat} (h : s.length < 2 ^ 38) : ∃ r, quic_id ⟨s.drop p, true, false⟩ = some ((idS s p).1, (idS s p).2.1, r) ∧ ((idS s p).2.1 = 0 → r = ⟨s.drop (idS s p).2.2, true, false⟩) := by
  have hb := b1_lt s p
  have ld : (s.drop p).length = s.length - p := List.length_drop ..
  unfold quic_id quic_idF idS
  rw [rNum_eq rfl (by simp only []; omega), Option.bind_some]
  simp only [rdn, i17]
  by_cases h1 : s.length ≤ p
  · have hr : rdr ⟨s.drop p, true, false⟩ 1 = ⟨s.drop p, true, true⟩ := by unfold rdr; rw [if_pos (.inr (.inr (by simp only []; omega)))]
    rw [if_pos h1, hr, rBad_eq rfl, Option.bind_some]
    simp only [Bool.not_true, cond_false]
    rw [rText_eq rfl, Option.bind_some]
    simp only [rdr_bad_k]
    rw [rBad_eq rfl, Option.bind_some]
    exact ⟨_, rfl, fun q => by cases q⟩
  · rw [if_neg h1, rdr_ok (by omega) (by omega), rdt_ok (by omega) (by omega), show (1 : Int).toNat = 1 from rfl, List.drop_drop, show valL ((s.drop p).take 1) = b1 s p from rfl, rBad_eq rfl, Option.bind_some]
    simp only [Bool.not_false, cond_true]
    have ld2 : (s.drop (p + 1)).length = s.length - (p + 1) := List.length_drop ..
    by_cases h2 : 20 < b1 s p
    · rw [cond_p (by omega), if_pos h2]
      exact ⟨_, rfl, fun q => by cases q⟩
    rw [cond_n (by omega), if_neg h2, rText_eq rfl, Option.bind_some]
    by_cases h3 : s.length < p + 1 + b1 s p
    · have hr : rdr ⟨s.drop (p + 1), true, false⟩ ((b1 s p : Nat) : Int) = ⟨s.drop (p + 1), true, true⟩ := by unfold rdr; rw [if_pos (.inr (.inr (by simp only []; omega)))]
      rw [if_pos h3, hr, rBad_eq rfl, Option.bind_some]
      exact ⟨_, rfl, fun q => by cases q⟩
    · rw [if_neg h3, rdr_ok (by omega) (by omega), rdt_ok (by omega) (by omega), rBad_eq rfl, Option.bind_some, Int.toNat_natCast, List.drop_drop]
      exact ⟨_, rfl, fun _ => rfl⟩
def getQ (s : List UInt8) : quic_Head × Int :=
  if s = [] then (zeroQ, 2) else if b1 s 0 / 64 % 2 = 0 then (zeroQ, 3) else
  if b1 s 0 < 128 then if s.length < 9 then (zeroQ, 2) else (⟨false, ((b1 s 0 % 64 : Nat) : Int), 0, (s.drop 1).take 8, [], s.drop 9⟩, 0)
  else if s.length < 5 then (zeroQ, 2) else if (idS s 5).2.1 ≠ 0 then (zeroQ, (idS s 5).2.1) else if (idS s (idS s 5).2.2).2.1 ≠ 0 then (zeroQ, (idS s (idS s 5).2.2).2.1) else
  (⟨true, ((b1 s 0 % 64 : Nat) : Int), ((valL ((s.drop 1).take 4) : Nat) : Int), (idS s 5).1, (idS s (idS s 5).2.2).1, s.drop (idS s (idS s 5).2.2).2.2⟩, 0)
theorem bitsQ : ∀ v : Fin 256, ((wI .u8 (((v.val : Nat) : Int).tdiv 64)).tmod 2 = ((v.val / 64 % 2 : Nat) : Int) ∧ wI .i64 (((v.val : Nat) : Int).tmod 64) = ((v.val % 64 : Nat) : Int)) ∧ andI .i64 ((v.val : Nat) : Int) 64 = ((v.val / 64 % 2 * 64 : Nat) : Int) ∧ andI .i64 ((v.val : Nat) : Int) 128 = ((v.val / 128 * 128 : Nat) : Int) ∧ andI .i64 ((v.val : Nat) : Int) 63 = ((v.val % 64 : Nat) : Int) := by decide +kernel
theorem rest_eq {r : octet_Reader} (h : r.made = true) (hb : r.bad = false) : octet_Reader_Rest r = some (r.s, rdr r r.s.length) := by
  unfold octet_Reader_Rest octet_Reader_RestF
  rw [rBad_eq h, Option.bind_some]
  simp only [hb, cond_false]
  rw [rText_eq h, Option.bind_some]
  have : rdt r r.s.length = r.s := by unfold rdt; rw [if_neg (by rw [hb]; simp), Int.toNat_natCast, List.take_length]
  rw [this]
theorem qgetQ_eq {s : List UInt8} (h : s.length < 2 ^ 38) : quic_Get s = some (getQ s) := by
  unfold quic_Get quic_GetF getQ
  by_cases h0 : s = []
  · subst h0; decide +kernel
  have hl : 0 < s.length := List.length_pos_iff.2 h0
  have hb := b1_lt s 0
  obtain ⟨-, q1, q2, q3⟩ := bitsQ ⟨b1 s 0, hb⟩
  simp only at q1 q2 q3
  have l1 : (s.drop 1).length = s.length - 1 := List.length_drop ..
  rw [if_neg h0, rNew_eq, Option.bind_some, rNum_eq rfl (by simp only []; omega), Option.bind_some]
  simp only [rdn, i17]
  rw [rdr_ok (by omega) (by omega), rdt_ok (by omega) (by omega), show (1 : Int).toNat = 1 from rfl, rBad_eq rfl, Option.bind_some, show valL (s.take 1) = b1 s 0 from rfl, q1, q2, q3]
  simp only [cond_false]
  by_cases h1 : b1 s 0 / 64 % 2 = 0
  · have : ((((b1 s 0 / 64 % 2 * 64 : Nat) : Int)) == 0) = true := by rw [beq_iff_eq]; omega
    rw [this, cond_true, if_pos h1]; rfl
  have : ((((b1 s 0 / 64 % 2 * 64 : Nat) : Int)) == 0) = false := by rw [beq_eq_false_iff_ne]; omega
  rw [this, cond_false, if_neg h1]
  by_cases h2 : b1 s 0 < 128
  · have : ((((b1 s 0 / 128 * 128 : Nat) : Int)) != 0) = false := by rw [bne_eq_false_iff_eq]; omega
    rw [this, Bool.not_false, cond_true, if_pos h2, rText_eq rfl, Option.bind_some]
    by_cases h3 : s.length < 9
    · have hr : rdr ⟨s.drop 1, true, false⟩ 8 = ⟨s.drop 1, true, true⟩ := by unfold rdr; rw [if_pos (.inr (.inr (by simp only []; omega)))]
      rw [if_pos h3, hr, rBad_eq rfl, Option.bind_some]; rfl
    · rw [if_neg h3, rdr_ok (by omega) (by omega), rdt_ok (by omega) (by omega), rBad_eq rfl, Option.bind_some]
      simp only [cond_false]
      rw [rest_eq rfl rfl, Option.bind_some, List.drop_drop]
      rfl
  · have : ((((b1 s 0 / 128 * 128 : Nat) : Int)) != 0) = true := by rw [bne_iff_ne]; omega
    rw [this, Bool.not_true, cond_false, if_neg h2, rNum_eq rfl (by simp only []; omega), Option.bind_some]
    simp only [rdn, i47]
    by_cases h3 : s.length < 5
    · have hr : rdr ⟨s.drop 1, true, false⟩ 4 = ⟨s.drop 1, true, true⟩ := by unfold rdr; rw [if_pos (.inr (.inr (by simp only []; omega)))]
      rw [if_pos h3, hr, qid_bad _ (by omega), Option.bind_some]; rfl
    have hv : valL ((s.drop 1).take 4) < 2 ^ 32 := val_take_lt _ (by decide)
    obtain ⟨r, er, hr⟩ := qid_eq (s := s) (p := 5) h
    rw [if_neg h3, rdr_ok (by omega) (by omega), rdt_ok (by omega) (by omega), show (4 : Int).toNat = 4 from rfl, List.drop_drop, er, Option.bind_some]
    simp only []
    by_cases h4 : (idS s 5).2.1 = 0
    · have : ((idS s 5).2.1 != 0) = false := by rw [bne_eq_false_iff_eq]; exact h4
      obtain ⟨r', er', hr'⟩ := qid_eq (s := s) (p := (idS s 5).2.2) h
      rw [this, cond_false, if_neg (by omega), hr h4, er', Option.bind_some]
      simp only []
      by_cases h5 : (idS s (idS s 5).2.2).2.1 = 0
      · have : ((idS s (idS s 5).2.2).2.1 != 0) = false := by rw [bne_eq_false_iff_eq]; exact h5
        rw [this, cond_false, if_neg (by omega), hr' h5, rest_eq rfl rfl, Option.bind_some, wU32 (by omega) (by omega)]
      · have : ((idS s (idS s 5).2.2).2.1 != 0) = true := by rw [bne_iff_ne]; exact h5
        rw [this, cond_true, if_pos h5]; rfl
    · have : ((idS s 5).2.1 != 0) = true := by rw [bne_iff_ne]; exact h4
      rw [this, cond_true, if_pos h4]; rfl
end Go.Vm.Code
namespace Go.Vm.Code
open Go Go.Vm Go.Proofs
set_option maxRecDepth 100000
set_option maxHeartbeats 4000000
set_option linter.unusedVariables false
def packet_openedF (ipfour_Get : (List UInt8) → Option (ipfour_Head × (List UInt8) × Int)) (ipsix_Get : (List UInt8) → Option (ipsix_Head × (List UInt8) × Int)) (s : List UInt8) : Option (packet_outer × Int) :=
  (s[0]?).bind fun (b : UInt8) =>
  cond (((b.toNat : Int).fdiv (2 ^ 4)) == 4)
    (
    (ipfour_Get s).bind fun xg =>
    cond (xg.2.2 != 0)
      (
      some ((packet_outer.mk (api_Addr.mk false 0 0) (api_Addr.mk false 0 0) 0 [], xg.2.2)))
      (
      let t := wI .i64 (20 + (xg.1.Options.length : Int))
      let t1 := (s.length : Int) != (wI .i64 (t + (xg.2.1.length : Int)))
      cond (t1)
        (
        some ((packet_outer.mk (api_Addr.mk false 0 0) (api_Addr.mk false 0 0) 0 [], 5)))
        (
        some ((packet_outer.mk xg.1.Src xg.1.Dst xg.1.Proto xg.2.1, 0)))))
    (
    cond (((b.toNat : Int).fdiv (2 ^ 4)) == 6)
      (
      (ipsix_Get s).bind fun xg1 =>
      cond (xg1.2.2 != 0)
        (
        some ((packet_outer.mk (api_Addr.mk false 0 0) (api_Addr.mk false 0 0) 0 [], xg1.2.2)))
        (
        let t2 := (s.length : Int) != (wI .i64 (40 + (xg1.2.1.length : Int)))
        cond (t2)
          (
          some ((packet_outer.mk (api_Addr.mk false 0 0) (api_Addr.mk false 0 0) 0 [], 5)))
          (
          some ((packet_outer.mk xg1.1.Src xg1.1.Dst xg1.1.Next xg1.2.1, 0)))))
      (
      some ((packet_outer.mk (api_Addr.mk false 0 0) (api_Addr.mk false 0 0) 0 [], 3))))
def rx53 (x : packet_outer × Int) : SRes := ⟨.tuple ⟨[.agg ⟨[.bool x.1.src.V6, .int .u64 x.1.src.Hi, .int .u64 x.1.src.Lo, .bool x.1.dst.V6, .int .u64 x.1.dst.Hi, .int .u64 x.1.dst.Lo, .int .i64 x.1.proto, .string ⟨⟨x.1.body⟩⟩]⟩, .int .i64 x.2]⟩, [], []⟩
def r53 (g : (List UInt8) → Option (packet_outer × Int)) : Dec := dV asS fun (y0 : List UInt8) => dEnd (ofG (g y0) rx53)
theorem r53_c {g : (List UInt8) → Option (packet_outer × Int)} {y0 : List UInt8} {x : packet_outer × Int} (hx : g y0 = some x) : r53 g [.string ⟨⟨y0⟩⟩] [] = some (rx53 x) := (dV_eq (asS_c)).trans (ofG_eq hx)
def s53 (g : (List UInt8) → Option (packet_outer × Int)) : Summ := ⟨[.v], r53 g⟩
theorem r53_eq {g : (List UInt8) → Option (packet_outer × Int)} {y0 : List UInt8} {x : packet_outer × Int} (hx : g y0 = some x) : (s53 g).run [.string ⟨⟨y0⟩⟩] [] = some (rx53 x) := r53_c hx
abbrev sums53 (ipfour_Get : (List UInt8) → Option (ipfour_Head × (List UInt8) × Int)) (ipsix_Get : (List UInt8) → Option (ipsix_Head × (List UInt8) × Int)) : List (Nat × Summ) := [(99, s99 ipfour_Get), (100, s100 ipsix_Get)]
theorem leads53 (ipfour_Get : (List UInt8) → Option (ipfour_Head × (List UInt8) × Int)) (ipsix_Get : (List UInt8) → Option (ipsix_Head × (List UInt8) × Int)) (hS : SumsOK Try.prog (aget (sums53 ipfour_Get ipsix_Get))) (s : List UInt8) (res : packet_outer × Int) (h : packet_openedF ipfour_Get ipsix_Get s = some res) :
    Leads Try.prog 53 0 ⟨⟨53, 61, [(0, .string ⟨⟨s⟩⟩)], [.code k53_41], [], false, none⟩, [], [], 0⟩ (fun v H _ => Res 0 (rx53 res) v H) := by
  unfold packet_openedF at h
  refine ev_ok tab_ok hS true 3000 ?_
  conv => whnf
  replace h := obind.elim h; obtain ⟨b, hy, h⟩ := h
  refine rdS.intro hy ?_
  conv => whnf
  refine br.h h ?_ ?_ ?_
  · rfl
  · clear h; intro hb h; conv => whnf
    replace h := obind.elim h; obtain ⟨xg, hy, h⟩ := h
    refine sumK.q rfl rfl (r99_eq hy) rfl rfl rfl ?_
    conv => whnf
    refine br.h h ?_ ?_ ?_
    · rfl
    · clear h; intro hb h; conv => whnf
      all_goals (cases h; exact Res.z rfl rfl rfl)
    clear h; intro hb h; conv => whnf
    let t : Int := wI .i64 (20 + (xg.1.Options.length : Int))
    let t1 : Bool := (s.length : Int) != (wI .i64 (t + (xg.2.1.length : Int)))
    refine br.h h ?_ ?_ ?_
    · rfl
    · clear h; intro hb h; conv => whnf
      all_goals (cases h; exact Res.z rfl rfl rfl)
    clear h; intro hb h; conv => whnf
    all_goals (cases h; exact Res.z rfl rfl rfl)
  clear h; intro hb h; conv => whnf
  refine br.h2 h ?_ ?_ ?_
  · rfl
  · clear h; intro hb h; conv => whnf
    all_goals (cases h; exact Res.z rfl rfl rfl)
  clear h; intro hb h; conv => whnf
  replace h := obind.elim h; obtain ⟨xg1, hy, h⟩ := h
  refine sumK.q rfl rfl (r100_eq hy) rfl rfl rfl ?_
  conv => whnf
  refine br.h h ?_ ?_ ?_
  · rfl
  · clear h; intro hb h; conv => whnf
    all_goals (cases h; exact Res.z rfl rfl rfl)
  clear h; intro hb h; conv => whnf
  let t2 : Bool := (s.length : Int) != (wI .i64 (40 + (xg1.2.1.length : Int)))
  refine br.h h ?_ ?_ ?_
  · rfl
  · clear h; intro hb h; conv => whnf
    all_goals (cases h; exact Res.z rfl rfl rfl)
  clear h; intro hb h; conv => whnf
  all_goals (cases h; exact Res.z rfl rfl rfl)
theorem ok53 (ipfour_Get : (List UInt8) → Option (ipfour_Head × (List UInt8) × Int)) (ipsix_Get : (List UInt8) → Option (ipsix_Head × (List UInt8) × Int)) (hS : SumsOK Try.prog (aget (sums53 ipfour_Get ipsix_Get))) : SumOK Try.prog 53 (s53 (packet_openedF ipfour_Get ipsix_Get)) := by
  refine SumOK.of_leads tab_ok (fun ar os r ha hr => ?_) ⟨Try.f53, rfl, by decide, rfl⟩
  replace hr : r53 (packet_openedF ipfour_Get ipsix_Get) ar (conts os) = some r := hr
  unfold r53 at hr
  generalize hc : conts os = C at hr
  replace hr := dV.elim hr; obtain ⟨v0, l1, y0, rfl, e0, hr⟩ := hr; obtain rfl := asS_eq _ _ e0
  replace hr := dFin hr; obtain ⟨rfl, rfl, x, h, rfl⟩ := hr
  obtain rfl := kinds_nil hc
  exact ⟨_, rfl, leads53 ipfour_Get ipsix_Get hS _ x h⟩
def packet_opened : (List UInt8) → Option (packet_outer × Int) := packet_openedF ipfour_Get ipsix_Get
theorem lift53 : SumOK Try.prog 53 (s53 packet_opened) := ok53 ipfour_Get ipsix_Get (SumsOK.of_tab ⟨lift99, lift100, trivial⟩)
def packet_outer_segmentF (tcp_Get : (List UInt8) → api_Addr → api_Addr → Option (tcp_Head × (List UInt8) × Int)) (tcp_Stamp : (List UInt8) → Option (Int × Int × Int)) (oa0 : packet_outer) (p : api_Packet) : Option (Int × Int × api_Packet) :=
  (tcp_Get oa0.body oa0.src oa0.dst).bind fun xg =>
  cond (xg.2.2 != 0)
    (
    some ((0, xg.2.2, p)))
    (
    (tcp_Stamp xg.1.Options).bind fun s =>
    cond (decide (s.2.2 ≥ 0))
      (
      some (((xg.2.1.length : Int), 0, api_Packet.mk (api_Tuple.mk p.Tuple.Proto p.Tuple.Src p.Tuple.Dst xg.1.SPort xg.1.DPort) xg.1.Flags true s.1 s.2.1 p.Long p.CID p.Size)))
      (
      some (((xg.2.1.length : Int), 0, api_Packet.mk (api_Tuple.mk p.Tuple.Proto p.Tuple.Src p.Tuple.Dst xg.1.SPort xg.1.DPort) xg.1.Flags p.Stamped p.Val p.Echo p.Long p.CID p.Size))))
def rx54 (x : Int × Int × api_Packet) : SRes := ⟨.tuple ⟨[.int .i64 x.1, .int .i64 x.2.1]⟩, [], [some [.int .i64 x.2.2.Tuple.Proto, .bool x.2.2.Tuple.Src.V6, .int .u64 x.2.2.Tuple.Src.Hi, .int .u64 x.2.2.Tuple.Src.Lo, .bool x.2.2.Tuple.Dst.V6, .int .u64 x.2.2.Tuple.Dst.Hi, .int .u64 x.2.2.Tuple.Dst.Lo, .int .i64 x.2.2.Tuple.SPort, .int .i64 x.2.2.Tuple.DPort, .int .i64 x.2.2.Flags, .bool x.2.2.Stamped, .int .u32 x.2.2.Val, .int .u32 x.2.2.Echo, .bool x.2.2.Long, .string ⟨⟨x.2.2.CID⟩⟩, .int .i64 x.2.2.Size]]⟩
def r54 (g : packet_outer → api_Packet → Option (Int × Int × api_Packet)) : Dec := dV uvpacket_outer fun (y0 : packet_outer) => dPt 0 unapi_Packet fun (y1 : api_Packet) => dEnd (ofG (g y0 y1) rx54)
theorem r54_c {g : packet_outer → api_Packet → Option (Int × Int × api_Packet)} {y0 : packet_outer} {y1 : api_Packet} {x : Int × Int × api_Packet} (hx : g y0 y1 = some x) : r54 g [.agg ⟨[.bool y0.src.V6, .int .u64 y0.src.Hi, .int .u64 y0.src.Lo, .bool y0.dst.V6, .int .u64 y0.dst.Hi, .int .u64 y0.dst.Lo, .int .i64 y0.proto, .string ⟨⟨y0.body⟩⟩]⟩, .pointer (some ⟨0, 0, none⟩)] [some [.int .i64 y1.Tuple.Proto, .bool y1.Tuple.Src.V6, .int .u64 y1.Tuple.Src.Hi, .int .u64 y1.Tuple.Src.Lo, .bool y1.Tuple.Dst.V6, .int .u64 y1.Tuple.Dst.Hi, .int .u64 y1.Tuple.Dst.Lo, .int .i64 y1.Tuple.SPort, .int .i64 y1.Tuple.DPort, .int .i64 y1.Flags, .bool y1.Stamped, .int .u32 y1.Val, .int .u32 y1.Echo, .bool y1.Long, .string ⟨⟨y1.CID⟩⟩, .int .i64 y1.Size]] = some (rx54 x) := (dV_eq (uvpacket_outer_c _)).trans ((dPt_eq (unapi_Packet_c _)).trans (ofG_eq hx))
def s54 (g : packet_outer → api_Packet → Option (Int × Int × api_Packet)) : Summ := ⟨[.v, .pt 16], r54 g⟩
theorem r54_eq {g : packet_outer → api_Packet → Option (Int × Int × api_Packet)} {y0 : packet_outer} {y1 : api_Packet} {x : Int × Int × api_Packet} (hx : g y0 y1 = some x) : (s54 g).run [.agg ⟨[.bool y0.src.V6, .int .u64 y0.src.Hi, .int .u64 y0.src.Lo, .bool y0.dst.V6, .int .u64 y0.dst.Hi, .int .u64 y0.dst.Lo, .int .i64 y0.proto, .string ⟨⟨y0.body⟩⟩]⟩, .pointer (some ⟨0, 0, none⟩)] [some [.int .i64 y1.Tuple.Proto, .bool y1.Tuple.Src.V6, .int .u64 y1.Tuple.Src.Hi, .int .u64 y1.Tuple.Src.Lo, .bool y1.Tuple.Dst.V6, .int .u64 y1.Tuple.Dst.Hi, .int .u64 y1.Tuple.Dst.Lo, .int .i64 y1.Tuple.SPort, .int .i64 y1.Tuple.DPort, .int .i64 y1.Flags, .bool y1.Stamped, .int .u32 y1.Val, .int .u32 y1.Echo, .bool y1.Long, .string ⟨⟨y1.CID⟩⟩, .int .i64 y1.Size]] = some (rx54 x) := r54_c hx
abbrev sums54 (tcp_Get : (List UInt8) → api_Addr → api_Addr → Option (tcp_Head × (List UInt8) × Int)) (tcp_Stamp : (List UInt8) → Option (Int × Int × Int)) : List (Nat × Summ) := [(81, s81 tcp_Get), (64, s64 tcp_Stamp)]
theorem leads54 (tcp_Get : (List UInt8) → api_Addr → api_Addr → Option (tcp_Head × (List UInt8) × Int)) (tcp_Stamp : (List UInt8) → Option (Int × Int × Int)) (hS : SumsOK Try.prog (aget (sums54 tcp_Get tcp_Stamp))) (oa0 : packet_outer) (p : api_Packet) (res : Int × Int × api_Packet) (h : packet_outer_segmentF tcp_Get tcp_Stamp oa0 p = some res) :
    Leads Try.prog 54 1 ⟨⟨54, 65, [(0, .agg ⟨[.bool oa0.src.V6, .int .u64 oa0.src.Hi, .int .u64 oa0.src.Lo, .bool oa0.dst.V6, .int .u64 oa0.dst.Hi, .int .u64 oa0.dst.Lo, .int .i64 oa0.proto, .string ⟨⟨oa0.body⟩⟩]⟩), (1, .pointer (some ⟨0, 0, none⟩))], [.code k54_20], [], false, none⟩, [], [(0, .cells [.int .i64 p.Tuple.Proto, .bool p.Tuple.Src.V6, .int .u64 p.Tuple.Src.Hi, .int .u64 p.Tuple.Src.Lo, .bool p.Tuple.Dst.V6, .int .u64 p.Tuple.Dst.Hi, .int .u64 p.Tuple.Dst.Lo, .int .i64 p.Tuple.SPort, .int .i64 p.Tuple.DPort, .int .i64 p.Flags, .bool p.Stamped, .int .u32 p.Val, .int .u32 p.Echo, .bool p.Long, .string ⟨⟨p.CID⟩⟩, .int .i64 p.Size])], 1⟩ (fun v H _ => Res 1 (rx54 res) v H) := by
  unfold packet_outer_segmentF at h
  refine ev_ok tab_ok hS true 3000 ?_
  conv => whnf
  replace h := obind.elim h; obtain ⟨xg, hy, h⟩ := h
  refine sumK.q rfl rfl (r81_eq hy) rfl rfl rfl ?_
  conv => whnf
  refine br.h h ?_ ?_ ?_
  · rfl
  · clear h; intro hb h; conv => whnf
    all_goals (cases h)
    all_goals exact Res.of [] rfl nw_0 (by decide) js_0 (wr_s (rfl) (hs_cells rfl) wr_0)
  clear h; intro hb h; conv => whnf
  replace h := obind.elim h; obtain ⟨s, hy, h⟩ := h
  refine sumK.q rfl rfl (r64_eq hy) rfl rfl rfl ?_
  conv => whnf
  refine br.h h ?_ ?_ ?_
  · rfl
  · clear h; intro hb h; conv => whnf
    all_goals (cases h)
    all_goals exact Res.of [] rfl nw_0 (by decide) js_0 (wr_s (rfl) (hs_cells rfl) wr_0)
  clear h; intro hb h; conv => whnf
  all_goals (cases h)
  all_goals exact Res.of [] rfl nw_0 (by decide) js_0 (wr_s (rfl) (hs_cells rfl) wr_0)
theorem ok54 (tcp_Get : (List UInt8) → api_Addr → api_Addr → Option (tcp_Head × (List UInt8) × Int)) (tcp_Stamp : (List UInt8) → Option (Int × Int × Int)) (hS : SumsOK Try.prog (aget (sums54 tcp_Get tcp_Stamp))) : SumOK Try.prog 54 (s54 (packet_outer_segmentF tcp_Get tcp_Stamp)) := by
  refine SumOK.of_leads tab_ok (fun ar os r ha hr => ?_) ⟨Try.f54, rfl, by decide, rfl⟩
  replace hr : r54 (packet_outer_segmentF tcp_Get tcp_Stamp) ar (conts os) = some r := hr
  unfold r54 at hr
  generalize hc : conts os = C at hr
  replace hr := dV.elim hr; obtain ⟨v0, l1, y0, rfl, e0, hr⟩ := hr; obtain rfl := uvpacket_outer_eq _ _ e0
  have hq := dPt.elim hr; clear hr; obtain ⟨c1, l2, C, y1, rfl, rfl, e1, hr⟩ := hq; obtain rfl := unapi_Packet_eq _ _ e1
  replace hr := dFin hr; obtain ⟨rfl, rfl, x, h, rfl⟩ := hr
  obtain ⟨os, rfl, ha, hc⟩ := kinds_some ha hc
  obtain rfl := kinds_nil hc
  exact ⟨_, rfl, leads54 tcp_Get tcp_Stamp hS _ _ x h⟩
def packet_outer_segment : packet_outer → api_Packet → Option (Int × Int × api_Packet) := packet_outer_segmentF tcp_Get tcp_Stamp
theorem lift54 : SumOK Try.prog 54 (s54 packet_outer_segment) := ok54 tcp_Get tcp_Stamp (SumsOK.of_tab ⟨lift81, lift64, trivial⟩)
def packet_outer_datagramF (quic_Get : (List UInt8) → Option (quic_Head × Int)) (udp_Get : (List UInt8) → api_Addr → api_Addr → Option (udp_Head × (List UInt8) × Int)) (oa0 : packet_outer) (p : api_Packet) : Option (Int × Int × api_Packet) :=
  (udp_Get oa0.body oa0.src oa0.dst).bind fun xg =>
  cond (xg.2.2 != 0)
    (
    some ((0, xg.2.2, p)))
    (
    let t := (xg.2.1.length : Int) != (wI .i64 ((oa0.body.length : Int) - 8))
    cond (t)
      (
      some ((0, 5, p)))
      (
      (quic_Get xg.2.1).bind fun xg1 =>
      cond (xg1.2 == 0)
        (
        some (((xg.2.1.length : Int), 0, api_Packet.mk (api_Tuple.mk p.Tuple.Proto p.Tuple.Src p.Tuple.Dst xg.1.SPort xg.1.DPort) p.Flags p.Stamped p.Val p.Echo xg1.1.Long xg1.1.DCID p.Size)))
        (
        some (((xg.2.1.length : Int), 0, api_Packet.mk (api_Tuple.mk p.Tuple.Proto p.Tuple.Src p.Tuple.Dst xg.1.SPort xg.1.DPort) p.Flags p.Stamped p.Val p.Echo p.Long p.CID p.Size)))))
def rx55 (x : Int × Int × api_Packet) : SRes := ⟨.tuple ⟨[.int .i64 x.1, .int .i64 x.2.1]⟩, [], [some [.int .i64 x.2.2.Tuple.Proto, .bool x.2.2.Tuple.Src.V6, .int .u64 x.2.2.Tuple.Src.Hi, .int .u64 x.2.2.Tuple.Src.Lo, .bool x.2.2.Tuple.Dst.V6, .int .u64 x.2.2.Tuple.Dst.Hi, .int .u64 x.2.2.Tuple.Dst.Lo, .int .i64 x.2.2.Tuple.SPort, .int .i64 x.2.2.Tuple.DPort, .int .i64 x.2.2.Flags, .bool x.2.2.Stamped, .int .u32 x.2.2.Val, .int .u32 x.2.2.Echo, .bool x.2.2.Long, .string ⟨⟨x.2.2.CID⟩⟩, .int .i64 x.2.2.Size]]⟩
def r55 (g : packet_outer → api_Packet → Option (Int × Int × api_Packet)) : Dec := dV uvpacket_outer fun (y0 : packet_outer) => dPt 0 unapi_Packet fun (y1 : api_Packet) => dEnd (ofG (g y0 y1) rx55)
theorem r55_c {g : packet_outer → api_Packet → Option (Int × Int × api_Packet)} {y0 : packet_outer} {y1 : api_Packet} {x : Int × Int × api_Packet} (hx : g y0 y1 = some x) : r55 g [.agg ⟨[.bool y0.src.V6, .int .u64 y0.src.Hi, .int .u64 y0.src.Lo, .bool y0.dst.V6, .int .u64 y0.dst.Hi, .int .u64 y0.dst.Lo, .int .i64 y0.proto, .string ⟨⟨y0.body⟩⟩]⟩, .pointer (some ⟨0, 0, none⟩)] [some [.int .i64 y1.Tuple.Proto, .bool y1.Tuple.Src.V6, .int .u64 y1.Tuple.Src.Hi, .int .u64 y1.Tuple.Src.Lo, .bool y1.Tuple.Dst.V6, .int .u64 y1.Tuple.Dst.Hi, .int .u64 y1.Tuple.Dst.Lo, .int .i64 y1.Tuple.SPort, .int .i64 y1.Tuple.DPort, .int .i64 y1.Flags, .bool y1.Stamped, .int .u32 y1.Val, .int .u32 y1.Echo, .bool y1.Long, .string ⟨⟨y1.CID⟩⟩, .int .i64 y1.Size]] = some (rx55 x) := (dV_eq (uvpacket_outer_c _)).trans ((dPt_eq (unapi_Packet_c _)).trans (ofG_eq hx))
def s55 (g : packet_outer → api_Packet → Option (Int × Int × api_Packet)) : Summ := ⟨[.v, .pt 16], r55 g⟩
theorem r55_eq {g : packet_outer → api_Packet → Option (Int × Int × api_Packet)} {y0 : packet_outer} {y1 : api_Packet} {x : Int × Int × api_Packet} (hx : g y0 y1 = some x) : (s55 g).run [.agg ⟨[.bool y0.src.V6, .int .u64 y0.src.Hi, .int .u64 y0.src.Lo, .bool y0.dst.V6, .int .u64 y0.dst.Hi, .int .u64 y0.dst.Lo, .int .i64 y0.proto, .string ⟨⟨y0.body⟩⟩]⟩, .pointer (some ⟨0, 0, none⟩)] [some [.int .i64 y1.Tuple.Proto, .bool y1.Tuple.Src.V6, .int .u64 y1.Tuple.Src.Hi, .int .u64 y1.Tuple.Src.Lo, .bool y1.Tuple.Dst.V6, .int .u64 y1.Tuple.Dst.Hi, .int .u64 y1.Tuple.Dst.Lo, .int .i64 y1.Tuple.SPort, .int .i64 y1.Tuple.DPort, .int .i64 y1.Flags, .bool y1.Stamped, .int .u32 y1.Val, .int .u32 y1.Echo, .bool y1.Long, .string ⟨⟨y1.CID⟩⟩, .int .i64 y1.Size]] = some (rx55 x) := r55_c hx
abbrev sums55 (quic_Get : (List UInt8) → Option (quic_Head × Int)) (udp_Get : (List UInt8) → api_Addr → api_Addr → Option (udp_Head × (List UInt8) × Int)) : List (Nat × Summ) := [(83, s83 quic_Get), (82, s82 udp_Get)]
theorem leads55 (quic_Get : (List UInt8) → Option (quic_Head × Int)) (udp_Get : (List UInt8) → api_Addr → api_Addr → Option (udp_Head × (List UInt8) × Int)) (hS : SumsOK Try.prog (aget (sums55 quic_Get udp_Get))) (oa0 : packet_outer) (p : api_Packet) (res : Int × Int × api_Packet) (h : packet_outer_datagramF quic_Get udp_Get oa0 p = some res) :
    Leads Try.prog 55 1 ⟨⟨55, 65, [(0, .agg ⟨[.bool oa0.src.V6, .int .u64 oa0.src.Hi, .int .u64 oa0.src.Lo, .bool oa0.dst.V6, .int .u64 oa0.dst.Hi, .int .u64 oa0.dst.Lo, .int .i64 oa0.proto, .string ⟨⟨oa0.body⟩⟩]⟩), (1, .pointer (some ⟨0, 0, none⟩))], [.code k55_26], [], false, none⟩, [], [(0, .cells [.int .i64 p.Tuple.Proto, .bool p.Tuple.Src.V6, .int .u64 p.Tuple.Src.Hi, .int .u64 p.Tuple.Src.Lo, .bool p.Tuple.Dst.V6, .int .u64 p.Tuple.Dst.Hi, .int .u64 p.Tuple.Dst.Lo, .int .i64 p.Tuple.SPort, .int .i64 p.Tuple.DPort, .int .i64 p.Flags, .bool p.Stamped, .int .u32 p.Val, .int .u32 p.Echo, .bool p.Long, .string ⟨⟨p.CID⟩⟩, .int .i64 p.Size])], 1⟩ (fun v H _ => Res 1 (rx55 res) v H) := by
  unfold packet_outer_datagramF at h
  refine ev_ok tab_ok hS true 3000 ?_
  conv => whnf
  replace h := obind.elim h; obtain ⟨xg, hy, h⟩ := h
  refine sumK.q rfl rfl (r82_eq hy) rfl rfl rfl ?_
  conv => whnf
  refine br.h h ?_ ?_ ?_
  · rfl
  · clear h; intro hb h; conv => whnf
    all_goals (cases h)
    all_goals exact Res.of [] rfl nw_0 (by decide) js_0 (wr_s (rfl) (hs_cells rfl) wr_0)
  clear h; intro hb h; conv => whnf
  let t : Bool := (xg.2.1.length : Int) != (wI .i64 ((oa0.body.length : Int) - 8))
  refine br.h h ?_ ?_ ?_
  · rfl
  · clear h; intro hb h; conv => whnf
    all_goals (cases h)
    all_goals exact Res.of [] rfl nw_0 (by decide) js_0 (wr_s (rfl) (hs_cells rfl) wr_0)
  clear h; intro hb h; conv => whnf
  replace h := obind.elim h; obtain ⟨xg1, hy, h⟩ := h
  refine sumK.q rfl rfl (r83_eq hy) rfl rfl rfl ?_
  conv => whnf
  refine br.h h ?_ ?_ ?_
  · rfl
  · clear h; intro hb h; conv => whnf
    all_goals (cases h)
    all_goals exact Res.of [] rfl nw_0 (by decide) js_0 (wr_s (rfl) (hs_cells rfl) wr_0)
  clear h; intro hb h; conv => whnf
  all_goals (cases h)
  all_goals exact Res.of [] rfl nw_0 (by decide) js_0 (wr_s (rfl) (hs_cells rfl) wr_0)
theorem ok55 (quic_Get : (List UInt8) → Option (quic_Head × Int)) (udp_Get : (List UInt8) → api_Addr → api_Addr → Option (udp_Head × (List UInt8) × Int)) (hS : SumsOK Try.prog (aget (sums55 quic_Get udp_Get))) : SumOK Try.prog 55 (s55 (packet_outer_datagramF quic_Get udp_Get)) := by
  refine SumOK.of_leads tab_ok (fun ar os r ha hr => ?_) ⟨Try.f55, rfl, by decide, rfl⟩
  replace hr : r55 (packet_outer_datagramF quic_Get udp_Get) ar (conts os) = some r := hr
  unfold r55 at hr
  generalize hc : conts os = C at hr
  replace hr := dV.elim hr; obtain ⟨v0, l1, y0, rfl, e0, hr⟩ := hr; obtain rfl := uvpacket_outer_eq _ _ e0
  have hq := dPt.elim hr; clear hr; obtain ⟨c1, l2, C, y1, rfl, rfl, e1, hr⟩ := hq; obtain rfl := unapi_Packet_eq _ _ e1
  replace hr := dFin hr; obtain ⟨rfl, rfl, x, h, rfl⟩ := hr
  obtain ⟨os, rfl, ha, hc⟩ := kinds_some ha hc
  obtain rfl := kinds_nil hc
  exact ⟨_, rfl, leads55 quic_Get udp_Get hS _ _ x h⟩
def packet_outer_datagram : packet_outer → api_Packet → Option (Int × Int × api_Packet) := packet_outer_datagramF quic_Get udp_Get
theorem lift55 : SumOK Try.prog 55 (s55 packet_outer_datagram) := ok55 quic_Get udp_Get (SumsOK.of_tab ⟨lift83, lift82, trivial⟩)
def packet_toldF (packet_opened : (List UInt8) → Option (packet_outer × Int)) (packet_outer_datagram : packet_outer → api_Packet → Option (Int × Int × api_Packet)) (packet_outer_segment : packet_outer → api_Packet → Option (Int × Int × api_Packet)) (s : List UInt8) : Option (api_Packet × Int × Int × Int) :=
  cond (decide ((s.length : Int) > 9000))
    (
    some ((api_Packet.mk (api_Tuple.mk 0 (api_Addr.mk false 0 0) (api_Addr.mk false 0 0) 0 0) 0 false 0 0 false [] 0, 0, 0, 5)))
    (
    cond (s == [])
      (
      some ((api_Packet.mk (api_Tuple.mk 0 (api_Addr.mk false 0 0) (api_Addr.mk false 0 0) 0 0) 0 false 0 0 false [] 0, 0, 0, 2)))
      (
      (packet_opened s).bind fun xo =>
      cond (xo.2 != 0)
        (
        some ((api_Packet.mk (api_Tuple.mk 0 (api_Addr.mk false 0 0) (api_Addr.mk false 0 0) 0 0) 0 false 0 0 false [] 0, 0, 0, xo.2)))
        (
        cond (xo.1.proto == 6)
          (
          (packet_outer_segment xo.1 (api_Packet.mk (api_Tuple.mk xo.1.proto xo.1.src xo.1.dst 0 0) 0 false 0 0 false [] (s.length : Int))).bind fun s1 =>
          cond (s1.2.1 != 0)
            (
            some ((api_Packet.mk (api_Tuple.mk 0 (api_Addr.mk false 0 0) (api_Addr.mk false 0 0) 0 0) 0 false 0 0 false [] 0, 0, 0, s1.2.1)))
            (
            some ((s1.2.2, (xo.1.body.length : Int), s1.1, 0))))
          (
          cond (xo.1.proto == 17)
            (
            (packet_outer_datagram xo.1 (api_Packet.mk (api_Tuple.mk xo.1.proto xo.1.src xo.1.dst 0 0) 0 false 0 0 false [] (s.length : Int))).bind fun d =>
            cond (d.2.1 != 0)
              (
              some ((api_Packet.mk (api_Tuple.mk 0 (api_Addr.mk false 0 0) (api_Addr.mk false 0 0) 0 0) 0 false 0 0 false [] 0, 0, 0, d.2.1)))
              (
              some ((d.2.2, (xo.1.body.length : Int), d.1, 0))))
            (
            some ((api_Packet.mk (api_Tuple.mk 0 (api_Addr.mk false 0 0) (api_Addr.mk false 0 0) 0 0) 0 false 0 0 false [] 0, 0, 0, 6)))))))
def rx34 (x : api_Packet × Int × Int × Int) : SRes := ⟨.tuple ⟨[.agg ⟨[.int .i64 x.1.Tuple.Proto, .bool x.1.Tuple.Src.V6, .int .u64 x.1.Tuple.Src.Hi, .int .u64 x.1.Tuple.Src.Lo, .bool x.1.Tuple.Dst.V6, .int .u64 x.1.Tuple.Dst.Hi, .int .u64 x.1.Tuple.Dst.Lo, .int .i64 x.1.Tuple.SPort, .int .i64 x.1.Tuple.DPort, .int .i64 x.1.Flags, .bool x.1.Stamped, .int .u32 x.1.Val, .int .u32 x.1.Echo, .bool x.1.Long, .string ⟨⟨x.1.CID⟩⟩, .int .i64 x.1.Size]⟩, .int .i64 x.2.1, .int .i64 x.2.2.1, .int .i64 x.2.2.2]⟩, [], []⟩
def r34 (g : (List UInt8) → Option (api_Packet × Int × Int × Int)) : Dec := dV asS fun (y0 : List UInt8) => dEnd (ofG (g y0) rx34)
theorem r34_c {g : (List UInt8) → Option (api_Packet × Int × Int × Int)} {y0 : List UInt8} {x : api_Packet × Int × Int × Int} (hx : g y0 = some x) : r34 g [.string ⟨⟨y0⟩⟩] [] = some (rx34 x) := (dV_eq (asS_c)).trans (ofG_eq hx)
def s34 (g : (List UInt8) → Option (api_Packet × Int × Int × Int)) : Summ := ⟨[.v], r34 g⟩
theorem r34_eq {g : (List UInt8) → Option (api_Packet × Int × Int × Int)} {y0 : List UInt8} {x : api_Packet × Int × Int × Int} (hx : g y0 = some x) : (s34 g).run [.string ⟨⟨y0⟩⟩] [] = some (rx34 x) := r34_c hx
abbrev sums34 (packet_opened : (List UInt8) → Option (packet_outer × Int)) (packet_outer_datagram : packet_outer → api_Packet → Option (Int × Int × api_Packet)) (packet_outer_segment : packet_outer → api_Packet → Option (Int × Int × api_Packet)) : List (Nat × Summ) := [(53, s53 packet_opened), (55, s55 packet_outer_datagram), (54, s54 packet_outer_segment)]
theorem leads34 (packet_opened : (List UInt8) → Option (packet_outer × Int)) (packet_outer_datagram : packet_outer → api_Packet → Option (Int × Int × api_Packet)) (packet_outer_segment : packet_outer → api_Packet → Option (Int × Int × api_Packet)) (hS : SumsOK Try.prog (aget (sums34 packet_opened packet_outer_datagram packet_outer_segment))) (s : List UInt8) (res : api_Packet × Int × Int × Int) (h : packet_toldF packet_opened packet_outer_datagram packet_outer_segment s = some res) :
    Leads Try.prog 34 0 ⟨⟨34, 63, [(0, .string ⟨⟨s⟩⟩)], [.code k34_46], [], false, none⟩, [], [], 0⟩ (fun v H _ => Res 0 (rx34 res) v H) := by
  unfold packet_toldF at h
  refine ev_ok tab_ok hS true 3000 ?_
  conv => whnf
  refine br.h h ?_ ?_ ?_
  · rfl
  · clear h; intro hb h; conv => whnf
    all_goals (cases h; exact Res.z rfl rfl rfl)
  clear h; intro hb h; conv => whnf
  refine br.h h ?_ ?_ ?_
  · rfl
  · clear h; intro hb h; conv => whnf
    all_goals (cases h; exact Res.z rfl rfl rfl)
  clear h; intro hb h; conv => whnf
  replace h := obind.elim h; obtain ⟨xo, hy, h⟩ := h
  refine sumK.q rfl rfl (r53_eq hy) rfl rfl rfl ?_
  conv => whnf
  refine br.h h ?_ ?_ ?_
  · rfl
  · clear h; intro hb h; conv => whnf
    all_goals (cases h; exact Res.z rfl rfl rfl)
  clear h; intro hb h; conv => whnf
  refine br.h h ?_ ?_ ?_
  · rfl
  · clear h; intro hb h; conv => whnf
    replace h := obind.elim h; obtain ⟨s1, hy, h⟩ := h
    refine sumK.introF [2] (sumRun_of (aqs := [.agg ⟨[.bool xo.1.src.V6, .int .u64 xo.1.src.Hi, .int .u64 xo.1.src.Lo, .bool xo.1.dst.V6, .int .u64 xo.1.dst.Hi, .int .u64 xo.1.dst.Lo, .int .i64 xo.1.proto, .string ⟨⟨xo.1.body⟩⟩]⟩, .pointer (some ⟨0, 0, none⟩)]) (ws := [.win 2 0 16 true]) (n := 0) (m := 0) (t' := 3) (ra_cons rfl rfl (ra_cons rfl rfl ra_nil)) rfl (by rfl) (r54_eq hy) rfl rfl rfl rfl (wb_win rfl rfl rfl ⟨rfl, Nat.le_of_ble_eq_true rfl⟩ rfl rfl wb_nil) an_nil rfl) ?_
    conv => whnf
    refine br.h h ?_ ?_ ?_
    · rfl
    · clear h; intro hb h; conv => whnf
      all_goals (cases h; exact Res.z rfl rfl rfl)
    clear h; intro hb h; conv => whnf
    all_goals (cases h; exact Res.z rfl rfl rfl)
  clear h; intro hb h; conv => whnf
  refine br.h2 h ?_ ?_ ?_
  · rfl
  · clear h; intro hb h; conv => whnf
    all_goals (cases h; exact Res.z rfl rfl rfl)
  clear h; intro hb h; conv => whnf
  replace h := obind.elim h; obtain ⟨d, hy, h⟩ := h
  refine sumK.introF [2] (sumRun_of (aqs := [.agg ⟨[.bool xo.1.src.V6, .int .u64 xo.1.src.Hi, .int .u64 xo.1.src.Lo, .bool xo.1.dst.V6, .int .u64 xo.1.dst.Hi, .int .u64 xo.1.dst.Lo, .int .i64 xo.1.proto, .string ⟨⟨xo.1.body⟩⟩]⟩, .pointer (some ⟨0, 0, none⟩)]) (ws := [.win 2 0 16 true]) (n := 0) (m := 0) (t' := 3) (ra_cons rfl rfl (ra_cons rfl rfl ra_nil)) rfl (by rfl) (r55_eq hy) rfl rfl rfl rfl (wb_win rfl rfl rfl ⟨rfl, Nat.le_of_ble_eq_true rfl⟩ rfl rfl wb_nil) an_nil rfl) ?_
  conv => whnf
  refine br.h h ?_ ?_ ?_
  · rfl
  · clear h; intro hb h; conv => whnf
    all_goals (cases h; exact Res.z rfl rfl rfl)
  clear h; intro hb h; conv => whnf
  all_goals (cases h; exact Res.z rfl rfl rfl)
theorem ok34 (packet_opened : (List UInt8) → Option (packet_outer × Int)) (packet_outer_datagram : packet_outer → api_Packet → Option (Int × Int × api_Packet)) (packet_outer_segment : packet_outer → api_Packet → Option (Int × Int × api_Packet)) (hS : SumsOK Try.prog (aget (sums34 packet_opened packet_outer_datagram packet_outer_segment))) : SumOK Try.prog 34 (s34 (packet_toldF packet_opened packet_outer_datagram packet_outer_segment)) := by
  refine SumOK.of_leads tab_ok (fun ar os r ha hr => ?_) ⟨Try.f34, rfl, by decide, rfl⟩
  replace hr : r34 (packet_toldF packet_opened packet_outer_datagram packet_outer_segment) ar (conts os) = some r := hr
  unfold r34 at hr
  generalize hc : conts os = C at hr
  replace hr := dV.elim hr; obtain ⟨v0, l1, y0, rfl, e0, hr⟩ := hr; obtain rfl := asS_eq _ _ e0
  replace hr := dFin hr; obtain ⟨rfl, rfl, x, h, rfl⟩ := hr
  obtain rfl := kinds_nil hc
  exact ⟨_, rfl, leads34 packet_opened packet_outer_datagram packet_outer_segment hS _ x h⟩
def packet_told : (List UInt8) → Option (api_Packet × Int × Int × Int) := packet_toldF packet_opened packet_outer_datagram packet_outer_segment
theorem lift34 : SumOK Try.prog 34 (s34 packet_told) := ok34 packet_opened packet_outer_datagram packet_outer_segment (SumsOK.of_tab ⟨lift53, lift55, lift54, trivial⟩)
def packet_ParseF (packet_told : (List UInt8) → Option (api_Packet × Int × Int × Int)) (s : List UInt8) : Option (api_Packet × Int) :=
  (packet_told s).bind fun t =>
  some ((t.1, t.2.2.2))
def rx16 (x : api_Packet × Int) : SRes := ⟨.tuple ⟨[.agg ⟨[.int .i64 x.1.Tuple.Proto, .bool x.1.Tuple.Src.V6, .int .u64 x.1.Tuple.Src.Hi, .int .u64 x.1.Tuple.Src.Lo, .bool x.1.Tuple.Dst.V6, .int .u64 x.1.Tuple.Dst.Hi, .int .u64 x.1.Tuple.Dst.Lo, .int .i64 x.1.Tuple.SPort, .int .i64 x.1.Tuple.DPort, .int .i64 x.1.Flags, .bool x.1.Stamped, .int .u32 x.1.Val, .int .u32 x.1.Echo, .bool x.1.Long, .string ⟨⟨x.1.CID⟩⟩, .int .i64 x.1.Size]⟩, .int .i64 x.2]⟩, [], []⟩
def r16 (g : (List UInt8) → Option (api_Packet × Int)) : Dec := dV asS fun (y0 : List UInt8) => dEnd (ofG (g y0) rx16)
theorem r16_c {g : (List UInt8) → Option (api_Packet × Int)} {y0 : List UInt8} {x : api_Packet × Int} (hx : g y0 = some x) : r16 g [.string ⟨⟨y0⟩⟩] [] = some (rx16 x) := (dV_eq (asS_c)).trans (ofG_eq hx)
def s16 (g : (List UInt8) → Option (api_Packet × Int)) : Summ := ⟨[.v], r16 g⟩
theorem r16_eq {g : (List UInt8) → Option (api_Packet × Int)} {y0 : List UInt8} {x : api_Packet × Int} (hx : g y0 = some x) : (s16 g).run [.string ⟨⟨y0⟩⟩] [] = some (rx16 x) := r16_c hx
abbrev sums16 (packet_told : (List UInt8) → Option (api_Packet × Int × Int × Int)) : List (Nat × Summ) := [(34, s34 packet_told)]
theorem leads16 (packet_told : (List UInt8) → Option (api_Packet × Int × Int × Int)) (hS : SumsOK Try.prog (aget (sums16 packet_told))) (s : List UInt8) (res : api_Packet × Int) (h : packet_ParseF packet_told s = some res) :
    Leads Try.prog 16 0 ⟨⟨16, 17, [(0, .string ⟨⟨s⟩⟩)], [.code k16_5], [], false, none⟩, [], [], 0⟩ (fun v H _ => Res 0 (rx16 res) v H) := by
  unfold packet_ParseF at h
  refine ev_ok tab_ok hS true 3000 ?_
  conv => whnf
  replace h := obind.elim h; obtain ⟨t, hy, h⟩ := h
  refine sumK.q rfl rfl (r34_eq hy) rfl rfl rfl ?_
  conv => whnf
  all_goals (cases h; exact Res.z rfl rfl rfl)
theorem ok16 (packet_told : (List UInt8) → Option (api_Packet × Int × Int × Int)) (hS : SumsOK Try.prog (aget (sums16 packet_told))) : SumOK Try.prog 16 (s16 (packet_ParseF packet_told)) := by
  refine SumOK.of_leads tab_ok (fun ar os r ha hr => ?_) ⟨Try.f16, rfl, by decide, rfl⟩
  replace hr : r16 (packet_ParseF packet_told) ar (conts os) = some r := hr
  unfold r16 at hr
  generalize hc : conts os = C at hr
  replace hr := dV.elim hr; obtain ⟨v0, l1, y0, rfl, e0, hr⟩ := hr; obtain rfl := asS_eq _ _ e0
  replace hr := dFin hr; obtain ⟨rfl, rfl, x, h, rfl⟩ := hr
  obtain rfl := kinds_nil hc
  exact ⟨_, rfl, leads16 packet_told hS _ x h⟩
def packet_Parse : (List UInt8) → Option (api_Packet × Int) := packet_ParseF packet_told
theorem lift16 : SumOK Try.prog 16 (s16 packet_Parse) := ok16 packet_told (SumsOK.of_tab ⟨lift34, trivial⟩)
end Go.Vm.Code
namespace Go.Vm.Code
open Go Go.Vm
def zP : api_Packet := ⟨⟨0, ⟨false, 0, 0⟩, ⟨false, 0, 0⟩, 0, 0⟩, 0, false, 0, 0, false, [], 0⟩
structure O11 where
  src : api_Addr
  dst : api_Addr
  proto : Int
  size : Nat
  body : List UInt8
  err : Int
def zO (e : Int) : O11 := ⟨⟨false, 0, 0⟩, ⟨false, 0, 0⟩, 0, 0, [], e⟩
def open11 (s : List UInt8) : O11 :=
  if vK s 0 1 / 16 = 4 then (if (get5 s).2.2 ≠ 0 then zO (get5 s).2.2 else if s.length ≠ 20 + (get5 s).1.Options.length + (get5 s).2.1.length then zO 5 else ⟨(get5 s).1.Src, (get5 s).1.Dst, (get5 s).1.Proto, 20 + (get5 s).1.Options.length, (get5 s).2.1, 0⟩)
  else if vK s 0 1 / 16 = 6 then (if (get6 s).2.2 ≠ 0 then zO (get6 s).2.2 else if s.length ≠ 40 + (get6 s).2.1.length then zO 5 else ⟨(get6 s).1.Src, (get6 s).1.Dst, (get6 s).1.Next, 40, (get6 s).2.1, 0⟩)
  else zO 3
def st11 (o : List UInt8) : Bool × Int × Int := if 0 ≤ (stamp7 o).2.2 then (true, (stamp7 o).1, (stamp7 o).2.1) else (false, 0, 0)
def qc11 (b : List UInt8) : Bool × List UInt8 := if (getQ b).2 = 0 then ((getQ b).1.Long, (getQ b).1.DCID) else (false, [])
def in11 (o : O11) (n : Nat) : api_Packet × Nat × Int :=
  if o.proto = 6 then (if (get7 o.body o.src o.dst).2.2 ≠ 0 then (zP, 0, (get7 o.body o.src o.dst).2.2) else
      (⟨⟨o.proto, o.src, o.dst, (get7 o.body o.src o.dst).1.SPort, (get7 o.body o.src o.dst).1.DPort⟩, (get7 o.body o.src o.dst).1.Flags, (st11 (get7 o.body o.src o.dst).1.Options).1, (st11 (get7 o.body o.src o.dst).1.Options).2.1, (st11 (get7 o.body o.src o.dst).1.Options).2.2, false, [], n⟩, (get7 o.body o.src o.dst).2.1.length, 0))
  else if o.proto = 17 then (if (get8 o.body o.src o.dst).2.2 ≠ 0 then (zP, 0, (get8 o.body o.src o.dst).2.2) else if (get8 o.body o.src o.dst).2.1.length + 8 ≠ o.body.length then (zP, 0, 5) else
      (⟨⟨o.proto, o.src, o.dst, (get8 o.body o.src o.dst).1.SPort, (get8 o.body o.src o.dst).1.DPort⟩, 0, false, 0, 0, (qc11 (get8 o.body o.src o.dst).2.1).1, (qc11 (get8 o.body o.src o.dst).2.1).2, n⟩, (get8 o.body o.src o.dst).2.1.length, 0))
  else (zP, 0, 6)
def told11 (s : List UInt8) : api_Packet × Nat × Nat × Int :=
  if 9000 < s.length then (zP, 0, 0, 5) else if s = [] then (zP, 0, 0, 2) else if (open11 s).err ≠ 0 then (zP, 0, 0, (open11 s).err) else
    if (in11 (open11 s) s.length).2.2 ≠ 0 then (zP, 0, 0, (in11 (open11 s) s.length).2.2) else
      ((in11 (open11 s) s.length).1, s.length - (open11 s).body.length, s.length - (in11 (open11 s) s.length).2.1, 0)
theorem get5_A4 (s : List UInt8) : A4 (get5 s).1.Src ∧ A4 (get5 s).1.Dst := by
  have z : A4 ⟨false, 0, 0⟩ := ⟨by simp only []; omega, by simp only []; omega, by simp only []; omega, by simp only []; omega⟩
  have k : ∀ p, A4 (adr4 s p) := fun p => by
    have := vK_rng s p 4 4294967296 (by decide)
    exact ⟨Int.le_refl 0, by show (0 : Int) < 2 ^ 64; decide, this.1, by show vK s p 4 < 2 ^ 64; omega⟩
  unfold get5
  split
  · exact ⟨z, z⟩
  split
  · exact ⟨z, z⟩
  split
  · exact ⟨z, z⟩
  split
  · exact ⟨z, z⟩
  split
  · exact ⟨z, z⟩
  split
  · exact ⟨z, z⟩
  split
  · exact ⟨z, z⟩
  exact ⟨k 12, k 16⟩
theorem get6_A4 (s : List UInt8) : A4 (get6 s).1.Src ∧ A4 (get6 s).1.Dst := by
  have z : A4 ⟨false, 0, 0⟩ := ⟨by simp only []; omega, by simp only []; omega, by simp only []; omega, by simp only []; omega⟩
  have k : ∀ p, A4 (addrG ((s.drop p).take 16)) := fun p => by
    have h1 : valL (((s.drop p).take 16).take 8) < 2 ^ 64 := val_take_lt _ (by decide)
    have h2 : valL (((s.drop p).take 16).drop 8) < 2 ^ 64 := by
      have := val_lt (((s.drop p).take 16).drop 8)
      refine Nat.lt_of_lt_of_le this ?_
      have : (((s.drop p).take 16).drop 8).length ≤ 8 := by simp; omega
      exact Nat.pow_le_pow_right (n := 256) (by decide) this
    unfold addrG
    exact ⟨by simp only []; omega, by simp only []; omega, by simp only []; omega, by simp only []; omega⟩
  unfold get6
  split
  · exact ⟨z, z⟩
  split
  · exact ⟨z, z⟩
  split
  · exact ⟨z, z⟩
  exact ⟨k 8, k 24⟩
theorem open11_A4 (s : List UInt8) : A4 (open11 s).src ∧ A4 (open11 s).dst := by
  have z : A4 ⟨false, 0, 0⟩ := ⟨by simp only []; omega, by simp only []; omega, by simp only []; omega, by simp only []; omega⟩
  unfold open11 zO
  split
  · split
    · exact ⟨z, z⟩
    split
    · exact ⟨z, z⟩
    exact get5_A4 s
  split
  · split
    · exact ⟨z, z⟩
    split
    · exact ⟨z, z⟩
    exact get6_A4 s
  exact ⟨z, z⟩
theorem open11_body {s : List UInt8} (h : (open11 s).err = 0) : (open11 s).body.length + (open11 s).size = s.length := by
  unfold open11 at h ⊢
  by_cases g1 : vK s 0 1 / 16 = 4
  · rw [if_pos g1] at h ⊢
    by_cases g2 : (get5 s).2.2 ≠ 0
    · rw [if_pos g2] at h; exact absurd h g2
    rw [if_neg g2] at h ⊢
    by_cases g3 : s.length ≠ 20 + (get5 s).1.Options.length + (get5 s).2.1.length
    · rw [if_pos g3] at h; exact absurd h (by decide)
    rw [if_neg g3]
    simp only []; omega
  rw [if_neg g1] at h ⊢
  by_cases g4 : vK s 0 1 / 16 = 6
  · rw [if_pos g4] at h ⊢
    by_cases g2 : (get6 s).2.2 ≠ 0
    · rw [if_pos g2] at h; exact absurd h g2
    rw [if_neg g2] at h ⊢
    by_cases g3 : s.length ≠ 40 + (get6 s).2.1.length
    · rw [if_pos g3] at h; exact absurd h (by decide)
    rw [if_neg g3]
    simp only []; omega
  · rw [if_neg g4] at h; exact absurd h (by decide)
theorem told11_zero {s : List UInt8} (h : (told11 s).2.2.2 ≠ 0) : told11 s = (zP, 0, 0, (told11 s).2.2.2) := by
  unfold told11 at h ⊢
  split
  · rfl
  rename_i g1
  rw [if_neg g1] at h
  split
  · rfl
  rename_i g2
  rw [if_neg g2] at h
  split
  · rfl
  rename_i g3
  rw [if_neg g3] at h
  split
  · rfl
  rename_i g4
  rw [if_neg g4] at h
  exact absurd rfl h
def o11 (o : O11) : packet_outer := ⟨o.src, o.dst, o.proto, o.body⟩
theorem opened_eq {s : List UInt8} (hs : s.length < 2 ^ 19) (hn : s ≠ []) : packet_opened s = some (o11 (open11 s), (open11 s).err) := by
  unfold packet_opened packet_openedF
  have h0 : 0 < s.length := List.length_pos_iff.2 hn
  have e0 := vK_one (s := s) (p := 0) h0
  have r0 := vK_rng s 0 1 256 (by decide)
  rw [List.getElem?_eq_getElem h0, Option.bind_some, ← e0, fdivP, show ((2 : Int) ^ 4) = 16 from rfl, g5_eq (by omega), get6_eq (by omega), Option.bind_some, Option.bind_some]
  unfold open11
  by_cases g1 : vK s 0 1 / 16 = 4
  · rw [if_pos g1, show (vK s 0 1 / 16 == 4) = true by simpa using g1, cond_true]
    by_cases g2 : (get5 s).2.2 = 0
    · have hb : (get5 s).1.Options.length ≤ s.length ∧ (get5 s).2.1.length ≤ s.length := by
        unfold get5
        repeat' split
        all_goals simp [zero5]
        omega
      rw [if_neg (by simpa using g2), show ((get5 s).2.2 != 0) = false by simpa using g2, cond_false, wI64 (n := 20 + ((get5 s).1.Options.length : Int)) (by omega) (by omega)]
      simp only []
      rw [wI64 (n := 20 + ((get5 s).1.Options.length : Int) + ((get5 s).2.1.length : Int)) (by omega) (by omega)]
      by_cases g3 : s.length = 20 + (get5 s).1.Options.length + (get5 s).2.1.length
      · rw [if_neg (by simpa using g3), show ((s.length : Int) != 20 + ((get5 s).1.Options.length : Int) + ((get5 s).2.1.length : Int)) = false by simp; omega]; rfl
      · rw [if_pos g3, show ((s.length : Int) != 20 + ((get5 s).1.Options.length : Int) + ((get5 s).2.1.length : Int)) = true by simp; omega]; rfl
    · rw [if_pos g2, show ((get5 s).2.2 != 0) = true by simpa using g2, cond_true]; rfl
  · rw [if_neg g1, show (vK s 0 1 / 16 == 4) = false by simpa using g1, cond_false]
    by_cases g4 : vK s 0 1 / 16 = 6
    · rw [if_pos g4, show (vK s 0 1 / 16 == 6) = true by simpa using g4, cond_true]
      by_cases g2 : (get6 s).2.2 = 0
      · have hb : (get6 s).2.1.length ≤ s.length := by
          unfold get6
          repeat' split
          all_goals simp
          omega
        rw [if_neg (by simpa using g2), show ((get6 s).2.2 != 0) = false by simpa using g2, cond_false, wI64 (n := 40 + ((get6 s).2.1.length : Int)) (by omega) (by omega)]
        by_cases g3 : s.length = 40 + (get6 s).2.1.length
        · rw [if_neg (by simpa using g3), show ((s.length : Int) != 40 + ((get6 s).2.1.length : Int)) = false by simp; omega]; rfl
        · rw [if_pos g3, show ((s.length : Int) != 40 + ((get6 s).2.1.length : Int)) = true by simp; omega]; rfl
      · rw [if_pos g2, show ((get6 s).2.2 != 0) = true by simpa using g2, cond_true]; rfl
    · rw [if_neg g4, show (vK s 0 1 / 16 == 6) = false by simpa using g4, cond_false]; rfl
theorem seg_eq {o : O11} {n : Nat} (h1 : A4 o.src) (h2 : A4 o.dst) (hb : o.body.length < 2 ^ 19) (hp : o.proto = 6) : ∃ q, packet_outer_segment (o11 o) ⟨⟨o.proto, o.src, o.dst, 0, 0⟩, 0, false, 0, 0, false, [], (n : Int)⟩ = some (((in11 o n).2.1 : Int), (in11 o n).2.2, q) ∧ ((in11 o n).2.2 = 0 → q = (in11 o n).1) := by
  unfold packet_outer_segment packet_outer_segmentF in11 o11
  rw [if_pos hp]
  simp only []
  rw [t7get_eq h1 h2 (by omega), Option.bind_some]
  by_cases g : (get7 o.body o.src o.dst).2.2 = 0
  · have ho : (get7 o.body o.src o.dst).1.Options.length < 2 ^ 20 := by
      unfold get7
      repeat' split
      all_goals simp [zero7]
      all_goals omega
    rw [if_neg (by simpa using g), show ((get7 o.body o.src o.dst).2.2 != 0) = false by simpa using g, cond_false, t7st_eq ho, Option.bind_some]
    unfold st11
    by_cases g2 : 0 ≤ (stamp7 (get7 o.body o.src o.dst).1.Options).2.2
    · rw [if_pos g2, cond_p (by omega)]
      exact ⟨_, rfl, fun _ => rfl⟩
    · rw [if_neg g2, cond_n (by omega)]
      exact ⟨_, rfl, fun _ => rfl⟩
  · rw [if_pos g, show ((get7 o.body o.src o.dst).2.2 != 0) = true by simpa using g, cond_true]
    exact ⟨_, rfl, fun h => absurd h g⟩
theorem dat_eq {o : O11} {n : Nat} (h1 : A4 o.src) (h2 : A4 o.dst) (hb : o.body.length < 2 ^ 19) (hp : o.proto = 17) : ∃ q, packet_outer_datagram (o11 o) ⟨⟨o.proto, o.src, o.dst, 0, 0⟩, 0, false, 0, 0, false, [], (n : Int)⟩ = some (((in11 o n).2.1 : Int), (in11 o n).2.2, q) ∧ ((in11 o n).2.2 = 0 → q = (in11 o n).1) := by
  unfold packet_outer_datagram packet_outer_datagramF in11 o11
  rw [if_neg (by omega), if_pos hp]
  simp only []
  rw [uget_eq h1 h2 (by omega), Option.bind_some]
  by_cases g : (get8 o.body o.src o.dst).2.2 = 0
  · have ho : (get8 o.body o.src o.dst).2.1.length < 2 ^ 20 := by
      unfold get8
      repeat' split
      all_goals simp
      all_goals omega
    rw [if_neg (by simpa using g), show ((get8 o.body o.src o.dst).2.2 != 0) = false by simpa using g, cond_false, wI64 (n := (o.body.length : Int) - 8) (by omega) (by omega)]
    by_cases g2 : (get8 o.body o.src o.dst).2.1.length + 8 = o.body.length
    · rw [if_neg (by simpa using g2), show (((get8 o.body o.src o.dst).2.1.length : Int) != (o.body.length : Int) - 8) = false by simp; omega, cond_false, qgetQ_eq (by omega), Option.bind_some]
      unfold qc11
      by_cases g3 : (getQ (get8 o.body o.src o.dst).2.1).2 = 0
      · rw [if_pos g3, show ((getQ (get8 o.body o.src o.dst).2.1).2 == 0) = true by simpa using g3, cond_true]
        exact ⟨_, rfl, fun _ => rfl⟩
      · rw [if_neg g3, show ((getQ (get8 o.body o.src o.dst).2.1).2 == 0) = false by simpa using g3, cond_false]
        exact ⟨_, rfl, fun _ => rfl⟩
    · rw [if_pos g2, show (((get8 o.body o.src o.dst).2.1.length : Int) != (o.body.length : Int) - 8) = true by simp; omega, cond_true]
      exact ⟨_, rfl, fun h => absurd h (by decide)⟩
  · rw [if_pos g, show ((get8 o.body o.src o.dst).2.2 != 0) = true by simpa using g, cond_true]
    exact ⟨_, rfl, fun h => absurd h g⟩
def told11L (s : List UInt8) : api_Packet × Int × Int × Int :=
  if (told11 s).2.2.2 ≠ 0 then (zP, 0, 0, (told11 s).2.2.2) else ((told11 s).1, ((s.length - (told11 s).2.1 : Nat) : Int), ((s.length - (told11 s).2.2.1 : Nat) : Int), 0)
theorem in11_len {o : O11} {n : Nat} : (in11 o n).2.1 ≤ o.body.length := by
  unfold in11
  split
  · split
    · simp
    · show (get7 o.body o.src o.dst).2.1.length ≤ _
      unfold get7
      repeat' split
      all_goals simp
  split
  · split
    · simp
    split
    · simp
    · show (get8 o.body o.src o.dst).2.1.length ≤ _
      unfold get8
      repeat' split
      all_goals simp
      all_goals omega
  · simp
theorem ptold_eq {s : List UInt8} (hs : s.length < 2 ^ 19) : packet_told s = some (told11L s) := by
  unfold packet_told packet_toldF
  have hz : (⟨⟨0, ⟨false, 0, 0⟩, ⟨false, 0, 0⟩, 0, 0⟩, 0, false, 0, 0, false, [], 0⟩ : api_Packet) = zP := rfl
  rw [hz]
  by_cases g1 : 9000 < s.length
  · have hT : told11 s = (zP, 0, 0, 5) := by unfold told11; rw [if_pos g1]
    unfold told11L
    rw [cond_p (by omega), hT]; rfl
  rw [cond_n (by omega)]
  by_cases g2 : s = []
  · subst g2; rfl
  rw [show (s == []) = false by simpa using g2, cond_false, opened_eq hs g2, Option.bind_some]
  obtain ⟨a1, a2⟩ := open11_A4 s
  by_cases g3 : (open11 s).err = 0
  · have hb := open11_body g3
    have hil := in11_len (o := open11 s) (n := s.length)
    have hE : (in11 (open11 s) s.length).2.2 ≠ 0 → told11L s = (zP, 0, 0, (in11 (open11 s) s.length).2.2) := fun g4 => by
      have hT : told11 s = (zP, 0, 0, (in11 (open11 s) s.length).2.2) := by unfold told11; rw [if_neg g1, if_neg g2, if_neg (by simpa using g3), if_pos g4]
      unfold told11L
      rw [hT, if_pos g4]
    have hO : (in11 (open11 s) s.length).2.2 = 0 → told11L s = ((in11 (open11 s) s.length).1, ((open11 s).body.length : Int), ((in11 (open11 s) s.length).2.1 : Int), 0) := fun g4 => by
      have hT : told11 s = ((in11 (open11 s) s.length).1, s.length - (open11 s).body.length, s.length - (in11 (open11 s) s.length).2.1, 0) := by unfold told11; rw [if_neg g1, if_neg g2, if_neg (by simpa using g3), if_neg (by simpa using g4)]
      unfold told11L
      rw [hT, if_neg (by simp)]
      simp only []
      rw [show s.length - (s.length - (open11 s).body.length) = (open11 s).body.length by omega, show s.length - (s.length - (in11 (open11 s) s.length).2.1) = (in11 (open11 s) s.length).2.1 by omega]
    simp only [g3, bne_self_eq_false, cond_false]
    by_cases p6 : (open11 s).proto = 6
    · obtain ⟨q, q1, q2⟩ := seg_eq (o := open11 s) (n := s.length) a1 a2 (by omega) p6
      have e6 : ((o11 (open11 s)).proto == 6) = true := by show ((open11 s).proto == 6) = true; simpa using p6
      rw [e6, cond_true]
      show (packet_outer_segment (o11 (open11 s)) ⟨⟨(open11 s).proto, (open11 s).src, (open11 s).dst, 0, 0⟩, 0, false, 0, 0, false, [], (s.length : Int)⟩).bind _ = _
      rw [q1, Option.bind_some]
      simp only []
      by_cases g4 : (in11 (open11 s) s.length).2.2 = 0
      · rw [hO g4, g4, q2 g4]; rfl
      · rw [hE g4, show ((in11 (open11 s) s.length).2.2 != 0) = true by simpa using g4]; rfl
    · have e6 : ((o11 (open11 s)).proto == 6) = false := by show ((open11 s).proto == 6) = false; simpa using p6
      rw [e6, cond_false]
      by_cases p17 : (open11 s).proto = 17
      · obtain ⟨q, q1, q2⟩ := dat_eq (o := open11 s) (n := s.length) a1 a2 (by omega) p17
        have e17 : ((o11 (open11 s)).proto == 17) = true := by show ((open11 s).proto == 17) = true; simpa using p17
        rw [e17, cond_true]
        show (packet_outer_datagram (o11 (open11 s)) ⟨⟨(open11 s).proto, (open11 s).src, (open11 s).dst, 0, 0⟩, 0, false, 0, 0, false, [], (s.length : Int)⟩).bind _ = _
        rw [q1, Option.bind_some]
        simp only []
        by_cases g4 : (in11 (open11 s) s.length).2.2 = 0
        · rw [hO g4, g4, q2 g4]; rfl
        · rw [hE g4, show ((in11 (open11 s) s.length).2.2 != 0) = true by simpa using g4]; rfl
      · have e17 : ((o11 (open11 s)).proto == 17) = false := by show ((open11 s).proto == 17) = false; simpa using p17
        have e6' : (in11 (open11 s) s.length).2.2 = 6 := by unfold in11; rw [if_neg p6, if_neg p17]
        rw [e17, cond_false, hE (by rw [e6']; decide), e6']
  · have hT : told11 s = (zP, 0, 0, (open11 s).err) := by unfold told11; rw [if_neg g1, if_neg g2, if_pos g3]
    unfold told11L
    rw [hT, if_pos g3, show ((open11 s).err != 0) = true by simpa using g3]; rfl
theorem parse_eq {s : List UInt8} (hs : s.length < 2 ^ 19) : packet_Parse s = some ((told11 s).1, (told11 s).2.2.2) := by
  unfold packet_Parse packet_ParseF
  rw [ptold_eq hs, Option.bind_some]
  unfold told11L
  by_cases g : (told11 s).2.2.2 = 0
  · rw [if_neg (by simpa using g), g]
  · rw [if_pos g, told11_zero g]
theorem wsum_set : ∀ (s : List UInt8) (i : Nat) (h : i < s.length) (b : UInt8), wsum (s.set i b) + s[i].toNat * (if i % 2 = 0 then 256 else 1) = wsum s + b.toNat * (if i % 2 = 0 then 256 else 1)
  | [], i, h, b => by simp at h
  | [x], i, h, b => by
    have : i = 0 := by simp at h; omega
    subst this
    simp [wsum]; omega
  | x :: y :: l, 0, h, b => by simp [wsum]; omega
  | x :: y :: l, 1, h, b => by simp [wsum]; omega
  | x :: y :: l, i + 2, h, b => by
    have := wsum_set l i (by simpa using h) b
    have e : (i + 2) % 2 = i % 2 := by omega
    simp only [List.set_cons_succ, wsum, List.getElem_cons_succ, e]
    omega
theorem xor_bit : ∀ x : Fin 256, ∀ j : Fin 8, x.val ^^^ 2 ^ j.val = x.val + 2 ^ j.val ∨ x.val = (x.val ^^^ 2 ^ j.val) + 2 ^ j.val := by decide +kernel
theorem xor_lt : ∀ x : Fin 256, ∀ j : Fin 8, x.val ^^^ 2 ^ j.val < 256 := by decide +kernel
theorem xorI_bit : ∀ x : Fin 256, ∀ j : Fin 8, ixorI .u8 (x.val : Int) (wI .u8 (1 * 2 ^ (min j.val 8))) = ((x.val ^^^ 2 ^ j.val : Nat) : Int) := by decide +kernel
def flipB (b : UInt8) (j : Nat) : UInt8 := UInt8.ofNat (b.toNat ^^^ 2 ^ j)
theorem flipB_nat {b : UInt8} {j : Nat} (hj : j < 8) : (flipB b j).toNat = b.toNat ^^^ 2 ^ j := by
  have := xor_lt ⟨b.toNat, b.toNat_lt⟩ ⟨j, hj⟩
  simp only at this
  unfold flipB
  simp only [UInt8.toNat_ofNat']
  omega
theorem wsum_flip {s : List UInt8} {i j : Nat} (h : i < s.length) (hj : j < 8) : ∃ d, 1 ≤ d ∧ d ≤ 32768 ∧ (wsum (s.set i (flipB s[i] j)) = wsum s + d ∨ wsum s = wsum (s.set i (flipB s[i] j)) + d) := by
  have hw := wsum_set s i h (flipB s[i] j)
  rw [flipB_nat hj] at hw
  have hx := xor_bit ⟨s[i].toNat, s[i].toNat_lt⟩ ⟨j, hj⟩
  simp only at hx
  generalize s[i].toNat ^^^ 2 ^ j = y at hw hx
  generalize wsum (s.set i (flipB s[i] j)) = W at *
  obtain ⟨p, hp, h1, h2⟩ : ∃ p : Nat, 2 ^ j = p ∧ 1 ≤ p ∧ p ≤ 128 := by
    refine ⟨2 ^ j, rfl, Nat.one_le_two_pow, ?_⟩
    exact Nat.le_trans (Nat.pow_le_pow_right (by decide) (show j ≤ 7 by omega)) (by decide)
  rw [hp] at hx
  by_cases he : i % 2 = 0
  · rw [if_pos he] at hw
    exact ⟨p * 256, by omega, by omega, by omega⟩
  · rw [if_neg he] at hw
    exact ⟨p, by omega, by omega, by omega⟩
theorem flip_row {s : List UInt8} {i j : Nat} {e : Int} (h : i < s.length) (hj : j < 8) (he : e = (s[i].toNat : Int)) : iB (((bI s).set i (ixorI .u8 e (wI .u8 (1 * 2 ^ (min j 8))))).take s.length) = s.set i (flipB s[i] j) := by
  subst he
  have hx := xorI_bit ⟨s[i].toNat, s[i].toNat_lt⟩ ⟨j, hj⟩
  simp only at hx
  rw [hx, List.take_of_length_le (by simp)]
  unfold iB bI flipB
  rw [List.map_set]
  simp [List.map_map, Function.comp_def]
theorem bI_get {s : List UInt8} {i : Nat} (h : i < s.length) : (bI s)[i]? = some (s[i].toNat : Int) := by simp [bI, h]
theorem slice_set {s : List UInt8} {i p k : Nat} {b : UInt8} (h : i < p ∨ p + k ≤ i) : ((s.set i b).drop p).take k = (s.drop p).take k := by
  apply List.ext_getElem?
  intro x
  simp only [List.getElem?_take, List.getElem?_drop, List.getElem?_set]
  split
  · rw [if_neg (by omega)]
  · rfl
theorem get_put {h : ipfour_Head} {l more : List UInt8} (hh : H5 h = true) (h1 : A4 h.Src) (h2 : A4 h.Dst) (hl : 20 + h.Options.length + l.length ≤ 65535) : get5 (hc5 h (20 + h.Options.length + l.length) (ck5 h (20 + h.Options.length + l.length)) ++ (l ++ more)) = (h, l, 0) := by
  obtain ⟨q1, q2, q3, q4, q5, q6, q7, q8⟩ := H5_inv hh
  generalize hn : 20 + h.Options.length + l.length = n at *
  obtain ⟨c1, c2, c3⟩ := ck5_ok h n
  generalize ck5 h n = c at *
  have hlen := hc5_len h n c
  obtain ⟨p0, p1, p2, p4, p6, p8, p9, p12, p16, p20, _, _⟩ := hc5_parts h n c (l ++ more)
  have s5 := q5.2
  have d5 := q6.2
  unfold aok at s5 d5
  rw [q5.1] at s5
  rw [q6.1] at d5
  simp only [Bool.false_or, Bool.and_eq_true, beq_iff_eq, decide_eq_true_eq] at s5 d5
  obtain ⟨_, _, h1c, _⟩ := h1
  obtain ⟨_, _, h2c, _⟩ := h2
  have v0 := vK_of p0 rfl (by omega)
  have v1 := vK_of p1 rfl (by omega)
  have v2 := vK_of p2 rfl (by omega)
  have v4 := vK_of p4 rfl (by omega)
  have v6 := vK_of p6 (wflag h.Whole) (by cases h.Whole <;> decide)
  have v8 := vK_of p8 rfl (by omega)
  have v9 := vK_of p9 rfl (by omega)
  have v12 := vK_of p12 rfl (by omega)
  have v16 := vK_of p16 rfl (by omega)
  have ht : (((64 + (20 + h.Options.length) / 4 : Nat) : Int) % 16 * 4) = ((20 + h.Options.length : Nat) : Int) := by omega
  unfold get5 adr4
  rw [v0, v1, v2, v4, v6, v8, v9, v12, v16, ht, Int.toNat_natCast, Int.toNat_natCast, p20]
  rw [if_neg (by simp only [List.length_append]; omega), if_neg (by omega), if_neg (by omega), if_neg (by omega), if_neg (by simp only [List.length_append]; omega), show (hc5 h n c ++ (l ++ more)).take (20 + h.Options.length) = hc5 h n c by rw [← hlen]; exact List.take_left, norm_zero_mod c2 c3, if_neg (by decide), if_neg (by cases h.Whole <;> simp)]
  rw [show 20 + h.Options.length - 20 = h.Options.length by omega, List.take_left, show (hc5 h n c ++ (l ++ more)).drop (20 + h.Options.length) = l ++ more by rw [← hlen]; exact List.drop_left, show n - (20 + h.Options.length) = l.length by omega, List.take_left]
  obtain ⟨cl, mk, wh, tt, pr, ⟨sv, sh, sl⟩, ⟨dv, dh, dl⟩, op⟩ := h
  simp only at q1 q2 q3 q4 q5 q6 s5 d5 h1c h2c ⊢
  obtain ⟨rfl, _⟩ := s5
  obtain ⟨rfl, _⟩ := d5
  rw [q5.1, q6.1, Int.toNat_of_nonneg q1.1, Int.toNat_of_nonneg q2.1, Int.toNat_of_nonneg q3.1, Int.toNat_of_nonneg q4.1, Int.toNat_of_nonneg h1c, Int.toNat_of_nonneg h2c]
  cases wh <;> rfl
theorem get_flip {h : ipfour_Head} {l : List UInt8} {i j : Nat} (ho : h.Options.length ≤ 40) (ho4 : h.Options.length % 4 = 0) (n : Nat) (hi : i < (hc5 h n (ck5 h n) ++ l).length) (hj : j < 8) (hi1 : 1 ≤ i) (hi2 : i < 20 + h.Options.length) : (get5 ((hc5 h n (ck5 h n) ++ l).set i (flipB (hc5 h n (ck5 h n) ++ l)[i] j))).2.2 ≠ 0 := by
  obtain ⟨c1, c2, c3⟩ := ck5_ok h n
  generalize ck5 h n = c at *
  have hlen := hc5_len h n c
  obtain ⟨p0, _⟩ := hc5_parts h n c l
  have v0 := vK_of p0 rfl (by omega)
  have u0 : vK ((hc5 h n c ++ l).set i (flipB (hc5 h n c ++ l)[i] j)) 0 1 = ((64 + (20 + h.Options.length) / 4 : Nat) : Int) := by rw [← v0]; unfold vK; rw [slice_set (by omega)]
  have ht : (((64 + (20 + h.Options.length) / 4 : Nat) : Int) % 16 * 4) = ((20 + h.Options.length : Nat) : Int) := by omega
  have hih : i < (hc5 h n c).length := by omega
  have es : ((hc5 h n c ++ l).set i (flipB (hc5 h n c ++ l)[i] j)).take (20 + h.Options.length) = (hc5 h n c).set i (flipB (hc5 h n c)[i] j) := by
    rw [List.getElem_append_left hih, List.set_append_left _ _ hih, List.take_append_of_le_length (by rw [List.length_set]; omega), List.take_of_length_le (by rw [List.length_set]; omega)]
  obtain ⟨d, d1, d2, d3⟩ := wsum_flip hih hj
  have hne : norm (wsum ((hc5 h n c).set i (flipB (hc5 h n c)[i] j))) ≠ 65535 := by
    intro hx
    have m1 := norm_mod (wsum ((hc5 h n c).set i (flipB (hc5 h n c)[i] j)))
    rw [hx] at m1
    omega
  unfold get5
  rw [u0, ht, Int.toNat_natCast, es]
  split
  · decide
  split
  · decide
  split
  · decide
  split
  · decide
  split
  · decide
  first | decide | (rw [if_pos hne]; decide)
theorem get6_head {h : ipsix_Head} {n : Nat} {r : List UInt8} (hh : H6 h) (hs : AddrOK h.Src) (hd : AddrOK h.Dst) (hn : n ≤ 65535) : get6 (headB h n ++ r) = if r.length < n then (zero6, [], 2) else (h, r.take n, 0) := by
  obtain ⟨a, b, c, d, e, f⟩ := hh
  have hl := headB_len h n
  obtain ⟨p1, p2, p3, p4, p5, p6, p7⟩ := parts6 (a := be (6 * 2 ^ 28 + h.Class.toNat * 2 ^ 20 + h.Label.toNat) 4) (b := be n 2) (c := be h.Next.toNat 1) (d := be h.Hop.toNat 1) (e := addrB h.Src) (f := addrB h.Dst) (r := r) (by simp) (by simp) (by simp) (by simp) (by simp [addrB]) (by simp [addrB])
  have hv : valL ((headB h n ++ r).take 4) = 6 * 2 ^ 28 + h.Class.toNat * 2 ^ 20 + h.Label.toNat := by
    unfold headB; rw [p1, val_be_lt (by omega)]
  have hw : valL (((headB h n ++ r).drop 4).take 2) = n := by unfold headB; rw [p2, val_be_lt (by omega)]
  unfold get6
  rw [if_neg (by simp; omega), hv, if_neg (by omega), hw]
  have hlen : (headB h n ++ r).length - 40 = r.length := by simp; omega
  rw [hlen]
  by_cases hr : r.length < n
  · rw [if_pos hr, if_pos hr]
  rw [if_neg hr, if_neg hr]
  have e40 : (headB h n ++ r).drop 40 = r := p7
  rw [e40]
  unfold head6
  rw [hv]
  unfold headB
  rw [p3, p4, p5, p6, addrG_addrB hs e, addrG_addrB hd f, val_be_lt (by omega), val_be_lt (by omega)]
  have e1 : (((6 * 2 ^ 28 + h.Class.toNat * 2 ^ 20 + h.Label.toNat) / 2 ^ 20 % 256 : Nat) : Int) = h.Class := by omega
  have e2 : (((6 * 2 ^ 28 + h.Class.toNat * 2 ^ 20 + h.Label.toNat) % 2 ^ 20 : Nat) : Int) = h.Label := by omega
  simp only []
  rw [e1, e2, Int.toNat_of_nonneg c.1, Int.toNat_of_nonneg d.1]
theorem parts7 {a b n m f g t c u r : List UInt8} (ha : a.length = 2) (hb : b.length = 2) (hn : n.length = 4) (hm : m.length = 4) (hf : f.length = 1) (hg : g.length = 1) (ht : t.length = 2) (hc : c.length = 2) (hu : u.length = 2) :
    let s := a ++ b ++ n ++ m ++ f ++ g ++ t ++ (c ++ (u ++ r))
    (s.drop 0).take 2 = a ∧ (s.drop 2).take 2 = b ∧ (s.drop 4).take 4 = n ∧ (s.drop 8).take 4 = m ∧ (s.drop 12).take 1 = f ∧ (s.drop 13).take 1 = g ∧ (s.drop 14).take 2 = t ∧ (s.drop 16).take 2 = c ∧ (s.drop 18).take 2 = u ∧ s.drop 20 = r := by
  obtain ⟨a1, a2, rfl⟩ := l2 ha
  obtain ⟨b1, b2, rfl⟩ := l2 hb
  obtain ⟨n1, n2, n3, n4, rfl⟩ := l4 hn
  obtain ⟨m1, m2, m3, m4, rfl⟩ := l4 hm
  obtain ⟨f1, rfl⟩ := l1 hf
  obtain ⟨g1, rfl⟩ := l1 hg
  obtain ⟨t1, t2, rfl⟩ := l2 ht
  obtain ⟨c1, c2, rfl⟩ := l2 hc
  obtain ⟨u1, u2, rfl⟩ := l2 hu
  exact ⟨rfl, rfl, rfl, rfl, rfl, rfl, rfl, rfl, rfl, rfl⟩
theorem hc7_parts (h : tcp_Head) (c : Nat) (r : List UInt8) : let s := hc7 h c ++ r
    (s.drop 0).take 2 = be h.SPort.toNat 2 ∧ (s.drop 2).take 2 = be h.DPort.toNat 2 ∧ (s.drop 4).take 4 = be h.Seq.toNat 4 ∧ (s.drop 8).take 4 = be h.Ack.toNat 4 ∧ (s.drop 12).take 1 = be (4 * (20 + h.Options.length)) 1 ∧ (s.drop 13).take 1 = be h.Flags.toNat 1 ∧ (s.drop 14).take 2 = be h.Window.toNat 2 ∧ (s.drop 16).take 2 = be c 2 ∧ (s.drop 18).take 2 = be h.Urgent.toNat 2 ∧ s.drop 20 = h.Options ++ r := by
  rw [hc7_app]
  unfold ha7
  exact parts7 (be_len _ _) (be_len _ _) (be_len _ _) (be_len _ _) (be_len _ _) (be_len _ _) (be_len _ _) (be_len _ _) (be_len _ _)
theorem get_put7 {h : tcp_Head} {src dst : api_Addr} {l : List UInt8} (hh : H7 h = true) (hw : W7 h) (ho : (opt7 h.Options).2 = 0) (hp : pseu src dst 6 (20 + h.Options.length + l.length) ≠ []) : get7 (hc7 h (ck7 (pseu src dst 6 (20 + h.Options.length + l.length)) h l) ++ l) src dst = (h, l, 0) := by
  obtain ⟨q1, q2, q3, q4, q5, q6, q7⟩ := H7_inv hh
  obtain ⟨w1, w2⟩ := hw
  have pe := pseu_even src dst 6 (20 + h.Options.length + l.length)
  generalize hpp : pseu src dst 6 (20 + h.Options.length + l.length) = p at *
  obtain ⟨c1, c2, c3⟩ := ck7_ok pe h l
  generalize ck7 p h l = c at *
  have hlen := hc7_len h c
  obtain ⟨p0, p2, p4, p8, p12, p13, p14, p16, p18, p20⟩ := hc7_parts h c l
  have v0 := vK_of p0 rfl (by omega)
  have v2 := vK_of p2 rfl (by omega)
  have v4 := vK_of p4 rfl (by omega)
  have v8 := vK_of p8 rfl (by omega)
  have v12 := vK_of p12 rfl (by omega)
  have v13 := vK_of p13 rfl (by omega)
  have v14 := vK_of p14 rfl (by omega)
  have v18 := vK_of p18 rfl (by omega)
  have ht : (4 * (((4 * (20 + h.Options.length) : Nat) : Int) / 16)) = ((20 + h.Options.length : Nat) : Int) := by omega
  unfold get7
  have hl : (((hc7 h c ++ l).length : Nat) : Int) = 20 + h.Options.length + l.length := by rw [List.length_append, hlen]; omega
  rw [v0, v2, v4, v8, v12, v13, v14, v18, ht, Int.toNat_natCast, p20, hl, hpp]
  have hdr : (hc7 h c ++ l).drop (20 + h.Options.length) = l := by rw [← hlen]; exact List.drop_left
  rw [if_neg (by simp only [List.length_append]; omega), if_neg (by omega), if_neg (by omega), if_neg (by omega), if_neg hp, norm_zero_mod c2 c3, if_neg (by decide), show 20 + h.Options.length - 20 = h.Options.length by omega, List.take_left, if_neg (by simpa using ho), hdr]
  obtain ⟨sp, dp, sq, ak, fl, wi, ur, op⟩ := h
  simp only at q1 q2 q3 q4 q5 w1 w2 ⊢
  rw [Int.toNat_of_nonneg q1.1, Int.toNat_of_nonneg q2.1, Int.toNat_of_nonneg q3.1, Int.toNat_of_nonneg q4.1, Int.toNat_of_nonneg q5.1, Int.toNat_of_nonneg w1.1, Int.toNat_of_nonneg w2.1]
theorem first6 (t : api_Tuple) (n : Nat) (r : List UInt8) : vK (headB (h6of t) n ++ r) 0 1 = 96 := by
  obtain ⟨p1, _⟩ := parts6 (a := be (6 * 2 ^ 28 + (h6of t).Class.toNat * 2 ^ 20 + (h6of t).Label.toNat) 4) (b := be n 2) (c := be (h6of t).Next.toNat 1) (d := be (h6of t).Hop.toNat 1) (e := addrB (h6of t).Src) (f := addrB (h6of t).Dst) (r := r) (by simp) (by simp) (by simp) (by simp) (by simp [addrB]) (by simp [addrB])
  have e : be (6 * 2 ^ 28 + (h6of t).Class.toNat * 2 ^ 20 + (h6of t).Label.toNat) 4 ++ be n 2 ++ be (h6of t).Next.toNat 1 ++ be (h6of t).Hop.toNat 1 ++ addrB (h6of t).Src ++ addrB (h6of t).Dst ++ r = headB (h6of t) n ++ r := rfl
  rw [e] at p1
  unfold vK
  have : ((headB (h6of t) n ++ r).drop 0).take 1 = ((headB (h6of t) n ++ r).take 4).take 1 := by rw [List.drop_zero, List.take_take]; rfl
  rw [this, p1, show (h6of t).Class.toNat = 0 from rfl, show (h6of t).Label.toNat = 0 from rfl]; rfl
theorem first5 (t : api_Tuple) (n c : Nat) (r : List UInt8) : vK (hc5 (h5of t) n c ++ r) 0 1 = 69 := by
  obtain ⟨p0, _⟩ := hc5_parts (h5of t) n c r
  have w0 := vK_of p0 rfl (by rw [show (h5of t).Options = [] from rfl]; decide)
  rw [show (h5of t).Options.length = 0 from rfl] at w0
  rw [show ((64 + (20 + 0) / 4 : Nat) : Int) = 69 from rfl] at w0
  exact w0
theorem open_v6 {t : api_Tuple} {b more : List UInt8} (h1 : A4 t.Src) (h2 : A4 t.Dst) (hh : H6 (h6of t)) (hb : b.length ≤ 65535) : open11 (headB (h6of t) b.length ++ (b ++ more)) = if more = [] then ⟨t.Src, t.Dst, t.Proto, 40, b, 0⟩ else zO 5 := by
  have hg := get6_head (h := h6of t) (n := b.length) (r := b ++ more) hh h1.addrOK h2.addrOK hb
  rw [if_neg (by simp), List.take_left] at hg
  unfold open11
  rw [first6, if_neg (by decide), if_pos (by decide), hg, if_neg (by simp)]
  simp only [List.length_append, headB_len]
  by_cases hm : more = []
  · subst hm
    rw [if_neg (by simp), if_pos rfl]; rfl
  · have : 0 < more.length := List.length_pos_iff.2 hm
    rw [if_pos (by omega), if_neg hm]
theorem open_v4 {t : api_Tuple} {b more : List UInt8} (h1 : A4 t.Src) (h2 : A4 t.Dst) (hh : H5 (h5of t) = true) (hb : 20 + b.length ≤ 65535) : open11 (hc5 (h5of t) (20 + b.length) (ck5 (h5of t) (20 + b.length)) ++ (b ++ more)) = if more = [] then ⟨t.Src, t.Dst, t.Proto, 20, b, 0⟩ else zO 5 := by
  have ho : (h5of t).Options.length = 0 := rfl
  have hg := get_put (h := h5of t) (l := b) (more := more) hh h1 h2 (by omega)
  have hl := hc5_len (h5of t) (20 + b.length) (ck5 (h5of t) (20 + b.length))
  rw [ho, Nat.add_zero] at hg hl
  unfold open11
  rw [first5, if_pos (by decide), hg, if_neg (by simp)]
  simp only [List.length_append, hl, ho]
  by_cases hm : more = []
  · subst hm
    rw [if_neg (by simp), if_pos rfl]; rfl
  · have : 0 < more.length := List.length_pos_iff.2 hm
    rw [if_pos (by omega), if_neg hm]
theorem made_len {t : api_Tuple} {b : List UInt8} (h0 : (put11 t b).2 = 0) : (put11 t b).1.length = cond t.Src.V6 40 20 + b.length ∧ (put11 t b).1.length ≤ 9000 := by
  obtain ⟨_, _, _, _, h9, h⟩ := put11_ok h0
  refine ⟨?_, h9⟩
  rcases h with ⟨v, hh, hl, e⟩ | ⟨v, hh, hl, e⟩
  · rw [e, v]
    simp only [List.length_append, headB_len, cond_true]
  · have hl := hc5_len (h5of t) (20 + b.length) (ck5 (h5of t) (20 + b.length))
    rw [show (h5of t).Options.length = 0 from rfl] at hl
    rw [e, v]
    simp only [List.length_append, hl, cond_false]
theorem put7_ok {h : tcp_Head} {src dst : api_Addr} {l : List UInt8} (h0 : (put7 h src dst l).2 = 0) : H7 h = true ∧ pseu src dst 6 (20 + h.Options.length + l.length) ≠ [] ∧ put7 h src dst l = (hc7 h (ck7 (pseu src dst 6 (20 + h.Options.length + l.length)) h l) ++ l, 0) := by
  unfold put7 at h0 ⊢
  cases hh : H7 h
  · rw [if_pos hh] at h0; exact absurd h0 (by decide)
  rw [if_neg (by rw [hh]; decide)] at h0
  rw [if_neg (by decide)]
  by_cases hp : pseu src dst 6 (20 + h.Options.length + l.length) = []
  · rw [if_pos hp] at h0; exact absurd h0 (by decide)
  rw [if_neg hp] at h0 ⊢
  by_cases hl : 65535 - (20 + (h.Options.length : Int)) < l.length
  · rw [if_pos hl] at h0; exact absurd h0 (by decide)
  rw [if_neg hl]
  exact ⟨rfl, hp, rfl⟩
theorem p11put_eq {t : api_Tuple} {b : List UInt8} (h1 : A4 t.Src) (h2 : A4 t.Dst) (hb : b.length < 2 ^ 20) : packet_Put t b = some (put11 t b) := by
  unfold packet_Put packet_PutF
  have key : (t.Proto = 6 ∨ t.Proto = 17) → (cond (!(t.Src.V6 == t.Dst.V6)) (some (([], 1) : List UInt8 × Int))
      ((addr_Right t.Src).bind fun xr => cond (!xr) (some ([], 1)) ((addr_Right t.Dst).bind fun xr1 => cond (!xr1) (some ([], 1))
        (cond t.Src.V6
          ((ipsix_Put (ipsix_Head.mk 0 0 t.Proto 64 t.Src t.Dst) b).bind fun p => cond (p.2 == 0) (cond (decide ((p.1.length : Int) > 9000)) (some ([], 5)) (some (p.1, p.2))) (some (p.1, p.2)))
          ((ipfour_Put (ipfour_Head.mk 0 0 true 64 t.Proto t.Src t.Dst []) b).bind fun p1 => cond (p1.2 == 0) (cond (decide ((p1.1.length : Int) > 9000)) (some ([], 5)) (some (p1.1, p1.2))) (some (p1.1, p1.2))))))) = some (put11 t b) := by
    intro hp
    unfold put11
    by_cases g1 : t.Src.V6 = t.Dst.V6
    · rw [show (!(t.Src.V6 == t.Dst.V6)) = false by simp [g1], cond_false, aRight_eq, aRight_eq, Option.bind_some, Option.bind_some]
      cases g2 : aok t.Src
      · rw [if_pos (.inr (.inl rfl))]; rfl
      cases g3 : aok t.Dst
      · rw [if_pos (.inr (.inr (.inl rfl)))]; rfl
      rw [Bool.not_true, cond_false, cond_false, put6_eq (h := ⟨0, 0, t.Proto, 64, t.Src, t.Dst⟩) h1.addrOK h2.addrOK (by omega), p5_eq (h := ⟨0, 0, true, 64, t.Proto, t.Src, t.Dst, []⟩) h1 h2 (by omega) (by simp)]
      simp only [Option.bind_some, fin11]
      rw [if_neg (show ¬ (t.Src.V6 ≠ t.Dst.V6 ∨ true = false ∨ true = false ∨ (t.Proto ≠ 6 ∧ t.Proto ≠ 17)) from fun h => h.elim (fun x => x g1) fun h => h.elim (fun x => by cases x) fun h => h.elim (fun x => by cases x) fun x => by omega)]
      unfold raw11 h5of h6of
      cases t.Src.V6 <;> rfl
    · rw [show (!(t.Src.V6 == t.Dst.V6)) = true by simp [g1], cond_true, if_pos (.inl g1)]
  by_cases p6 : t.Proto = 6
  · rw [show (t.Proto == 6) = true by simpa using p6, cond_true]; exact key (.inl p6)
  · rw [show (t.Proto == 6) = false by simpa using p6, cond_false]
    by_cases p17 : t.Proto = 17
    · rw [show (!(t.Proto == 17)) = false by simp [p17], cond_false]; exact key (.inr p17)
    · rw [show (!(t.Proto == 17)) = true by simp [p17], cond_true]
      unfold put11
      rw [if_pos (.inr (.inr (.inr ⟨p6, p17⟩)))]
theorem p11seg_eq {t : api_Tuple} {flags : Int} {o l : List UInt8} (h1 : A4 t.Src) (h2 : A4 t.Dst) (ho : o.length < 2 ^ 18) (hl : l.length < 2 ^ 18) : packet_Segment t flags o l = some (seg11 t flags o l) := by
  unfold packet_Segment packet_SegmentF seg11
  by_cases g : t.Proto = 6
  · have hw : W7 ⟨t.SPort, t.DPort, 0, 0, flags, 65535, 0, o⟩ := ⟨⟨by simp only []; omega, by simp only []; omega⟩, by simp only []; omega, by simp only []; omega⟩
    have hlen := put7_len ⟨t.SPort, t.DPort, 0, 0, flags, 65535, 0, o⟩ t.Src t.Dst l
    simp only at hlen
    rw [show (t.Proto != 6) = false by simpa using g, cond_false, t7put_eq hw h1 h2 (by omega) (by simp only []; omega), Option.bind_some, if_neg (by simpa using g)]
    by_cases g2 : (put7 ⟨t.SPort, t.DPort, 0, 0, flags, 65535, 0, o⟩ t.Src t.Dst l).2 = 0
    · rw [show ((put7 ⟨t.SPort, t.DPort, 0, 0, flags, 65535, 0, o⟩ t.Src t.Dst l).2 != 0) = false by simpa using g2, cond_false, if_neg (by simpa using g2), p11put_eq h1 h2 (by omega)]; rfl
    · rw [show ((put7 ⟨t.SPort, t.DPort, 0, 0, flags, 65535, 0, o⟩ t.Src t.Dst l).2 != 0) = true by simpa using g2, cond_true, if_pos g2]
  · rw [show (t.Proto != 6) = true by simpa using g, cond_true, if_pos g]
theorem seg11_ok {t : api_Tuple} {flags : Int} {o l : List UInt8} (h0 : (seg11 t flags o l).2 = 0) : t.Proto = 6 ∧ (put7 ⟨t.SPort, t.DPort, 0, 0, flags, 65535, 0, o⟩ t.Src t.Dst l).2 = 0 ∧ seg11 t flags o l = put11 t (put7 ⟨t.SPort, t.DPort, 0, 0, flags, 65535, 0, o⟩ t.Src t.Dst l).1 := by
  unfold seg11 at h0 ⊢
  by_cases g : t.Proto = 6
  · rw [if_neg (by simpa using g)] at h0 ⊢
    by_cases g2 : (put7 ⟨t.SPort, t.DPort, 0, 0, flags, 65535, 0, o⟩ t.Src t.Dst l).2 = 0
    · rw [if_neg (by simpa using g2)]
      exact ⟨g, g2, rfl⟩
    · rw [if_pos g2] at h0; exact absurd h0 g2
  · rw [if_pos g] at h0; exact absurd h0 (by decide)
theorem put11_bad {t : api_Tuple} {b : List UInt8} (h : (put11 t b).2 ≠ 0) : (put11 t b).1 = [] := by
  unfold put11 at h ⊢
  by_cases g : t.Src.V6 ≠ t.Dst.V6 ∨ aok t.Src = false ∨ aok t.Dst = false ∨ (t.Proto ≠ 6 ∧ t.Proto ≠ 17)
  · rw [if_pos g]
  rw [if_neg g] at h ⊢
  by_cases g2 : (raw11 t b).2 = 0 ∧ 9000 < (raw11 t b).1.length
  · rw [if_pos g2]
  rw [if_neg g2] at h ⊢
  unfold raw11 at h ⊢
  cases hv : t.Src.V6
  · rw [hv, cond_false] at h
    rw [cond_false]
    unfold put5 at h ⊢
    split
    · rfl
    rename_i a
    rw [if_neg a] at h
    split
    · rfl
    rename_i a2
    rw [if_neg a2] at h
    exact absurd rfl h
  · rw [hv, cond_true] at h
    rw [cond_true]
    unfold put6 at h ⊢
    split
    · rfl
    rename_i a
    rw [if_neg a] at h
    split
    · rfl
    rename_i a2
    rw [if_neg a2] at h
    exact absurd rfl h
theorem seg11_bad {t : api_Tuple} {flags : Int} {o l : List UInt8} (h0 : (seg11 t flags o l).2 ≠ 0) : (seg11 t flags o l).1 = [] := by
  unfold seg11 at h0 ⊢
  split
  · rfl
  rename_i a
  rw [if_neg a] at h0
  split
  · rfl
  rename_i a2
  rw [if_neg a2] at h0
  exact put11_bad h0
end Go.Vm.Code
namespace Go.Vm.Code
open Go Go.Vm Go.Proofs
set_option maxRecDepth 100000
set_option maxHeartbeats 4000000
set_option linter.unusedVariables false
def law11_awakeF (packet_Parse : (List UInt8) → Option (api_Packet × Int)) (packet_Segment : api_Tuple → Int → (List UInt8) → (List UInt8) → Option ((List UInt8) × Int)) : Option Bool :=
  (packet_Parse []).bind fun p =>
  (packet_Segment (api_Tuple.mk 6 (api_Addr.mk false 0 1) (api_Addr.mk false 0 2) 3 4) 2 [] [104, 105]).bind fun s =>
  (packet_Parse s.1).bind fun p1 =>
  cond (p.2 == 2)
    (
    cond (s.2 == 0)
      (
      cond ((s.1.length : Int) == 42)
        (
        cond (p1.2 == 0)
          (
          let t := (p1.1.Tuple.Proto == 6) && ((p1.1.Tuple.Src.V6 == false) && ((p1.1.Tuple.Src.Hi == 0) && ((p1.1.Tuple.Src.Lo == 1) && ((p1.1.Tuple.Dst.V6 == false) && ((p1.1.Tuple.Dst.Hi == 0) && ((p1.1.Tuple.Dst.Lo == 2) && ((p1.1.Tuple.SPort == 3) && ((p1.1.Tuple.DPort == 4) && true))))))))
          cond (t)
            (
            some (p1.1.Flags == 2))
            (
            some (false)))
          (
          some (false)))
        (
        some (false)))
      (
      some (false)))
    (
    some (false))
def rx13 (x : Bool) : SRes := ⟨.bool x, [], []⟩
def r13 (g : Option Bool) : Dec := dEnd (ofG (g) rx13)
theorem r13_c {g : Option Bool} {x : Bool} (hx : g = some x) : r13 g [] [] = some (rx13 x) := ofG_eq hx
def s13 (g : Option Bool) : Summ := ⟨[], r13 g⟩
theorem r13_eq {g : Option Bool} {x : Bool} (hx : g = some x) : (s13 g).run [] [] = some (rx13 x) := r13_c hx
abbrev sums13 (packet_Parse : (List UInt8) → Option (api_Packet × Int)) (packet_Segment : api_Tuple → Int → (List UInt8) → (List UInt8) → Option ((List UInt8) × Int)) : List (Nat × Summ) := [(16, s16 packet_Parse), (14, s14 packet_Segment)]
theorem leads13 (packet_Parse : (List UInt8) → Option (api_Packet × Int)) (packet_Segment : api_Tuple → Int → (List UInt8) → (List UInt8) → Option ((List UInt8) × Int)) (hS : SumsOK Try.prog (aget (sums13 packet_Parse packet_Segment))) (res : Bool) (h : law11_awakeF packet_Parse packet_Segment = some res) :
    Leads Try.prog 13 0 ⟨⟨13, 51, [], [.code k13_11], [], false, none⟩, [], [], 0⟩ (fun v H _ => Res 0 (rx13 res) v H) := by
  unfold law11_awakeF at h
  refine ev_ok tab_ok hS true 3000 ?_
  conv => whnf
  replace h := obind.elim h; obtain ⟨p, hy, h⟩ := h
  refine sumK.q rfl rfl (r16_eq hy) rfl rfl rfl ?_
  conv => whnf
  replace h := obind.elim h; obtain ⟨s, hy, h⟩ := h
  refine sumK.q rfl rfl (r14_eq hy) rfl rfl rfl ?_
  conv => whnf
  replace h := obind.elim h; obtain ⟨p1, hy, h⟩ := h
  refine sumK.q rfl rfl (r16_eq hy) rfl rfl rfl ?_
  conv => whnf
  refine br.h2 h ?_ ?_ ?_
  · rfl
  · clear h; intro hb h; conv => whnf
    all_goals (cases h; exact Res.z rfl rfl rfl)
  clear h; intro hb h; conv => whnf
  refine br.h2 h ?_ ?_ ?_
  · rfl
  · clear h; intro hb h; conv => whnf
    all_goals (cases h; exact Res.z rfl rfl rfl)
  clear h; intro hb h; conv => whnf
  refine br.h2 h ?_ ?_ ?_
  · rfl
  · clear h; intro hb h; conv => whnf
    all_goals (cases h; exact Res.z rfl rfl rfl)
  clear h; intro hb h; conv => whnf
  refine br.h2 h ?_ ?_ ?_
  · rfl
  · clear h; intro hb h; conv => whnf
    all_goals (cases h; exact Res.z rfl rfl rfl)
  clear h; intro hb h; conv => whnf
  let t : Bool := (p1.1.Tuple.Proto == 6) && ((p1.1.Tuple.Src.V6 == false) && ((p1.1.Tuple.Src.Hi == 0) && ((p1.1.Tuple.Src.Lo == 1) && ((p1.1.Tuple.Dst.V6 == false) && ((p1.1.Tuple.Dst.Hi == 0) && ((p1.1.Tuple.Dst.Lo == 2) && ((p1.1.Tuple.SPort == 3) && ((p1.1.Tuple.DPort == 4) && true))))))))
  refine br.h h ?_ ?_ ?_
  · rfl
  · clear h; intro hb h; conv => whnf
    all_goals (cases h; exact Res.z rfl rfl rfl)
  clear h; intro hb h; conv => whnf
  all_goals (cases h; exact Res.z rfl rfl rfl)
theorem ok13 (packet_Parse : (List UInt8) → Option (api_Packet × Int)) (packet_Segment : api_Tuple → Int → (List UInt8) → (List UInt8) → Option ((List UInt8) × Int)) (hS : SumsOK Try.prog (aget (sums13 packet_Parse packet_Segment))) : SumOK Try.prog 13 (s13 (law11_awakeF packet_Parse packet_Segment)) := by
  refine SumOK.of_leads tab_ok (fun ar os r ha hr => ?_) ⟨Try.f13, rfl, by decide, rfl⟩
  replace hr : r13 (law11_awakeF packet_Parse packet_Segment) ar (conts os) = some r := hr
  unfold r13 at hr
  generalize hc : conts os = C at hr
  replace hr := dFin hr; obtain ⟨rfl, rfl, x, h, rfl⟩ := hr
  obtain rfl := kinds_nil hc
  exact ⟨_, rfl, leads13 packet_Parse packet_Segment hS x h⟩
def law11_awake : Option Bool := law11_awakeF packet_Parse packet_Segment
theorem lift13 : SumOK Try.prog 13 (s13 law11_awake) := ok13 packet_Parse packet_Segment (SumsOK.of_tab ⟨lift16, lift14, trivial⟩)
def law11_PacketTurnedF (R07_Stamped : Int → Int → Option (List UInt8)) (law11_awake : Option Bool) (packet_Parse : (List UInt8) → Option (api_Packet × Int)) (packet_Segment : api_Tuple → Int → (List UInt8) → (List UInt8) → Option ((List UInt8) × Int)) (t : api_Tuple) (flags : Int) (val : Int) (echo : Int) (payload : List UInt8) (ata5 : Int) : Option Bool :=
  cond (decide ((payload.length : Int) > 100))
    (
    (law11_awake).bind fun a =>
    some (a))
    (
    (R07_Stamped val echo).bind fun s =>
    (packet_Segment t (wI .i64 flags) s payload).bind fun s1 =>
    cond (s1.2 != 0)
      (
      cond (s1.1 == [])
        (
        (law11_awake).bind fun a1 =>
        some (a1))
        (
        some (false)))
      (
      cond (decide ((s1.1.length : Int) < 52))
        (
        some (false))
        (
        cond (t.Src.V6)
          (
          let t1 := wI .i64 ((wI .i64 (8 * (s1.1.length : Int))) - 32)
          oreq (!(decide (t1 = 0))) <|
          let t2 := wI .i64 ((wI .i64 (32 + ((wI .i64 ata5).tmod t1))).tdiv 8)
          cond (t2 == 7)
            (
            (law11_awake).bind fun a2 =>
            some (a2))
            (
            let t3 := wI .i64 ((wI .i64 (32 + ((wI .i64 ata5).tmod t1))).tdiv 8)
            let t4 := wI .i64 ((wI .i64 (32 + ((wI .i64 ata5).tmod t1))).tdiv 8)
            oreq (decide ((0 : Int) ≤ t4 ∧ t4 < (s1.1.length : Int))) <|
            ((bI s1.1)[t4.toNat]?).bind fun (e : Int) =>
            let t5 := (wI .i64 (32 + ((wI .i64 ata5).tmod t1))).tmod 8
            oreq (decide (0 ≤ t5)) <|
            let t6 := ixorI .u8 e (wI .u8 (1 * 2 ^ (min t5.toNat 8)))
            oreq (decide ((0 : Int) ≤ t3 ∧ t3 < (s1.1.length : Int))) <|
            oreq (decide (t3.toNat < (bI s1.1).length)) <|
            let row := (bI s1.1).set t3.toNat t6
            oreq (decide (s1.1.length ≤ row.length)) <|
            (packet_Parse (iB (row.take s1.1.length))).bind fun p =>
            cond (p.2 != 0)
              (
              let t7 := (p.1.Tuple.Proto == 0) && ((p.1.Tuple.Src.V6 == false) && ((p.1.Tuple.Src.Hi == 0) && ((p.1.Tuple.Src.Lo == 0) && ((p.1.Tuple.Dst.V6 == false) && ((p.1.Tuple.Dst.Hi == 0) && ((p.1.Tuple.Dst.Lo == 0) && ((p.1.Tuple.SPort == 0) && ((p.1.Tuple.DPort == 0) && ((p.1.Flags == 0) && ((p.1.Stamped == false) && ((p.1.Val == 0) && ((p.1.Echo == 0) && ((p.1.Long == false) && ((p.1.CID == []) && ((p.1.Size == 0) && true)))))))))))))))
              cond (t7)
                (
                (law11_awake).bind fun a3 =>
                some (a3))
                (
                some (false)))
              (
              some (false))))
          (
          let t8 := wI .i64 ((wI .i64 (8 * (s1.1.length : Int))) - 8)
          oreq (!(decide (t8 = 0))) <|
          let t9 := wI .i64 ((wI .i64 (8 + ((wI .i64 ata5).tmod t8))).tdiv 8)
          let t10 := wI .i64 ((wI .i64 (8 + ((wI .i64 ata5).tmod t8))).tdiv 8)
          oreq (decide ((0 : Int) ≤ t10 ∧ t10 < (s1.1.length : Int))) <|
          ((bI s1.1)[t10.toNat]?).bind fun (e1 : Int) =>
          let t11 := (wI .i64 (8 + ((wI .i64 ata5).tmod t8))).tmod 8
          oreq (decide (0 ≤ t11)) <|
          let t12 := ixorI .u8 e1 (wI .u8 (1 * 2 ^ (min t11.toNat 8)))
          oreq (decide ((0 : Int) ≤ t9 ∧ t9 < (s1.1.length : Int))) <|
          oreq (decide (t9.toNat < (bI s1.1).length)) <|
          let row1 := (bI s1.1).set t9.toNat t12
          oreq (decide (s1.1.length ≤ row1.length)) <|
          (packet_Parse (iB (row1.take s1.1.length))).bind fun p1 =>
          cond (p1.2 != 0)
            (
            let t13 := (p1.1.Tuple.Proto == 0) && ((p1.1.Tuple.Src.V6 == false) && ((p1.1.Tuple.Src.Hi == 0) && ((p1.1.Tuple.Src.Lo == 0) && ((p1.1.Tuple.Dst.V6 == false) && ((p1.1.Tuple.Dst.Hi == 0) && ((p1.1.Tuple.Dst.Lo == 0) && ((p1.1.Tuple.SPort == 0) && ((p1.1.Tuple.DPort == 0) && ((p1.1.Flags == 0) && ((p1.1.Stamped == false) && ((p1.1.Val == 0) && ((p1.1.Echo == 0) && ((p1.1.Long == false) && ((p1.1.CID == []) && ((p1.1.Size == 0) && true)))))))))))))))
            cond (t13)
              (
              (law11_awake).bind fun a4 =>
              some (a4))
              (
              some (false)))
            (
            some (false))))))
def rx4 (x : Bool) : SRes := ⟨.bool x, [], []⟩
def r4 (g : api_Tuple → Int → Int → Int → (List UInt8) → Int → Option Bool) : Dec := dV uvapi_Tuple fun (y0 : api_Tuple) => dV (asI .u8) fun (y1 : Int) => dV (asI .u32) fun (y2 : Int) => dV (asI .u32) fun (y3 : Int) => dV asS fun (y4 : List UInt8) => dV (asI .u16) fun (y5 : Int) => dEnd (ofG (g y0 y1 y2 y3 y4 y5) rx4)
def s4 (g : api_Tuple → Int → Int → Int → (List UInt8) → Int → Option Bool) : Summ := ⟨[.v, .v, .v, .v, .v, .v], r4 g⟩
abbrev sums4 (R07_Stamped : Int → Int → Option (List UInt8)) (law11_awake : Option Bool) (packet_Parse : (List UInt8) → Option (api_Packet × Int)) (packet_Segment : api_Tuple → Int → (List UInt8) → (List UInt8) → Option ((List UInt8) × Int)) : List (Nat × Summ) := [(15, s15 R07_Stamped), (13, s13 law11_awake), (16, s16 packet_Parse), (14, s14 packet_Segment)]
theorem leads4 (R07_Stamped : Int → Int → Option (List UInt8)) (law11_awake : Option Bool) (packet_Parse : (List UInt8) → Option (api_Packet × Int)) (packet_Segment : api_Tuple → Int → (List UInt8) → (List UInt8) → Option ((List UInt8) × Int)) (hS : SumsOK Try.prog (aget (sums4 R07_Stamped law11_awake packet_Parse packet_Segment))) (t : api_Tuple) (flags : Int) (val : Int) (echo : Int) (payload : List UInt8) (ata5 : Int) (res : Bool) (h : law11_PacketTurnedF R07_Stamped law11_awake packet_Parse packet_Segment t flags val echo payload ata5 = some res) :
    Leads Try.prog 4 0 ⟨⟨4, 100, [(0, .agg ⟨[.int .i64 t.Proto, .bool t.Src.V6, .int .u64 t.Src.Hi, .int .u64 t.Src.Lo, .bool t.Dst.V6, .int .u64 t.Dst.Hi, .int .u64 t.Dst.Lo, .int .i64 t.SPort, .int .i64 t.DPort]⟩), (1, .int .u8 flags), (2, .int .u32 val), (3, .int .u32 echo), (4, .string ⟨⟨payload⟩⟩), (5, .int .u16 ata5)], [.code k4_44], [], false, none⟩, [], [], 0⟩ (fun v H _ => Res 0 (rx4 res) v H) := by
  unfold law11_PacketTurnedF at h
  refine ev_ok tab_ok hS true 3000 ?_
  conv => whnf
  refine br.h h ?_ ?_ ?_
  · rfl
  · clear h; intro hb h; conv => whnf
    replace h := obind.elim h; obtain ⟨a, hy, h⟩ := h
    refine sumK.q rfl rfl (r13_eq hy) rfl rfl rfl ?_
    conv => whnf
    all_goals (cases h; exact Res.z rfl rfl rfl)
  clear h; intro hb h; conv => whnf
  replace h := obind.elim h; obtain ⟨s, hy, h⟩ := h
  refine sumK.q rfl rfl (r15_eq hy) rfl rfl rfl ?_
  conv => whnf
  replace h := obind.elim h; obtain ⟨s1, hy, h⟩ := h
  refine sumK.q rfl rfl (r14_eq hy) rfl rfl rfl ?_
  conv => whnf
  refine br.h h ?_ ?_ ?_
  · rfl
  · clear h; intro hb h; conv => whnf
    refine br.h2 h ?_ ?_ ?_
    · rfl
    · clear h; intro hb h; conv => whnf
      all_goals (cases h; exact Res.z rfl rfl rfl)
    clear h; intro hb h; conv => whnf
    replace h := obind.elim h; obtain ⟨a1, hy, h⟩ := h
    refine sumK.q rfl rfl (r13_eq hy) rfl rfl rfl ?_
    conv => whnf
    all_goals (cases h; exact Res.z rfl rfl rfl)
  clear h; intro hb h; conv => whnf
  refine br.h h ?_ ?_ ?_
  · rfl
  · clear h; intro hb h; conv => whnf
    all_goals (cases h; exact Res.z rfl rfl rfl)
  clear h; intro hb h; conv => whnf
  refine br.h2 h ?_ ?_ ?_
  · rfl
  · clear h; intro hb h; conv => whnf
    let t8 : Int := wI .i64 ((wI .i64 (8 * (s1.1.length : Int))) - 8)
    replace h := oreq.elim h; obtain ⟨hb, h⟩ := h
    first | (refine req.intro hb ?_; conv => whnf) | skip
    refine br.neg ?_ ?_; (focus (clear h; first | assumption | (simp_all; done)))
    conv => whnf
    refine pk_s2b ?_
    conv => whnf
    let t9 : Int := wI .i64 ((wI .i64 (8 + ((wI .i64 ata5).tmod t8))).tdiv 8)
    let t10 : Int := wI .i64 ((wI .i64 (8 + ((wI .i64 ata5).tmod t8))).tdiv 8)
    replace h := oreq.elim h; obtain ⟨hb, h⟩ := h
    first | (refine req.intro hb ?_; conv => whnf) | skip
    replace h := obind.elim h; obtain ⟨e1, hy, h⟩ := h
    refine rd.I hy (by first | rfl | (rw [Nat.zero_add, Nat.mul_one]; try rfl; done) | omega) ?_
    conv => whnf
    let t11 : Int := (wI .i64 (8 + ((wI .i64 ata5).tmod t8))).tmod 8
    replace h := oreq.elim h; obtain ⟨hb, h⟩ := h
    first | (refine req.intro hb ?_; conv => whnf) | skip
    let t12 : Int := ixorI .u8 e1 (wI .u8 (1 * 2 ^ (min t11.toNat 8)))
    replace h := oreq.elim h; obtain ⟨hb, h⟩ := h
    first | (refine req.intro hb ?_; conv => whnf) | skip
    replace h := oreq.elim h; obtain ⟨hb, h⟩ := h
    refine st_I hb (by first | rfl | (rw [Nat.zero_add, Nat.mul_one]; try rfl; done) | omega) ?_
    conv => whnf
    let row1 : List Int := (bI s1.1).set t9.toNat t12
    replace h := oreq.elim h; obtain ⟨hb, h⟩ := h
    refine req.intro (by (first | rfl | (simp [vI, vB, vS, bI, oneC, addrBlk, cellsL, Value.cells] at *; omega) | (simp [vI, vB, vS, bI, oneC, addrBlk, cellsL, Value.cells] at *; done))) ?_
    conv => whnf
    refine pk_b2s ?_
    conv => whnf
    replace h := obind.elim h; obtain ⟨p1, hy, h⟩ := h
    refine sumK.q rfl rfl (r16_eq hy) rfl rfl rfl ?_
    conv => whnf
    refine br.h2 h ?_ ?_ ?_
    · rfl
    · clear h; intro hb h; conv => whnf
      all_goals (cases h; exact Res.z rfl rfl rfl)
    clear h; intro hb h; conv => whnf
    let t13 : Bool := (p1.1.Tuple.Proto == 0) && ((p1.1.Tuple.Src.V6 == false) && ((p1.1.Tuple.Src.Hi == 0) && ((p1.1.Tuple.Src.Lo == 0) && ((p1.1.Tuple.Dst.V6 == false) && ((p1.1.Tuple.Dst.Hi == 0) && ((p1.1.Tuple.Dst.Lo == 0) && ((p1.1.Tuple.SPort == 0) && ((p1.1.Tuple.DPort == 0) && ((p1.1.Flags == 0) && ((p1.1.Stamped == false) && ((p1.1.Val == 0) && ((p1.1.Echo == 0) && ((p1.1.Long == false) && ((p1.1.CID == []) && ((p1.1.Size == 0) && true)))))))))))))))
    refine br.h2 h ?_ ?_ ?_
    · rfl
    · clear h; intro hb h; conv => whnf
      all_goals (cases h; exact Res.z rfl rfl rfl)
    clear h; intro hb h; conv => whnf
    replace h := obind.elim h; obtain ⟨a4, hy, h⟩ := h
    refine sumK.q rfl rfl (r13_eq hy) rfl rfl rfl ?_
    conv => whnf
    all_goals (cases h; exact Res.z rfl rfl rfl)
  clear h; intro hb h; conv => whnf
  let t1 : Int := wI .i64 ((wI .i64 (8 * (s1.1.length : Int))) - 32)
  replace h := oreq.elim h; obtain ⟨hb, h⟩ := h
  first | (refine req.intro hb ?_; conv => whnf) | skip
  refine br.pos ?_ ?_; (focus (clear h; first | assumption | (simp_all; done)))
  conv => whnf
  let t2 : Int := wI .i64 ((wI .i64 (32 + ((wI .i64 ata5).tmod t1))).tdiv 8)
  refine br.h h ?_ ?_ ?_
  · rfl
  · clear h; intro hb h; conv => whnf
    replace h := obind.elim h; obtain ⟨a2, hy, h⟩ := h
    refine sumK.q rfl rfl (r13_eq hy) rfl rfl rfl ?_
    conv => whnf
    all_goals (cases h; exact Res.z rfl rfl rfl)
  clear h; intro hb h; conv => whnf
  refine pk_s2b ?_
  conv => whnf
  let t3 : Int := wI .i64 ((wI .i64 (32 + ((wI .i64 ata5).tmod t1))).tdiv 8)
  let t4 : Int := wI .i64 ((wI .i64 (32 + ((wI .i64 ata5).tmod t1))).tdiv 8)
  replace h := oreq.elim h; obtain ⟨hb, h⟩ := h
  first | (refine req.intro hb ?_; conv => whnf) | skip
  replace h := obind.elim h; obtain ⟨e, hy, h⟩ := h
  refine rd.I hy (by first | rfl | (rw [Nat.zero_add, Nat.mul_one]; try rfl; done) | omega) ?_
  conv => whnf
  let t5 : Int := (wI .i64 (32 + ((wI .i64 ata5).tmod t1))).tmod 8
  replace h := oreq.elim h; obtain ⟨hb, h⟩ := h
  first | (refine req.intro hb ?_; conv => whnf) | skip
  let t6 : Int := ixorI .u8 e (wI .u8 (1 * 2 ^ (min t5.toNat 8)))
  replace h := oreq.elim h; obtain ⟨hb, h⟩ := h
  first | (refine req.intro hb ?_; conv => whnf) | skip
  replace h := oreq.elim h; obtain ⟨hb, h⟩ := h
  refine st_I hb (by first | rfl | (rw [Nat.zero_add, Nat.mul_one]; try rfl; done) | omega) ?_
  conv => whnf
  let row : List Int := (bI s1.1).set t3.toNat t6
  replace h := oreq.elim h; obtain ⟨hb, h⟩ := h
  refine req.intro (by (first | rfl | (simp [vI, vB, vS, bI, oneC, addrBlk, cellsL, Value.cells] at *; omega) | (simp [vI, vB, vS, bI, oneC, addrBlk, cellsL, Value.cells] at *; done))) ?_
  conv => whnf
  refine pk_b2s ?_
  conv => whnf
  replace h := obind.elim h; obtain ⟨p, hy, h⟩ := h
  refine sumK.q rfl rfl (r16_eq hy) rfl rfl rfl ?_
  conv => whnf
  refine br.h2 h ?_ ?_ ?_
  · rfl
  · clear h; intro hb h; conv => whnf
    all_goals (cases h; exact Res.z rfl rfl rfl)
  clear h; intro hb h; conv => whnf
  let t7 : Bool := (p.1.Tuple.Proto == 0) && ((p.1.Tuple.Src.V6 == false) && ((p.1.Tuple.Src.Hi == 0) && ((p.1.Tuple.Src.Lo == 0) && ((p.1.Tuple.Dst.V6 == false) && ((p.1.Tuple.Dst.Hi == 0) && ((p.1.Tuple.Dst.Lo == 0) && ((p.1.Tuple.SPort == 0) && ((p.1.Tuple.DPort == 0) && ((p.1.Flags == 0) && ((p.1.Stamped == false) && ((p.1.Val == 0) && ((p.1.Echo == 0) && ((p.1.Long == false) && ((p.1.CID == []) && ((p.1.Size == 0) && true)))))))))))))))
  refine br.h2 h ?_ ?_ ?_
  · rfl
  · clear h; intro hb h; conv => whnf
    all_goals (cases h; exact Res.z rfl rfl rfl)
  clear h; intro hb h; conv => whnf
  replace h := obind.elim h; obtain ⟨a3, hy, h⟩ := h
  refine sumK.q rfl rfl (r13_eq hy) rfl rfl rfl ?_
  conv => whnf
  all_goals (cases h; exact Res.z rfl rfl rfl)
def law11_PacketTurned : api_Tuple → Int → Int → Int → (List UInt8) → Int → Option Bool := law11_PacketTurnedF R07_Stamped law11_awake packet_Parse packet_Segment
end Go.Vm.Code
namespace Go.Vm.Code
open Go Go.Vm
theorem awake11t : law11_awake = some true := by decide +kernel
theorem rstamped_eq {v e : Nat} (hv : v < 4294967296) (he : e < 4294967296) : R07_Stamped (v : Int) (e : Int) = some (stamped7 v e) := by
  have num : ∀ n : Nat, n < 4294967296 → R07_num (wI .i64 (n : Int)) 4 = some (be n 4) := fun n hn => by
    unfold R07_num R07_numF
    rw [wI64 (by omega) (by omega), wU64 (by omega) (by omega), R02_Put_eq (by omega) (by omega), show putS (n : Int) 4 = be (n : Int).toNat 4 from putS_be (k := 4) (by omega), Int.toNat_natCast]; rfl
  unfold R07_Stamped R07_StampedF stamped7
  rw [num v hv, num e he, Option.bind_some, Option.bind_some, oreq_p (by simp), oreq_p (by simp), List.append_assoc]
theorem told11_err {s : List UInt8} (h : (told11 s).2.2.2 = 0) : (open11 s).err = 0 ∧ (in11 (open11 s) s.length).2.2 = 0 := by
  unfold told11 at h
  split at h
  · exact absurd h (by decide)
  split at h
  · exact absurd h (by decide)
  split at h
  · rename_i g; exact absurd h g
  rename_i g
  split at h
  · rename_i g2; exact absurd h g2
  rename_i g2
  exact ⟨by simpa using g, by simpa using g2⟩
theorem get7_sum {b : List UInt8} {src dst : api_Addr} (h : (get7 b src dst).2.2 = 0) : norm (wsum (pseu src dst 6 b.length ++ b)) = 65535 := by
  unfold get7 at h
  by_cases g0 : b.length < 20
  · rw [if_pos g0] at h; exact absurd h (by decide)
  by_cases g1 : 4 * (vK b 12 1 / 16) < 20
  · rw [if_neg g0, if_pos g1] at h; exact absurd h (by decide)
  by_cases g2 : vK b 12 1 % 16 ≠ 0
  · rw [if_neg g0, if_neg g1, if_pos g2] at h; exact absurd h (by decide)
  by_cases g3 : (b.length : Int) < 4 * (vK b 12 1 / 16)
  · rw [if_neg g0, if_neg g1, if_neg g2, if_pos g3] at h; exact absurd h (by decide)
  by_cases g4 : pseu src dst 6 b.length = []
  · rw [if_neg g0, if_neg g1, if_neg g2, if_neg g3, if_pos g4] at h; exact absurd h (by decide)
  by_cases g5 : norm (wsum (pseu src dst 6 b.length ++ b)) ≠ 65535
  · rw [if_neg g0, if_neg g1, if_neg g2, if_neg g3, if_neg g4, if_pos g5] at h; exact absurd h (by decide)
  exact Decidable.byContradiction g5
theorem flip_bad {X : List UInt8} (hX : norm (wsum X) = 65535) {i j : Nat} (hi : i < X.length) (hj : j < 8) : norm (wsum (X.set i (flipB X[i] j))) ≠ 65535 := by
  intro hx
  obtain ⟨d, d1, d2, d3⟩ := wsum_flip hi hj
  have m0 := norm_mod (wsum X)
  have m1 := norm_mod (wsum (X.set i (flipB X[i] j)))
  rw [hX] at m0
  rw [hx] at m1
  omega
theorem flip_app {p b : List UInt8} {i j : Nat} (hi : i < b.length) : (p ++ b).set (p.length + i) (flipB ((p ++ b)[p.length + i]'(by rw [List.length_append]; omega)) j) = p ++ b.set i (flipB b[i] j) := by
  rw [List.set_append_right _ _ (by omega), Nat.add_sub_cancel_left]
  congr 2
  rw [List.getElem_append_right (by omega)]
  simp only [Nat.add_sub_cancel_left]
theorem body_bad {b : List UInt8} {src dst : api_Addr} (h : norm (wsum (pseu src dst 6 b.length ++ b)) = 65535) {i j : Nat} (hi : i < b.length) (hj : j < 8) : (get7 (b.set i (flipB b[i] j)) src dst).2.2 ≠ 0 := by
  intro hx
  have h1 := get7_sum hx
  rw [List.length_set] at h1
  have h2 := flip_bad h (i := (pseu src dst 6 b.length).length + i) (j := j) (by rw [List.length_append]; omega) hj
  rw [flip_app hi] at h2
  exact h2 h1
theorem told_bad {s : List UInt8} (h : (open11 s).err = 0 → (open11 s).proto ≠ 17 ∧ ((open11 s).proto = 6 → (get7 (open11 s).body (open11 s).src (open11 s).dst).2.2 ≠ 0)) : (told11 s).2.2.2 ≠ 0 := by
  intro hx
  obtain ⟨a, b⟩ := told11_err hx
  obtain ⟨c, d⟩ := h a
  unfold in11 at b
  by_cases p6 : (open11 s).proto = 6
  · rw [if_pos p6, if_pos (d p6)] at b
    exact d p6 b
  · rw [if_neg p6, if_neg c] at b
    exact absurd b (by decide)
theorem slice_in {s : List UInt8} {i p k : Nat} {f : UInt8} (h1 : p ≤ i) : ((s.set i f).drop p).take k = ((s.drop p).take k).set (i - p) f := by
  apply List.ext_getElem?
  intro x
  simp only [List.getElem?_take, List.getElem?_drop, List.getElem?_set, List.length_take, List.length_drop]
  by_cases hx : x < k
  · rw [if_pos hx]
    by_cases hi : i = p + x
    · rw [if_pos hi, if_pos (show i - p = x by omega)]
      by_cases hl : i < s.length
      · rw [if_pos hl, if_pos (by omega)]
      · rw [if_neg hl, if_neg (by omega)]
    · rw [if_neg hi, if_neg (show ¬ i - p = x by omega), if_pos hx]
  · rw [if_neg hx]
    by_cases hi : i - p = x
    · rw [if_pos hi, if_neg (by omega)]
    · rw [if_neg hi, if_neg hx]
theorem flipB_ne : ∀ x : Fin 256, ∀ j : Fin 8, x.val ^^^ 2 ^ j.val ≠ x.val := by decide +kernel
theorem flip6 : ∀ j : Fin 8, 6 ^^^ 2 ^ j.val ≠ 6 ∧ 6 ^^^ 2 ^ j.val ≠ 17 := by decide +kernel
theorem valL_inj {a b : List UInt8} (hl : a.length = b.length) (h : valL a = valL b) : a = b := by
  have h1 := be_val' (l := a) rfl
  rw [h, hl, be_val' rfl] at h1
  exact h1.symm
theorem set_flip_ne {l : List UInt8} {i j : Nat} (hi : i < l.length) (hj : j < 8) : l.set i (flipB l[i] j) ≠ l := by
  intro h
  have h1 : (l.set i (flipB l[i] j))[i]? = l[i]? := by rw [h]
  rw [List.getElem?_set, if_pos rfl, if_pos hi, List.getElem?_eq_getElem hi, Option.some.injEq] at h1
  have h2 := flipB_nat (b := l[i]) hj
  rw [h1] at h2
  exact flipB_ne ⟨l[i].toNat, l[i].toNat_lt⟩ ⟨j, hj⟩ h2.symm
theorem turned6 {t : api_Tuple} {b : List UInt8} (h1 : A4 t.Src) (h2 : A4 t.Dst) (v1 : t.Src.V6 = true) (v2 : t.Dst.V6 = true) (hh : H6 (h6of t)) (hb : b.length ≤ 65535) (p6 : t.Proto = 6) (hs : norm (wsum (pseu t.Src t.Dst 6 b.length ++ b)) = 65535) {s : List UInt8} (e : headB (h6of t) b.length ++ b = s) {i j : Nat} (hi4 : 4 ≤ i) (h7 : i ≠ 7) (hi : i < s.length) (hj : j < 8) : (told11 (s.set i (flipB s[i] j))).2.2.2 ≠ 0 := by
  have hl0 := headB_len (h6of t) b.length
  have hlen : s.length = 40 + b.length := by rw [← e, List.length_append, hl0]
  obtain ⟨q1, q2, q3, q4, q5, q6, q7⟩ := parts6 (a := be (6 * 2 ^ 28 + (h6of t).Class.toNat * 2 ^ 20 + (h6of t).Label.toNat) 4) (b := be b.length 2) (c := be (h6of t).Next.toNat 1) (d := be (h6of t).Hop.toNat 1) (e := addrB (h6of t).Src) (f := addrB (h6of t).Dst) (r := b) (by simp) (by simp) (by simp) (by simp) (by simp [addrB]) (by simp [addrB])
  have e2 : be (6 * 2 ^ 28 + (h6of t).Class.toNat * 2 ^ 20 + (h6of t).Label.toNat) 4 ++ be b.length 2 ++ be (h6of t).Next.toNat 1 ++ be (h6of t).Hop.toNat 1 ++ addrB (h6of t).Src ++ addrB (h6of t).Dst ++ b = s := by rw [← e]; rfl
  rw [e2] at q1 q2 q3 q4 q5 q6 q7
  by_cases h40 : 40 ≤ i
  ·
    have es : s.set i (flipB s[i] j) = headB (h6of t) (b.set (i - 40) (flipB (b[i - 40]'(by omega)) j)).length ++ (b.set (i - 40) (flipB (b[i - 40]'(by omega)) j) ++ []) := by
      rw [List.append_nil, List.length_set]
      have := flip_app (p := headB (h6of t) b.length) (b := b) (i := i - 40) (j := j) (by omega)
      rw [← this]
      subst e
      simp only [hl0, show 40 + (i - 40) = i by omega]
    refine told_bad fun _ => ?_
    rw [es, open_v6 h1 h2 hh (by rw [List.length_set]; exact hb), if_pos rfl]
    exact ⟨by show t.Proto ≠ 17; omega, fun _ => body_bad hs (by omega) hj⟩
  · have f0 : vK s 0 1 = 96 := by rw [← e]; exact first6 t _ _
    generalize hf : flipB s[i] j = f
    have g0 : vK (s.set i f) 0 1 = 96 := by rw [← f0]; unfold vK; rw [slice_set (by omega)]
    have t4 : (s.set i f).take 4 = s.take 4 := List.take_set_of_le (by omega)
    have d40 : (s.set i f).drop 40 = b := by rw [List.drop_set_of_lt (by omega)]; exact q7
    have m4 : valL (s.take 4) / 2 ^ 28 = 6 := by
      rw [q1, show (h6of t).Class.toNat = 0 from rfl, show (h6of t).Label.toNat = 0 from rfl]; rfl
    have hsl : (s.set i f).length = 40 + b.length := by rw [List.length_set, hlen]
    have hg : get6 (s.set i f) = if b.length < valL (((s.set i f).drop 4).take 2) then (zero6, [], 2) else (head6 (s.set i f), b.take (valL (((s.set i f).drop 4).take 2)), 0) := by
      unfold get6
      rw [if_neg (by omega), t4, if_neg (by rw [m4]; decide), hsl, d40, show 40 + b.length - 40 = b.length by omega]
    have ho : open11 (s.set i f) = if b.length < valL (((s.set i f).drop 4).take 2) then zO 2 else if b.length ≠ (b.take (valL (((s.set i f).drop 4).take 2))).length then zO 5 else ⟨(head6 (s.set i f)).Src, (head6 (s.set i f)).Dst, (head6 (s.set i f)).Next, 40, b.take (valL (((s.set i f).drop 4).take 2)), 0⟩ := by
      unfold open11
      rw [g0, if_neg (by decide), if_pos (by decide), hg, hsl]
      by_cases c : b.length < valL (((s.set i f).drop 4).take 2)
      · rw [if_pos c, if_pos c]; rfl
      · rw [if_neg c, if_neg c, if_neg (by simp)]
        simp only []
        by_cases c2 : b.length = (b.take (valL (((s.set i f).drop 4).take 2))).length
        · rw [if_neg (by omega), if_neg (by simpa using c2)]
        · rw [if_pos (by omega), if_pos c2]
    have hn : valL ((s.drop 4).take 2) = b.length := by rw [q2, val_be_lt (by omega)]
    by_cases h6 : i < 6
    ·
      have hne : valL (((s.set i f).drop 4).take 2) ≠ b.length := by
        rw [← hn]
        intro h
        have h3 := valL_inj (by simp only [List.length_take, List.length_drop, List.length_set]) h
        rw [slice_in hi4, ← hf] at h3
        have h4 : ((s.drop 4).take 2)[i - 4]'(by simp; omega) = s[i] := by simp only [List.getElem_take, List.getElem_drop, show 4 + (i - 4) = i by omega]
        have := set_flip_ne (l := (s.drop 4).take 2) (i := i - 4) (j := j) (by simp; omega) hj
        rw [h4] at this
        exact this h3
      refine told_bad fun he => ?_
      rw [ho] at he
      by_cases c : b.length < valL (((s.set i f).drop 4).take 2)
      · rw [if_pos c] at he; exact absurd he (by decide)
      · rw [if_neg c, if_pos (by rw [List.length_take]; omega)] at he; exact absurd he (by decide)
    · have hn2 : valL (((s.set i f).drop 4).take 2) = b.length := by rw [slice_set (by omega), hn]
      rw [hn2, if_neg (by omega), List.take_length, if_neg (by simp)] at ho
      refine told_bad fun _ => ?_
      rw [ho]
      by_cases e6 : i = 6
      ·
        subst e6
        have hnx : (head6 (s.set 6 f)).Next = ((6 ^^^ 2 ^ j : Nat) : Int) := by
          show ((valL (((s.set 6 f).drop 6).take 1) : Nat) : Int) = _
          rw [slice_in (Nat.le_refl _), q3, show (h6of t).Next.toNat = 6 by show t.Proto.toNat = 6; omega, ← hf]
          have h5 : s[6].toNat = 6 := by
            have a1 := vK_one (s := s) (p := 6) (by omega)
            have a2 := vK_of q3 rfl (by show t.Proto.toNat < _; omega)
            rw [show (h6of t).Next.toNat = 6 by show t.Proto.toNat = 6; omega] at a2
            omega
          have := flipB_nat (b := s[6]) hj
          rw [h5] at this
          show ((valL [flipB s[6] j] : Nat) : Int) = _
          rw [val_cons, val_nil, this]; simp
        have := flip6 ⟨j, hj⟩
        simp only at this
        simp only [hnx]
        exact ⟨by omega, fun h => by omega⟩
      ·
        have hnx : (head6 (s.set i f)).Next = 6 := by
          show ((valL (((s.set i f).drop 6).take 1) : Nat) : Int) = _
          rw [slice_set (by omega), q3, val_be_lt (by show t.Proto.toNat < _; omega)]
          show ((t.Proto.toNat : Nat) : Int) = 6
          omega
        simp only [hnx]
        refine ⟨by decide, fun _ => ?_⟩
        show (get7 b (addrG (((s.set i f).drop 8).take 16)) (addrG (((s.set i f).drop 24).take 16))).2.2 ≠ 0
        intro hx
        have hx2 := get7_sum hx
        have ab : ∀ x : List UInt8, x.length = 16 → abytes (addrG x) = x := fun x hx => by
          have := addrB_addrG hx
          unfold abytes
          exact this
        have hS : t.Src = addrG ((s.drop 8).take 16) := by rw [q5]; exact (addrG_addrB h1.addrOK v1).symm
        have hD : t.Dst = addrG ((s.drop 24).take 16) := by rw [q6]; exact (addrG_addrB h2.addrOK v2).symm
        have pg : ∀ x y : List UInt8, x.length = 16 → y.length = 16 → pseu (addrG x) (addrG y) 6 b.length = x ++ y ++ (putS b.length 4 ++ putS 0 3 ++ putS 6 1) := fun x y hx hy => by
          unfold pseu
          rw [if_pos ⟨rfl, rfl, rfl⟩, ab x hx, ab y hy]; rfl
        rw [hS, hD, pg _ _ (by simp; omega) (by simp; omega)] at hs
        rw [pg _ _ (by simp; omega) (by simp; omega)] at hx2
        have c1 : ∀ u : List UInt8, (u.drop 8).take 16 ++ (u.drop 24).take 16 = (u.drop 8).take 32 := fun u => by
          rw [show (32 : Nat) = 16 + 16 from rfl, List.take_add, List.drop_drop]
        rw [c1, List.append_assoc] at hs hx2
        rw [slice_in (by omega), ← hf] at hx2
        have hw : ((s.drop 8).take 32).length = 32 := by simp; omega
        have h4 : ((s.drop 8).take 32)[i - 8]'(by omega) = s[i] := by simp only [List.getElem_take, List.getElem_drop, show 8 + (i - 8) = i by omega]
        have hfb := flip_bad hs (i := i - 8) (j := j) (by simp only [List.length_append]; omega) hj
        have h5 : ((s.drop 8).take 32 ++ (putS (b.length : Int) 4 ++ putS 0 3 ++ putS 6 1 ++ b))[i - 8]'(by simp only [List.length_append]; omega) = s[i] := by
          rw [List.getElem_append_left (by omega), h4]
        rw [List.set_append_left _ _ (by omega), h5] at hfb
        exact hfb hx2
theorem turned4 {t : api_Tuple} {b : List UInt8} (h1 : A4 t.Src) (h2 : A4 t.Dst) (hh : H5 (h5of t) = true) (hb : 20 + b.length ≤ 65535) (p6 : t.Proto = 6) (hs : norm (wsum (pseu t.Src t.Dst 6 b.length ++ b)) = 65535) {s : List UInt8} (e : hc5 (h5of t) (20 + b.length) (ck5 (h5of t) (20 + b.length)) ++ b = s) {i j : Nat} (hi1 : 1 ≤ i) (hi : i < s.length) (hj : j < 8) : (told11 (s.set i (flipB s[i] j))).2.2.2 ≠ 0 := by
  have hl0 := hc5_len (h5of t) (20 + b.length) (ck5 (h5of t) (20 + b.length))
  have ho0 : (h5of t).Options.length = 0 := rfl
  rw [ho0, Nat.add_zero] at hl0
  have hlen : s.length = 20 + b.length := by rw [← e, List.length_append, hl0]
  by_cases h20 : 20 ≤ i
  · have es : s.set i (flipB s[i] j) = hc5 (h5of t) (20 + (b.set (i - 20) (flipB (b[i - 20]'(by omega)) j)).length) (ck5 (h5of t) (20 + (b.set (i - 20) (flipB (b[i - 20]'(by omega)) j)).length)) ++ (b.set (i - 20) (flipB (b[i - 20]'(by omega)) j) ++ []) := by
      rw [List.append_nil, List.length_set]
      have := flip_app (p := hc5 (h5of t) (20 + b.length) (ck5 (h5of t) (20 + b.length))) (b := b) (i := i - 20) (j := j) (by omega)
      rw [← this]
      subst e
      simp only [hl0, show 20 + (i - 20) = i by omega]
    refine told_bad fun _ => ?_
    rw [es, open_v4 h1 h2 hh (by rw [List.length_set]; exact hb), if_pos rfl]
    exact ⟨by show t.Proto ≠ 17; omega, fun _ => body_bad hs (by omega) hj⟩
  · have hf := get_flip (h := h5of t) (l := b) (i := i) (j := j) (by omega) (by omega) (20 + b.length) (by rw [e]; exact hi) hj hi1 (by omega)
    have f0 : vK (s.set i (flipB s[i] j)) 0 1 = 69 := by
      have := first5 t (20 + b.length) (ck5 (h5of t) (20 + b.length)) b
      rw [e] at this
      rw [← this]; unfold vK; rw [slice_set (by omega)]
    subst e
    refine told_bad fun he => ?_
    unfold open11 at he
    rw [f0, if_pos (by decide), if_pos hf] at he
    exact absurd he hf
def okE (p : api_Packet) : Bool := (p.Tuple.Proto == 0) && ((p.Tuple.Src.V6 == false) && ((p.Tuple.Src.Hi == 0) && ((p.Tuple.Src.Lo == 0) && ((p.Tuple.Dst.V6 == false) && ((p.Tuple.Dst.Hi == 0) && ((p.Tuple.Dst.Lo == 0) && ((p.Tuple.SPort == 0) && ((p.Tuple.DPort == 0) && ((p.Flags == 0) && ((p.Stamped == false) && ((p.Val == 0) && ((p.Echo == 0) && ((p.Long == false) && ((p.CID == []) && ((p.Size == 0) && true)))))))))))))))
theorem fin11t {s : List UInt8} (hs : s.length < 2 ^ 19) (h : (told11 s).2.2.2 ≠ 0) : ((packet_Parse s).bind fun p => cond (p.2 != 0) (cond (okE p.1) ((some true).bind fun a3 => some a3) (some false)) (some false)) = some true := by
  rw [parse_eq hs, Option.bind_some, told11_zero h]
  simp only []
  rw [show ((told11 s).2.2.2 != 0) = true by simpa using h]; rfl
theorem packetTurned (t : api_Tuple) (flags val echo : Int) (l : List UInt8) (bit : Int) (h1 : A4 t.Src) (h2 : A4 t.Dst) (hf : 0 ≤ flags ∧ flags < 256) (hv : 0 ≤ val ∧ val < 4294967296) (he : 0 ≤ echo ∧ echo < 4294967296) (hb : 0 ≤ bit ∧ bit < 65536) : law11_PacketTurned t flags val echo l bit = some true := by
  unfold law11_PacketTurned law11_PacketTurnedF
  by_cases g1 : (l.length : Int) > 100
  · rw [cond_p g1, awake11t]; rfl
  obtain ⟨v, rfl⟩ := Int.eq_ofNat_of_zero_le hv.1
  obtain ⟨e, rfl⟩ := Int.eq_ofNat_of_zero_le he.1
  have hv2 : v < 4294967296 := by omega
  have he2 : e < 4294967296 := by omega
  have hsl : (stamped7 v e).length = 12 := by simp [stamped7]
  rw [cond_n g1, rstamped_eq hv2 he2, Option.bind_some, wI64 (n := flags) (by omega) (by omega), p11seg_eq h1 h2 (by omega) (by omega), Option.bind_some]
  by_cases gs : (seg11 t flags (stamped7 v e) l).2 = 0
  · rw [show ((seg11 t flags (stamped7 v e) l).2 != 0) = false by simpa using gs, cond_false]
    obtain ⟨p6, d0, de⟩ := seg11_ok gs
    rw [de] at gs ⊢
    have hw : W7 ⟨t.SPort, t.DPort, 0, 0, flags, 65535, 0, stamped7 v e⟩ := ⟨⟨by simp only []; omega, by simp only []; omega⟩, by simp only []; omega, by simp only []; omega⟩
    have ho : (opt7 (stamped7 v e)).2 = 0 := by unfold stamped7; rw [opt7_stamped (by simp)]
    obtain ⟨k1, k2, k3⟩ := put7_ok d0
    have hg := get_put7 k1 hw ho k2
    rw [show hc7 _ (ck7 (pseu t.Src t.Dst 6 (20 + (stamped7 v e).length + l.length)) ⟨t.SPort, t.DPort, 0, 0, flags, 65535, 0, stamped7 v e⟩ l) ++ l = (put7 ⟨t.SPort, t.DPort, 0, 0, flags, 65535, 0, stamped7 v e⟩ t.Src t.Dst l).1 by rw [k3]] at hg
    have hsum := get7_sum (by rw [hg])
    have hbl : (put7 ⟨t.SPort, t.DPort, 0, 0, flags, 65535, 0, stamped7 v e⟩ t.Src t.Dst l).1.length = 32 + l.length := by
      rw [k3]; simp only [List.length_append, hc7_len, hsl]
    generalize (put7 ⟨t.SPort, t.DPort, 0, 0, flags, 65535, 0, stamped7 v e⟩ t.Src t.Dst l).1 = b at *
    obtain ⟨ml, m9⟩ := made_len gs
    obtain ⟨o1, _, _, _, _, o6⟩ := put11_ok gs
    have hdr : cond t.Src.V6 40 20 = 40 ∧ t.Src.V6 = true ∨ cond t.Src.V6 40 20 = 20 ∧ t.Src.V6 = false := by cases t.Src.V6 <;> simp
    rw [cond_n (by omega), awake11t]
    have hbig : ∀ (i j : Nat) (hi : i < (put11 t b).1.length), j < 8 → 1 ≤ i → (t.Src.V6 = true → 4 ≤ i ∧ i ≠ 7) → (told11 ((put11 t b).1.set i (flipB (put11 t b).1[i] j))).2.2.2 ≠ 0 := by
      intro i j hi hj hi1 hi4
      rcases o6 with ⟨v6, hh, hb2, e6⟩ | ⟨v6, hh, hb2, e6⟩
      · exact turned6 h1 h2 v6 (by rw [← o1]; exact v6) hh hb2 p6 hsum (s := (put11 t b).1) (by rw [e6]) (hi4 v6).1 (hi4 v6).2 hi hj
      · exact turned4 h1 h2 hh hb2 p6 hsum (s := (put11 t b).1) (by rw [e6]) hi1 hi hj
    generalize (put11 t b).1 = P at *
    rw [wI64 (n := 8 * (P.length : Int)) (by omega) (by omega), wI64 (n := bit) (by omega) (by omega)]
    have fin : ∀ (i j : Nat) (hi : i < P.length), j < 8 → 1 ≤ i → (t.Src.V6 = true → 4 ≤ i ∧ i ≠ 7) → (oreq (decide ((0 : Int) ≤ (i : Int) ∧ (i : Int) < (P.length : Int))) <|
            ((bI P)[((i : Nat) : Int).toNat]?).bind fun (e : Int) =>
            oreq (decide (0 ≤ ((j : Nat) : Int))) <|
            oreq (decide ((0 : Int) ≤ (i : Int) ∧ (i : Int) < (P.length : Int))) <|
            oreq (decide (((i : Nat) : Int).toNat < (bI P).length)) <|
            oreq (decide (P.length ≤ ((bI P).set ((i : Nat) : Int).toNat (ixorI .u8 e (wI .u8 (1 * 2 ^ (min ((j : Nat) : Int).toNat 8))))).length)) <|
            (packet_Parse (iB (((bI P).set ((i : Nat) : Int).toNat (ixorI .u8 e (wI .u8 (1 * 2 ^ (min ((j : Nat) : Int).toNat 8))))).take P.length))).bind fun p =>
            cond (p.2 != 0) (cond (okE p.1) ((some true).bind fun a3 => some a3) (some false)) (some false)) = some true := by
      intro i j hi hj hi1 hi4
      simp only [Int.toNat_natCast]
      rw [oreq_p (by omega), bI_get hi, Option.bind_some, oreq_p (by omega), oreq_p (by omega), oreq_p (by simpa using hi), oreq_p (by simp), flip_row hi hj rfl]
      exact fin11t (by rw [List.length_set]; omega) (hbig i j hi hj hi1 hi4)
    rcases hdr with ⟨hd, hv6⟩ | ⟨hd, hv6⟩
    · rw [hv6, cond_true, wI64 (n := 8 * (P.length : Int) - 32) (by omega) (by omega)]
      have e0 : bit.tmod (8 * (P.length : Int) - 32) = ((bit.toNat % (8 * P.length - 32) : Nat) : Int) := by
        have h8 : ((8 * P.length - 32 : Nat) : Int) = 8 * (P.length : Int) - 32 := by omega
        rw [Int.tmod_eq_emod_of_nonneg hb.1, Int.natCast_emod, h8, Int.toNat_of_nonneg hb.1]
      have hk := Nat.mod_lt bit.toNat (show 0 < 8 * P.length - 32 by omega)
      simp only []
      rw [oreq.mk (b := !(decide (8 * (P.length : Int) - 32 = 0))) (by rw [Bool.not_eq_true', decide_eq_false_iff_not]; omega), e0]
      generalize bit.toNat % (8 * P.length - 32) = k at *
      rw [wI64 (n := 32 + (k : Int)) (by omega) (by omega), show (32 + (k : Int)).tdiv 8 = (((32 + k) / 8 : Nat) : Int) by rw [Int.tdiv_eq_ediv_of_nonneg (by omega)]; omega, show (32 + (k : Int)).tmod 8 = (((32 + k) % 8 : Nat) : Int) by rw [Int.tmod_eq_emod_of_nonneg (by omega)]; omega, wI64 (n := (((32 + k) / 8 : Nat) : Int)) (by omega) (by omega)]
      by_cases h7 : (32 + k) / 8 = 7
      · rw [h7]; rfl
      · rw [show ((((32 + k) / 8 : Nat) : Int) == 7) = false by simp; omega, cond_false]
        exact fin ((32 + k) / 8) ((32 + k) % 8) (by omega) (Nat.mod_lt _ (by decide)) (by omega) (fun _ => ⟨by omega, h7⟩)
    · rw [hv6, cond_false, wI64 (n := 8 * (P.length : Int) - 8) (by omega) (by omega)]
      have e0 : bit.tmod (8 * (P.length : Int) - 8) = ((bit.toNat % (8 * P.length - 8) : Nat) : Int) := by
        have h8 : ((8 * P.length - 8 : Nat) : Int) = 8 * (P.length : Int) - 8 := by omega
        rw [Int.tmod_eq_emod_of_nonneg hb.1, Int.natCast_emod, h8, Int.toNat_of_nonneg hb.1]
      have hk := Nat.mod_lt bit.toNat (show 0 < 8 * P.length - 8 by omega)
      simp only []
      rw [oreq.mk (b := !(decide (8 * (P.length : Int) - 8 = 0))) (by rw [Bool.not_eq_true', decide_eq_false_iff_not]; omega), e0]
      generalize bit.toNat % (8 * P.length - 8) = k at *
      rw [wI64 (n := 8 + (k : Int)) (by omega) (by omega), show (8 + (k : Int)).tdiv 8 = (((8 + k) / 8 : Nat) : Int) by rw [Int.tdiv_eq_ediv_of_nonneg (by omega)]; omega, show (8 + (k : Int)).tmod 8 = (((8 + k) % 8 : Nat) : Int) by rw [Int.tmod_eq_emod_of_nonneg (by omega)]; omega, wI64 (n := (((8 + k) / 8 : Nat) : Int)) (by omega) (by omega)]
      exact fin ((8 + k) / 8) ((8 + k) % 8) (by omega) (Nat.mod_lt _ (by decide)) (by omega) (fun x => by rw [hv6] at x; cases x)
  · rw [show ((seg11 t flags (stamped7 v e) l).2 != 0) = true by simpa using gs, cond_true, seg11_bad gs, awake11t]; rfl
end Go.Vm.Code
