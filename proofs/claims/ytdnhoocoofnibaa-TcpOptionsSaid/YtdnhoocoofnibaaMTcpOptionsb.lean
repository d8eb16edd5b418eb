import Derived.Test.YtdnhoocoofnibaaMTcpOptionsa
/- Numbers read at a place of bytes; ranges; pseudo headers: plain words. -/
namespace Go.Vm.Code
open Go Go.Vm
def inR (n m : Int) : Bool := decide (0 ≤ n ∧ n ≤ m)
theorem inR_iff {n m : Int} : inR n m = true ↔ 0 ≤ n ∧ n ≤ m := by unfold inR; simp
theorem opt_mod (n : Nat) : (((n : Int).tmod 4) == 0) = decide (n % 4 = 0) := by
  rw [Int.tmod_eq_emod_of_nonneg (by omega), Bool.eq_iff_iff, beq_iff_eq, decide_eq_true_eq]; omega
theorem opt_le (n : Nat) : decide ((n : Int) ≤ 40) = decide (n ≤ 40) := by rw [Bool.eq_iff_iff, decide_eq_true_eq, decide_eq_true_eq]; omega
theorem tdiv4 (n : Nat) : (20 + (n : Int)).tdiv 4 = (((20 + n) / 4 : Nat) : Int) := by rw [Int.tdiv_eq_ediv_of_nonneg (by omega)]; omega
/-- some bytes' number -/
def vK (s : List UInt8) (p k : Nat) : Int := (valL ((s.drop p).take k) : Nat)
theorem vK_rng (s : List UInt8) (p k n : Nat) (h : 256 ^ k ≤ n) : 0 ≤ vK s p k ∧ vK s p k < n := by
  have := val_take_lt (l := s.drop p) (k := k) n h
  unfold vK; omega
theorem num_at {s : List UInt8} {p k : Nat} (h1 : 1 ≤ k) (h7 : k ≤ 7) (h : p + k ≤ s.length) (hl : s.length < 2 ^ 61) : octet_Reader_Num ⟨s.drop p, true, false⟩ (k : Int) = some (vK s p k, ⟨s.drop (p + k), true, false⟩) := by
  have hd : (s.drop p).length = s.length - p := by simp
  rw [rNum_eq rfl (by simp only; omega), if_neg (by omega), rdr_ok (by omega) (by omega)]
  unfold rdn
  rw [if_neg (by omega), rdt_ok (by omega) (by omega), Int.toNat_natCast, List.drop_drop]; rfl
theorem text_at {s : List UInt8} {p k : Nat} (h : p + k ≤ s.length) : octet_Reader_Text ⟨s.drop p, true, false⟩ (k : Int) = some ((s.drop p).take k, ⟨s.drop (p + k), true, false⟩) := by
  have hd : (s.drop p).length = s.length - p := by simp
  rw [rText_eq rfl, rdr_ok (by omega) (by omega), rdt_ok (by omega) (by omega), Int.toNat_natCast, List.drop_drop]
theorem must_at {s : List UInt8} {p k : Nat} (hs : s.length < 2 ^ 61) (h1 : 1 ≤ k) (h7 : k ≤ 7) (h : p + k ≤ s.length) : R02_Must s (p : Int) (k : Int) = some (vK s p k) := by
  rw [R02_Must_eq hs, getS_at (by omega) (by omega) (by omega) (by omega)]
  have := vK_rng s p k (256 ^ k) (Nat.le_refl _)
  have h8 : 256 ^ k ≤ 256 ^ 7 := Nat.pow_le_pow_right (by decide) h7
  have h9 : (256 : Nat) ^ 7 = 72057594037927936 := by decide
  show some (wI .i64 (vK s p k)) = _
  rw [wI64 (by omega) (by omega)]
theorem vK_one {s : List UInt8} {p : Nat} (h : p < s.length) : vK s p 1 = (s[p].toNat : Int) := by
  unfold vK
  rw [List.drop_eq_getElem_cons h]
  show ((valL [s[p]] : Nat) : Int) = _
  rw [val_cons]; simp
theorem vK_two {s : List UInt8} {p : Nat} (h : p + 1 < s.length) : vK s p 2 = (s[p].toNat * 256 + s[p + 1].toNat : Int) := by
  unfold vK
  rw [List.drop_eq_getElem_cons (by omega : p < s.length), List.drop_eq_getElem_cons h]
  show ((valL [s[p], s[p + 1]] : Nat) : Int) = _
  rw [val_cons, val_cons]; simp
theorem l1 {l : List UInt8} (h : l.length = 1) : ∃ a, l = [a] := by
  match l, h with
  | [a], _ => exact ⟨a, rfl⟩
theorem l2 {l : List UInt8} (h : l.length = 2) : ∃ a b, l = [a, b] := by
  match l, h with
  | [a, b], _ => exact ⟨a, b, rfl⟩
theorem l4 {l : List UInt8} (h : l.length = 4) : ∃ a b c d, l = [a, b, c, d] := by
  match l, h with
  | [a, b, c, d], _ => exact ⟨a, b, c, d, rfl⟩
theorem vK_of {s w : List UInt8} {p k n : Nat} (h : (s.drop p).take k = w) (e : w = be n k) (hn : n < 256 ^ k) : vK s p k = (n : Int) := by
  unfold vK; rw [h, e, val_be_lt hn]
theorem be_vK {s : List UInt8} {p k : Nat} (h : p + k ≤ s.length) : be (vK s p k).toNat k = (s.drop p).take k := by
  unfold vK; rw [Int.toNat_natCast]; exact be_val' (by simp; omega)
theorem putS_two (n : Int) : putS n 2 = be n.toNat 2 := putS_be (k := 2) (by omega)
theorem pseu_even (src dst : api_Addr) (p n : Int) : (pseu src dst p n).length % 2 = 0 := by
  unfold pseu
  split
  · rename_i h
    rw [List.length_append, List.length_append, abytes_len, abytes_len, ← h.2.2]
    cases src.V6
    · simp only [cond_false, List.length_append]
      rw [show (putS 0 1).length = 1 from rfl, show putS p 1 = be p.toNat 1 from putS_be (k := 1) (by omega), show putS n 2 = be n.toNat 2 from putS_be (k := 2) (by omega), be_len, be_len]
    · simp only [cond_true, List.length_append]
      rw [show (putS 0 3).length = 3 from rfl, show putS p 1 = be p.toNat 1 from putS_be (k := 1) (by omega), show putS n 4 = be n.toNat 4 from putS_be (k := 4) (by omega), be_len, be_len]
  · rfl
end Go.Vm.Code

/- A word of check in the middle of bytes: plain words. -/
namespace Go.Vm.Code
open Go Go.Vm
theorem setS_mid {A B : List UInt8} {p : Nat} {c : Int} (hA : A.length = p) : setS (A ++ (be 0 2 ++ B)) (p : Int) 2 c = A ++ (be c.toNat 2 ++ B) := by
  subst hA
  unfold setS
  rw [if_pos (by simp only [List.length_append, be_len]; omega), Int.toNat_natCast, List.take_left, show ((A.length : Int) + 2).toNat = A.length + 2 by omega, ← List.drop_drop, List.drop_left, show (be 0 2 ++ B).drop 2 = B from rfl, List.append_assoc]; rfl
theorem wsum_mid {A B : List UInt8} {c : Nat} (hA : A.length % 2 = 0) (hc : c < 65536) : wsum (A ++ (be c 2 ++ B)) = wsum (A ++ (be 0 2 ++ B)) + c := by
  rw [wsum_append _ _ hA, wsum_append _ _ hA, wsum_append (be c 2) B (by simp), wsum_append (be 0 2) B (by simp), wsum_be2 hc, wsum_be2 (by omega)]; omega
/-- the check of bytes whose check is 0 -/
def ckN (W : Nat) : Nat := 65535 - norm W
theorem ckN_ok (W : Nat) : ckN W ≤ 65535 ∧ (W + ckN W) % 65535 = 0 ∧ W + ckN W ≠ 0 := by
  have n1 := norm_le W
  have n2 := norm_mod W
  have n3 := norm_zero W
  unfold ckN; omega
/-- a right check is the one that is written, or 65535 -/
theorem ckN_uniq {W c : Nat} (hc : c ≤ 65535) (h : norm (W + c) = 65535) : c = ckN W ∨ c = 65535 := by
  have n0 := norm_le W
  have n1 := norm_mod (W + c)
  have n2 := norm_mod W
  have n3 := norm_zero W
  have n4 := norm_zero (W + c)
  rw [h] at n1 n4
  unfold ckN; omega
theorem bytes_two {l : List UInt8} (h : l.length = 2) : l = be (valL l) 2 := (be_val' h).symm
theorem be_two (a b : Nat) (hb : b < 65536) : be (a * 65536 + b) 4 = be a 2 ++ be b 2 := by
  rw [be_split _ 2 2, show (256 : Nat) ^ 2 = 65536 from rfl, show (a * 65536 + b) / 65536 = a by omega, ← be_mod (a * 65536 + b) 2, show (256 : Nat) ^ 2 = 65536 from rfl, show (a * 65536 + b) % 65536 = b by omega]
theorem be_four (a b : Nat) (hb : b < 4294967296) : be (a * 4294967296 + b) 8 = be a 4 ++ be b 4 := by
  rw [be_split _ 4 4, show (256 : Nat) ^ 4 = 4294967296 from rfl, show (a * 4294967296 + b) / 4294967296 = a by omega, ← be_mod (a * 4294967296 + b) 4, show (256 : Nat) ^ 4 = 4294967296 from rfl, show (a * 4294967296 + b) % 4294967296 = b by omega]
theorem be_one (a b : Nat) (hb : b < 256) : be (a * 256 + b) 2 = be a 1 ++ be b 1 := by
  rw [be_split _ 1 1, show (256 : Nat) ^ 1 = 256 from rfl, show (a * 256 + b) / 256 = a by omega, ← be_mod (a * 256 + b) 1, show (256 : Nat) ^ 1 = 256 from rfl, show (a * 256 + b) % 256 = b by omega]
end Go.Vm.Code

namespace Go.Vm.Code
open Go Go.Vm Go.Proofs
set_option maxRecDepth 100000
set_option maxHeartbeats 4000000
set_option linter.unusedVariables false

/-! cloakroom/tcp.Stamp -/
def tcp_Stamp_s1 (octet_Get : (List UInt8) → Int → Int → Option (Int × Bool)) (text : List UInt8) (i : Int) : Option (Sum Int (Int × Int × Int)) :=
  cond (decide (i < (text.length : Int)))
    (
    oreq (decide (0 ≤ i)) <|
    (text[i.toNat]?).bind fun (b : UInt8) =>
    cond ((b.toNat : Int) == 0)
      (
      some (.inr ((0, 0, (-1)))))
      (
      cond ((b.toNat : Int) == 1)
        (
        some (.inl (wI .i64 (i + 1))))
        (
        let t := decide ((wI .i64 (i + 1)) < (text.length : Int))
        cond (t)
          (
          oreq (decide (0 ≤ (wI .i64 (i + 1)))) <|
          (text[(wI .i64 (i + 1)).toNat]?).bind fun (b1 : UInt8) =>
          cond (decide ((wI .i64 (b1.toNat : Int)) < 2))
            (
            some (.inr ((0, 0, (-1)))))
            (
            let t1 := decide ((wI .i64 (b1.toNat : Int)) > (wI .i64 ((text.length : Int) - i)))
            cond (t1)
              (
              some (.inr ((0, 0, (-1)))))
              (
              oreq (decide (0 ≤ i)) <|
              (text[i.toNat]?).bind fun (b2 : UInt8) =>
              oreq (decide ((0 : Int) ≤ (wI .i64 (i + (wI .i64 (b1.toNat : Int)))) ∧ (wI .i64 (i + (wI .i64 (b1.toNat : Int)))) ≤ (text.length : Int) ∧ (0 : Int) ≤ (wI .i64 (i + 2)) ∧ (wI .i64 (i + 2)) ≤ ((wI .i64 (i + (wI .i64 (b1.toNat : Int)))).toNat : Int))) <|
              let t2 := (text.drop (wI .i64 (i + 2)).toNat).take ((wI .i64 (i + (wI .i64 (b1.toNat : Int)))).toNat - (wI .i64 (i + 2)).toNat)
              cond ((wI .i64 (b2.toNat : Int)) != 8)
                (
                some (.inl (wI .i64 (i + (wI .i64 (b1.toNat : Int))))))
                (
                (octet_Get t2 0 8).bind fun xg =>
                cond (xg.2)
                  (
                  cond ((t2.length : Int) == 8)
                    (
                    some (.inr ((wI .u32 (xg.1.fdiv (2 ^ 32)), wI .u32 xg.1, wI .i64 (i + 2)))))
                    (
                    some (.inr ((0, 0, (-1))))))
                  (
                  some (.inr ((0, 0, (-1)))))))))
          (
          some (.inr ((0, 0, (-1))))))))
    (
    some (.inr ((0, 0, (-1)))))
def tcp_StampF (octet_Get : (List UInt8) → Int → Int → Option (Int × Bool)) (tcp_List : (List UInt8) → Option ((List tcp_Opt) × Int)) (text : List UInt8) : Option (Int × Int × Int) :=
  (tcp_List text).bind fun l =>
  cond (l.2 != 0)
    (
    some ((0, 0, (-1))))
    (
    iter (fun st => tcp_Stamp_s1 octet_Get text st) FUEL 0)
def rx56 (x : Int × Int × Int) : SRes := ⟨.tuple ⟨[.int .u32 x.1, .int .u32 x.2.1, .int .i64 x.2.2]⟩, [], []⟩
def r56 (g : (List UInt8) → Option (Int × Int × Int)) : Dec := dV asS fun (y0 : List UInt8) => dEnd (ofG (g y0) rx56)
theorem r56_c {g : (List UInt8) → Option (Int × Int × Int)} {y0 : List UInt8} {x : Int × Int × Int} (hx : g y0 = some x) : r56 g [.string ⟨⟨y0⟩⟩] [] = some (rx56 x) := (dV_eq (asS_c)).trans (ofG_eq hx)
def s56 (g : (List UInt8) → Option (Int × Int × Int)) : Summ := ⟨[.v], r56 g⟩
theorem r56_eq {g : (List UInt8) → Option (Int × Int × Int)} {y0 : List UInt8} {x : Int × Int × Int} (hx : g y0 = some x) : (s56 g).run [.string ⟨⟨y0⟩⟩] [] = some (rx56 x) := r56_c hx
abbrev sums56 (octet_Get : (List UInt8) → Int → Int → Option (Int × Bool)) (tcp_List : (List UInt8) → Option ((List tcp_Opt) × Int)) : List (Nat × Summ) := [(101, s101 octet_Get), (54, s54 tcp_List)]
def head56_1 (text : List UInt8) (i : Int) : VM :=
  ⟨⟨128, 62, [(0, .func (.yield 6) #[] #[]), (1, .pointer (some ⟨4, 0, none⟩)), (3, .int .i64 i)], [.code k128_35, .inLoop k128_35, .inBlock 0], [], false, none⟩, [⟨56, 46, [(2, .pointer (some ⟨0, 0, none⟩)), (3, .pointer (some ⟨1, 0, none⟩)), (4, .pointer (some ⟨2, 0, none⟩))], [.inRangeFunc 6, .inBlock 0, .code k56_27], [5], false, none⟩], [(0, .cells [.int .u32 0]), (1, .cells [.int .u32 0]), (2, .cells [.int .i64 0]), (4, .cells [.string ⟨⟨text⟩⟩]), (5, .marks), (6, .loop ⟨.ready, none, 56, 46, [(2, .pointer (some ⟨0, 0, none⟩)), (3, .pointer (some ⟨1, 0, none⟩)), (4, .pointer (some ⟨2, 0, none⟩))], [19], k56_9, k56_22, 5⟩)], 7⟩
theorem loop56_1 (octet_Get : (List UInt8) → Int → Int → Option (Int × Bool)) (tcp_List : (List UInt8) → Option ((List tcp_Opt) × Int)) (hS : SumsOK Try.prog (aget (sums56 octet_Get tcp_List))) (text : List UInt8) (res : Int × Int × Int) : ∀ fuel (st : Int) (o : Int × Int × Int), iter (fun st => tcp_Stamp_s1 octet_Get text st) fuel st = some o → (o = res) →
    Leads Try.prog 56 0 (head56_1 text st) (fun v H _ => Res 0 (rx56 res) v H) := by
  intro fuel st o h hc
  refine iter_leads (head := fun st => head56_1 text st) (C := fun o => (o = res)) ?_ fuel st o h hc
  clear h hc o st fuel
  intro i o h hc
  replace h : tcp_Stamp_s1 octet_Get text i = some o := h
  show Leads Try.prog 56 0 (head56_1 text i) (fun v H _ => Res 0 (rx56 res) v H)
  unfold tcp_Stamp_s1 at h
  refine ev_ok tab_ok hS true 3000 ?_
  conv => whnf
  refine br.h2 h ?_ ?_ ?_
  · rfl
  · clear h; intro hb h; conv => whnf
    all_goals (cases h; cases hc)
    all_goals exact Res.of [] rfl nw_0 (by decide) js_0 wr_0
  clear h; intro hb h; conv => whnf
  replace h := oreq.elim h; have hb := h.1; replace h := h.2
  first | (refine req.intro hb ?_; conv => whnf) | skip
  obtain ⟨b, hy, h2⟩ := obind.elim h; clear h; have h := h2; clear h2
  refine rdS.intro hy ?_
  conv => whnf
  refine br.h h ?_ ?_ ?_
  · rfl
  · clear h; intro hb h; conv => whnf
    all_goals (cases h; cases hc)
    all_goals exact Res.of [] rfl nw_0 (by decide) js_0 wr_0
  clear h; intro hb h; conv => whnf
  refine br.h h ?_ ?_ ?_
  · rfl
  · clear h; intro hb h; conv => whnf
    cases h; simp only [Sum.elim_inl, head56_1] at hc
    refine Leads.re hc [(0, 0), (1, 1), (2, 2), (4, 4), (5, 5), (6, 6)] rfl ?_ ?_ (hu := by repeat' first | exact trivial | refine ⟨⟨rfl, rfl, rfl, rfl, rfl, ?_, rfl, rfl⟩, ?_⟩ | refine ⟨⟨_, rfl, rfl⟩, ?_⟩) <;> (repeat' first | exact trivial | refine ⟨⟨_, rfl, rfl⟩, ?_⟩ | refine ⟨⟨_, _, rfl, rfl, .rowF (vI_flat _ _) id⟩, ?_⟩ | refine ⟨⟨_, _, rfl, rfl, .rowF (vS_flat _) id⟩, ?_⟩ | refine ⟨⟨_, _, rfl, rfl, .rowF (vB_flat _) id⟩, ?_⟩ | refine ⟨⟨_, _, rfl, rfl, .rowF (vT_flat (by first | exact ctcp_Head_flat | exact capi_Addr_flat | exact ctcp_Opt_flat | exact coctet_Reader_flat | exact cR07_Opt_flat) _) id⟩, ?_⟩ | refine ⟨⟨_, _, rfl, rfl, .tyF (vI_flat _ _)⟩, ?_⟩ | refine ⟨⟨_, _, rfl, rfl, .ty rfl⟩, ?_⟩ | refine ⟨⟨_, _, rfl, rfl, .cells rfl⟩, ?_⟩ | refine ⟨⟨_, _, rfl, rfl, .row rfl id⟩, ?_⟩ | refine ⟨⟨_, _, rfl, rfl, .cr rfl⟩, ?_⟩ | refine ⟨⟨_, _, rfl, rfl, .rc rfl⟩, ?_⟩ | refine ⟨⟨_, _, rfl, rfl, .marks⟩, ?_⟩ | refine ⟨⟨_, _, rfl, rfl, .siter _ _⟩, ?_⟩ | refine ⟨⟨_, _, rfl, rfl, .loop rfl rfl rfl rfl (by repeat' first | exact trivial | refine ⟨rfl, ?_⟩) rfl rfl rfl rfl⟩, ?_⟩)
  clear h; intro hb h; conv => whnf
  let t : Bool := decide ((wI .i64 (i + 1)) < (text.length : Int))
  refine br.h2 h ?_ ?_ ?_
  · rfl
  · clear h; intro hb h; conv => whnf
    all_goals (cases h; cases hc)
    all_goals exact Res.of [] rfl nw_0 (by decide) js_0 wr_0
  clear h; intro hb h; conv => whnf
  replace h := oreq.elim h; have hb := h.1; replace h := h.2
  first | (refine req.intro hb ?_; conv => whnf) | skip
  obtain ⟨b1, hy, h2⟩ := obind.elim h; clear h; have h := h2; clear h2
  refine rdS.intro hy ?_
  conv => whnf
  refine br.h h ?_ ?_ ?_
  · rfl
  · clear h; intro hb h; conv => whnf
    all_goals (cases h; cases hc)
    all_goals exact Res.of [] rfl nw_0 (by decide) js_0 wr_0
  clear h; intro hb h; conv => whnf
  let t1 : Bool := decide ((wI .i64 (b1.toNat : Int)) > (wI .i64 ((text.length : Int) - i)))
  refine br.h h ?_ ?_ ?_
  · rfl
  · clear h; intro hb h; conv => whnf
    all_goals (cases h; cases hc)
    all_goals exact Res.of [] rfl nw_0 (by decide) js_0 wr_0
  clear h; intro hb h; conv => whnf
  replace h := oreq.elim h; have hb := h.1; replace h := h.2
  first | (refine req.intro hb ?_; conv => whnf) | skip
  obtain ⟨b2, hy, h2⟩ := obind.elim h; clear h; have h := h2; clear h2
  refine rdS.intro hy ?_
  conv => whnf
  replace h := oreq.elim h; have hb := h.1; replace h := h.2
  first | (refine req.intro hb ?_; conv => whnf) | skip
  let t2 : List UInt8 := (text.drop (wI .i64 (i + 2)).toNat).take ((wI .i64 (i + (wI .i64 (b1.toNat : Int)))).toNat - (wI .i64 (i + 2)).toNat)
  refine br.h h ?_ ?_ ?_
  · rfl
  · clear h; intro hb h; conv => whnf
    cases h; simp only [Sum.elim_inl, head56_1] at hc
    refine Leads.re hc [(0, 0), (1, 1), (2, 2), (4, 4), (5, 5), (6, 6)] rfl ?_ ?_ (hu := by repeat' first | exact trivial | refine ⟨⟨rfl, rfl, rfl, rfl, rfl, ?_, rfl, rfl⟩, ?_⟩ | refine ⟨⟨_, rfl, rfl⟩, ?_⟩) <;> (repeat' first | exact trivial | refine ⟨⟨_, rfl, rfl⟩, ?_⟩ | refine ⟨⟨_, _, rfl, rfl, .rowF (vI_flat _ _) id⟩, ?_⟩ | refine ⟨⟨_, _, rfl, rfl, .rowF (vS_flat _) id⟩, ?_⟩ | refine ⟨⟨_, _, rfl, rfl, .rowF (vB_flat _) id⟩, ?_⟩ | refine ⟨⟨_, _, rfl, rfl, .rowF (vT_flat (by first | exact ctcp_Head_flat | exact capi_Addr_flat | exact ctcp_Opt_flat | exact coctet_Reader_flat | exact cR07_Opt_flat) _) id⟩, ?_⟩ | refine ⟨⟨_, _, rfl, rfl, .tyF (vI_flat _ _)⟩, ?_⟩ | refine ⟨⟨_, _, rfl, rfl, .ty rfl⟩, ?_⟩ | refine ⟨⟨_, _, rfl, rfl, .cells rfl⟩, ?_⟩ | refine ⟨⟨_, _, rfl, rfl, .row rfl id⟩, ?_⟩ | refine ⟨⟨_, _, rfl, rfl, .cr rfl⟩, ?_⟩ | refine ⟨⟨_, _, rfl, rfl, .rc rfl⟩, ?_⟩ | refine ⟨⟨_, _, rfl, rfl, .marks⟩, ?_⟩ | refine ⟨⟨_, _, rfl, rfl, .siter _ _⟩, ?_⟩ | refine ⟨⟨_, _, rfl, rfl, .loop rfl rfl rfl rfl (by repeat' first | exact trivial | refine ⟨rfl, ?_⟩) rfl rfl rfl rfl⟩, ?_⟩)
  clear h; intro hb h; conv => whnf
  obtain ⟨xg, hy, h2⟩ := obind.elim h; clear h; have h := h2; clear h2
  refine sumK.introF [] (sumRun_of (aqs := [.string ⟨⟨t2⟩⟩, .int .i64 0, .int .i64 8]) (ws := []) (n := 0) (m := 0) (t' := 24) (ra_cons rfl rfl (ra_cons rfl rfl (ra_cons rfl rfl ra_nil))) rfl (by rfl) (r101_eq hy) rfl rfl rfl rfl wb_nil an_nil rfl) ?_
  conv => whnf
  refine br.h2 h ?_ ?_ ?_
  · rfl
  · clear h; intro hb h; conv => whnf
    all_goals (cases h; cases hc)
    all_goals exact Res.of [] rfl nw_0 (by decide) js_0 wr_0
  clear h; intro hb h; conv => whnf
  refine br.h h ?_ ?_ ?_
  · rfl
  · clear h; intro hb h; conv => whnf
    all_goals (cases h; cases hc)
    all_goals exact Res.of [] rfl nw_0 (by decide) js_0 wr_0
  clear h; intro hb h; conv => whnf
  all_goals (cases h; cases hc)
  all_goals exact Res.of [] rfl nw_0 (by decide) js_0 wr_0
theorem leads56 (octet_Get : (List UInt8) → Int → Int → Option (Int × Bool)) (tcp_List : (List UInt8) → Option ((List tcp_Opt) × Int)) (hS : SumsOK Try.prog (aget (sums56 octet_Get tcp_List))) (text : List UInt8) (res : Int × Int × Int) (h : tcp_StampF octet_Get tcp_List text = some res) :
    Leads Try.prog 56 0 ⟨⟨56, 46, [(0, .string ⟨⟨text⟩⟩)], [.code k56_30], [], false, none⟩, [], [], 0⟩ (fun v H _ => Res 0 (rx56 res) v H) := by
  unfold tcp_StampF at h
  refine ev_ok tab_ok hS true 3000 ?_
  conv => whnf
  obtain ⟨l, hy, h2⟩ := obind.elim h; clear h; have h := h2; clear h2
  refine sumK.introF [] (sumRun_of (aqs := [.string ⟨⟨text⟩⟩]) (ws := []) (n := 1) (m := 0) (t' := 4) (ra_cons rfl rfl ra_nil) rfl (by rfl) (r54_eq hy) rfl rfl rfl rfl wb_nil (an_cons (rn_T ctcp_Opt_flat) an_nil) rfl) ?_
  conv => whnf
  refine br.h h ?_ ?_ ?_
  · rfl
  · clear h; intro hb h; conv => whnf
    all_goals (cases h)
    all_goals exact Res.of [] rfl nw_0 (by decide) js_0 wr_0
  clear h; intro hb h; conv => whnf
  have hl := loop56_1 octet_Get tcp_List hS _ res _ _ _ h rfl; simp only [head56_1] at hl
  refine Leads.re hl [(0, 0), (1, 1), (2, 2), (4, 4), (5, 5), (6, 6)] rfl ?_ ?_ (hu := by repeat' first | exact trivial | refine ⟨⟨rfl, rfl, rfl, rfl, rfl, ?_, rfl, rfl⟩, ?_⟩ | refine ⟨⟨_, rfl, rfl⟩, ?_⟩) <;> (repeat' first | exact trivial | refine ⟨⟨_, rfl, rfl⟩, ?_⟩ | refine ⟨⟨_, _, rfl, rfl, .rowF (vI_flat _ _) id⟩, ?_⟩ | refine ⟨⟨_, _, rfl, rfl, .rowF (vS_flat _) id⟩, ?_⟩ | refine ⟨⟨_, _, rfl, rfl, .rowF (vB_flat _) id⟩, ?_⟩ | refine ⟨⟨_, _, rfl, rfl, .rowF (vT_flat (by first | exact ctcp_Head_flat | exact capi_Addr_flat | exact ctcp_Opt_flat | exact coctet_Reader_flat | exact cR07_Opt_flat) _) id⟩, ?_⟩ | refine ⟨⟨_, _, rfl, rfl, .tyF (vI_flat _ _)⟩, ?_⟩ | refine ⟨⟨_, _, rfl, rfl, .ty rfl⟩, ?_⟩ | refine ⟨⟨_, _, rfl, rfl, .cells rfl⟩, ?_⟩ | refine ⟨⟨_, _, rfl, rfl, .row rfl id⟩, ?_⟩ | refine ⟨⟨_, _, rfl, rfl, .cr rfl⟩, ?_⟩ | refine ⟨⟨_, _, rfl, rfl, .rc rfl⟩, ?_⟩ | refine ⟨⟨_, _, rfl, rfl, .marks⟩, ?_⟩ | refine ⟨⟨_, _, rfl, rfl, .siter _ _⟩, ?_⟩ | refine ⟨⟨_, _, rfl, rfl, .loop rfl rfl rfl rfl (by repeat' first | exact trivial | refine ⟨rfl, ?_⟩) rfl rfl rfl rfl⟩, ?_⟩)
theorem ok56 (octet_Get : (List UInt8) → Int → Int → Option (Int × Bool)) (tcp_List : (List UInt8) → Option ((List tcp_Opt) × Int)) (hS : SumsOK Try.prog (aget (sums56 octet_Get tcp_List))) : SumOK Try.prog 56 (s56 (tcp_StampF octet_Get tcp_List)) := by
  refine SumOK.of_leads tab_ok (fun ar os r ha hr => ?_) ⟨Try.f56, rfl, by decide, rfl⟩
  replace hr : r56 (tcp_StampF octet_Get tcp_List) ar (conts os) = some r := hr
  unfold r56 at hr
  generalize hc : conts os = C at hr
  have hq := dV.elim hr; clear hr; obtain ⟨v0, l1, y0, rfl, e0, hr⟩ := hq; obtain rfl := asS_eq _ _ e0
  have hq := dEnd.elim hr; clear hr; obtain ⟨rfl, rfl, hr⟩ := hq
  have hq := ofG.elim hr; clear hr; obtain ⟨x, h, rfl⟩ := hq
  obtain rfl := kinds_nil hc
  exact ⟨_, rfl, leads56 octet_Get tcp_List hS _ x h⟩
def tcp_Stamp : (List UInt8) → Option (Int × Int × Int) := tcp_StampF octet_Get tcp_List
theorem lift56 : SumOK Try.prog 56 (s56 tcp_Stamp) := ok56 octet_Get tcp_List (SumsOK.of_tab ⟨lift101, lift54, trivial⟩)
end Go.Vm.Code

namespace Go.Vm.Code
open Go Go.Vm Go.Proofs
set_option maxRecDepth 100000
set_option maxHeartbeats 4000000
set_option linter.unusedVariables false

/-! cloakroom/tcp.Stamped -/
def tcp_StampedF (octet_Put : Int → Int → Option (List UInt8)) (val : Int) (echo : Int) : Option (List UInt8) :=
  (octet_Put 16844810 4).bind fun p =>
  let t := iorI .u64 (wI .u64 ((wI .u64 val) * 2 ^ 32)) (wI .u64 echo)
  (octet_Put t 8).bind fun p1 =>
  oreq (decide (p.length + p1.length < 2 ^ 63)) <|
  some (p ++ p1)
def rx58 (x : List UInt8) : SRes := ⟨.string ⟨⟨x⟩⟩, [], []⟩
def r58 (g : Int → Int → Option (List UInt8)) : Dec := dV (asI .u32) fun (y0 : Int) => dV (asI .u32) fun (y1 : Int) => dEnd (ofG (g y0 y1) rx58)
theorem r58_c {g : Int → Int → Option (List UInt8)} {y0 : Int} {y1 : Int} {x : List UInt8} (hx : g y0 y1 = some x) : r58 g [.int .u32 y0, .int .u32 y1] [] = some (rx58 x) := (dV_eq (asI_c _)).trans ((dV_eq (asI_c _)).trans (ofG_eq hx))
def s58 (g : Int → Int → Option (List UInt8)) : Summ := ⟨[.v, .v], r58 g⟩
theorem r58_eq {g : Int → Int → Option (List UInt8)} {y0 : Int} {y1 : Int} {x : List UInt8} (hx : g y0 y1 = some x) : (s58 g).run [.int .u32 y0, .int .u32 y1] [] = some (rx58 x) := r58_c hx
abbrev sums58 (octet_Put : Int → Int → Option (List UInt8)) : List (Nat × Summ) := [(62, s62 octet_Put)]
theorem leads58 (octet_Put : Int → Int → Option (List UInt8)) (hS : SumsOK Try.prog (aget (sums58 octet_Put))) (val : Int) (echo : Int) (res : List UInt8) (h : tcp_StampedF octet_Put val echo = some res) :
    Leads Try.prog 58 0 ⟨⟨58, 14, [(0, .int .u32 val), (1, .int .u32 echo)], [.code k58_3], [], false, none⟩, [], [], 0⟩ (fun v H _ => Res 0 (rx58 res) v H) := by
  unfold tcp_StampedF at h
  refine ev_ok tab_ok hS true 3000 ?_
  conv => whnf
  obtain ⟨p, hy, h2⟩ := obind.elim h; clear h; have h := h2; clear h2
  refine sumK.introF [] (sumRun_of (aqs := [.int .u64 16844810, .int .i64 4]) (ws := []) (n := 0) (m := 0) (t' := 0) (ra_cons rfl rfl (ra_cons rfl rfl ra_nil)) rfl (by rfl) (r62_eq hy) rfl rfl rfl rfl wb_nil an_nil rfl) ?_
  conv => whnf
  let t : Int := iorI .u64 (wI .u64 ((wI .u64 val) * 2 ^ 32)) (wI .u64 echo)
  obtain ⟨p1, hy, h2⟩ := obind.elim h; clear h; have h := h2; clear h2
  refine sumK.introF [] (sumRun_of (aqs := [.int .u64 t, .int .i64 8]) (ws := []) (n := 0) (m := 0) (t' := 0) (ra_cons rfl rfl (ra_cons rfl rfl ra_nil)) rfl (by rfl) (r62_eq hy) rfl rfl rfl rfl wb_nil an_nil rfl) ?_
  conv => whnf
  replace h := oreq.elim h; have hb := h.1; replace h := h.2
  first | (refine req.intro hb ?_; conv => whnf) | skip
  all_goals (cases h)
  all_goals exact Res.of [] rfl nw_0 (by decide) js_0 wr_0
theorem ok58 (octet_Put : Int → Int → Option (List UInt8)) (hS : SumsOK Try.prog (aget (sums58 octet_Put))) : SumOK Try.prog 58 (s58 (tcp_StampedF octet_Put)) := by
  refine SumOK.of_leads tab_ok (fun ar os r ha hr => ?_) ⟨Try.f58, rfl, by decide, rfl⟩
  replace hr : r58 (tcp_StampedF octet_Put) ar (conts os) = some r := hr
  unfold r58 at hr
  generalize hc : conts os = C at hr
  have hq := dV.elim hr; clear hr; obtain ⟨v0, l1, y0, rfl, e0, hr⟩ := hq; obtain rfl := asI_eq _ _ _ e0
  have hq := dV.elim hr; clear hr; obtain ⟨v1, l2, y1, rfl, e1, hr⟩ := hq; obtain rfl := asI_eq _ _ _ e1
  have hq := dEnd.elim hr; clear hr; obtain ⟨rfl, rfl, hr⟩ := hq
  have hq := ofG.elim hr; clear hr; obtain ⟨x, h, rfl⟩ := hq
  obtain rfl := kinds_nil hc
  exact ⟨_, rfl, leads58 octet_Put hS _ _ x h⟩
def tcp_Stamped : Int → Int → Option (List UInt8) := tcp_StampedF octet_Put
theorem lift58 : SumOK Try.prog 58 (s58 tcp_Stamped) := ok58 octet_Put (SumsOK.of_tab ⟨lift62, trivial⟩)
end Go.Vm.Code

namespace Go.Vm.Code
open Go Go.Vm Go.Proofs
set_option maxRecDepth 100000
set_option maxHeartbeats 4000000
set_option linter.unusedVariables false

/-! cloakroom/cloakroomref07.Stamp -/
def R07_Stamp_s1 (R02_Must : (List UInt8) → Int → Int → Option Int) (l : (List R07_Opt) × Int) (i : Int) : Option (Sum Int (Int × Int × Int)) :=
  cond (decide (i < (l.1.length : Int)))
    (
    oreq (decide ((0 : Int) ≤ i ∧ i < (l.1.length : Int))) <|
    (l.1[i.toNat]?).bind fun (e : R07_Opt) =>
    cond (e.Kind == 8)
      (
      oreq (decide ((0 : Int) ≤ i ∧ i < (l.1.length : Int))) <|
      cond ((e.Data.length : Int) != 8)
        (
        some (.inr ((0, 0, (-1)))))
        (
        oreq (decide ((0 : Int) ≤ i ∧ i < (l.1.length : Int))) <|
        (R02_Must e.Data 0 4).bind fun m =>
        oreq (decide ((0 : Int) ≤ i ∧ i < (l.1.length : Int))) <|
        (R02_Must e.Data 4 4).bind fun m1 =>
        oreq (decide ((0 : Int) ≤ i ∧ i < (l.1.length : Int))) <|
        some (.inr ((wI .u32 m, wI .u32 m1, e.At)))))
      (
      some (.inl (wI .i64 (i + 1)))))
    (
    some (.inr ((0, 0, (-1)))))
def R07_StampF (R02_Must : (List UInt8) → Int → Int → Option Int) (R07_List : (List UInt8) → Option ((List R07_Opt) × Int)) (options : List UInt8) : Option (Int × Int × Int) :=
  (R07_List options).bind fun l =>
  iter (fun st => R07_Stamp_s1 R02_Must l st) FUEL 0
def rx57 (x : Int × Int × Int) : SRes := ⟨.tuple ⟨[.int .u32 x.1, .int .u32 x.2.1, .int .i64 x.2.2]⟩, [], []⟩
def r57 (g : (List UInt8) → Option (Int × Int × Int)) : Dec := dV asS fun (y0 : List UInt8) => dEnd (ofG (g y0) rx57)
theorem r57_c {g : (List UInt8) → Option (Int × Int × Int)} {y0 : List UInt8} {x : Int × Int × Int} (hx : g y0 = some x) : r57 g [.string ⟨⟨y0⟩⟩] [] = some (rx57 x) := (dV_eq (asS_c)).trans (ofG_eq hx)
def s57 (g : (List UInt8) → Option (Int × Int × Int)) : Summ := ⟨[.v], r57 g⟩
theorem r57_eq {g : (List UInt8) → Option (Int × Int × Int)} {y0 : List UInt8} {x : Int × Int × Int} (hx : g y0 = some x) : (s57 g).run [.string ⟨⟨y0⟩⟩] [] = some (rx57 x) := r57_c hx
abbrev sums57 (R02_Must : (List UInt8) → Int → Int → Option Int) (R07_List : (List UInt8) → Option ((List R07_Opt) × Int)) : List (Nat × Summ) := [(74, s74 R02_Must), (55, s55 R07_List)]
def head57_1 (l : (List R07_Opt) × Int) (i : Int) : VM :=
  ⟨⟨57, 51, [(5, .slice (some ⟨0, 0, none⟩) l.1.length 3), (7, .int .i64 i)], [.code k57_20, .inLoop k57_20, .inBlock 0, .code k57_25], [], false, none⟩, [], [(0, .row true (vT cR07_Opt l.1))], 1⟩
theorem loop57_1 (R02_Must : (List UInt8) → Int → Int → Option Int) (R07_List : (List UInt8) → Option ((List R07_Opt) × Int)) (hS : SumsOK Try.prog (aget (sums57 R02_Must R07_List))) (l : (List R07_Opt) × Int) (res : Int × Int × Int) : ∀ fuel (st : Int) (o : Int × Int × Int), iter (fun st => R07_Stamp_s1 R02_Must l st) fuel st = some o → (o = res) →
    Leads Try.prog 57 0 (head57_1 l st) (fun v H _ => Res 0 (rx57 res) v H) := by
  intro fuel st o h hc
  refine iter_leads (head := fun st => head57_1 l st) (C := fun o => (o = res)) ?_ fuel st o h hc
  clear h hc o st fuel
  intro i o h hc
  replace h : R07_Stamp_s1 R02_Must l i = some o := h
  show Leads Try.prog 57 0 (head57_1 l i) (fun v H _ => Res 0 (rx57 res) v H)
  unfold R07_Stamp_s1 at h
  refine ev_ok tab_ok hS true 3000 ?_
  conv => whnf
  refine br.h2 h ?_ ?_ ?_
  · rfl
  · clear h; intro hb h; conv => whnf
    all_goals (cases h; cases hc)
    all_goals exact Res.of [] rfl nw_0 (by decide) js_0 wr_0
  clear h; intro hb h; conv => whnf
  replace h := oreq.elim h; have hb := h.1; replace h := h.2
  first | (refine req.intro hb ?_; conv => whnf) | skip
  obtain ⟨e, hy, h2⟩ := obind.elim h; clear h; have h := h2; clear h2
  refine rd.T (j := 0) cR07_Opt_len hy (by omega) (by decide) rfl ?_
  conv => whnf
  refine br.h2 h ?_ ?_ ?_
  · rfl
  · clear h; intro hb h; conv => whnf
    cases h; simp only [Sum.elim_inl, head57_1] at hc
    refine Leads.re hc [(0, 0)] rfl ?_ ?_ <;> (repeat' first | exact trivial | refine ⟨⟨_, rfl, rfl⟩, ?_⟩ | refine ⟨⟨_, _, rfl, rfl, .rowF (vI_flat _ _) id⟩, ?_⟩ | refine ⟨⟨_, _, rfl, rfl, .rowF (vS_flat _) id⟩, ?_⟩ | refine ⟨⟨_, _, rfl, rfl, .rowF (vB_flat _) id⟩, ?_⟩ | refine ⟨⟨_, _, rfl, rfl, .rowF (vT_flat (by first | exact ctcp_Head_flat | exact capi_Addr_flat | exact ctcp_Opt_flat | exact coctet_Reader_flat | exact cR07_Opt_flat) _) id⟩, ?_⟩ | refine ⟨⟨_, _, rfl, rfl, .tyF (vI_flat _ _)⟩, ?_⟩ | refine ⟨⟨_, _, rfl, rfl, .ty rfl⟩, ?_⟩ | refine ⟨⟨_, _, rfl, rfl, .cells rfl⟩, ?_⟩ | refine ⟨⟨_, _, rfl, rfl, .row rfl id⟩, ?_⟩ | refine ⟨⟨_, _, rfl, rfl, .cr rfl⟩, ?_⟩ | refine ⟨⟨_, _, rfl, rfl, .rc rfl⟩, ?_⟩ | refine ⟨⟨_, _, rfl, rfl, .marks⟩, ?_⟩ | refine ⟨⟨_, _, rfl, rfl, .siter _ _⟩, ?_⟩ | refine ⟨⟨_, _, rfl, rfl, .loop rfl rfl rfl rfl (by repeat' first | exact trivial | refine ⟨rfl, ?_⟩) rfl rfl rfl rfl⟩, ?_⟩)
  clear h; intro hb h; conv => whnf
  replace h := oreq.elim h; have hb := h.1; replace h := h.2
  first | (refine req.intro hb ?_; conv => whnf) | skip
  refine rd.T (j := 1) cR07_Opt_len (by assumption) (by omega) (by decide) rfl ?_
  conv => whnf
  refine br.h h ?_ ?_ ?_
  · rfl
  · clear h; intro hb h; conv => whnf
    all_goals (cases h; cases hc)
    all_goals exact Res.of [] rfl nw_0 (by decide) js_0 wr_0
  clear h; intro hb h; conv => whnf
  replace h := oreq.elim h; have hb := h.1; replace h := h.2
  first | (refine req.intro hb ?_; conv => whnf) | skip
  refine rd.T (j := 1) cR07_Opt_len (by assumption) (by omega) (by decide) rfl ?_
  conv => whnf
  obtain ⟨m, hy, h2⟩ := obind.elim h; clear h; have h := h2; clear h2
  refine sumK.introF [] (sumRun_of (aqs := [.string ⟨⟨e.Data⟩⟩, .int .i64 0, .int .i64 4]) (ws := []) (n := 0) (m := 0) (t' := 6) (ra_cons rfl rfl (ra_cons rfl rfl (ra_cons rfl rfl ra_nil))) rfl (by rfl) (r74_eq hy) rfl rfl rfl rfl wb_nil an_nil rfl) ?_
  conv => whnf
  replace h := oreq.elim h; have hb := h.1; replace h := h.2
  first | (refine req.intro hb ?_; conv => whnf) | skip
  refine rd.T (j := 1) cR07_Opt_len (by assumption) (by omega) (by decide) rfl ?_
  conv => whnf
  obtain ⟨m1, hy, h2⟩ := obind.elim h; clear h; have h := h2; clear h2
  refine sumK.introF [] (sumRun_of (aqs := [.string ⟨⟨e.Data⟩⟩, .int .i64 4, .int .i64 4]) (ws := []) (n := 0) (m := 0) (t' := 13) (ra_cons rfl rfl (ra_cons rfl rfl (ra_cons rfl rfl ra_nil))) rfl (by rfl) (r74_eq hy) rfl rfl rfl rfl wb_nil an_nil rfl) ?_
  conv => whnf
  replace h := oreq.elim h; have hb := h.1; replace h := h.2
  first | (refine req.intro hb ?_; conv => whnf) | skip
  refine rd.T (j := 2) cR07_Opt_len (by assumption) (by omega) (by decide) rfl ?_
  conv => whnf
  all_goals (cases h; cases hc)
  all_goals exact Res.of [] rfl nw_0 (by decide) js_0 wr_0
theorem leads57 (R02_Must : (List UInt8) → Int → Int → Option Int) (R07_List : (List UInt8) → Option ((List R07_Opt) × Int)) (hS : SumsOK Try.prog (aget (sums57 R02_Must R07_List))) (options : List UInt8) (res : Int × Int × Int) (h : R07_StampF R02_Must R07_List options = some res) :
    Leads Try.prog 57 0 ⟨⟨57, 51, [(0, .string ⟨⟨options⟩⟩)], [.code k57_28], [], false, none⟩, [], [], 0⟩ (fun v H _ => Res 0 (rx57 res) v H) := by
  unfold R07_StampF at h
  refine ev_ok tab_ok hS true 3000 ?_
  conv => whnf
  obtain ⟨l, hy, h2⟩ := obind.elim h; clear h; have h := h2; clear h2
  refine sumK.introF [] (sumRun_of (aqs := [.string ⟨⟨options⟩⟩]) (ws := []) (n := 1) (m := 0) (t' := 1) (ra_cons rfl rfl ra_nil) rfl (by rfl) (r55_eq hy) rfl rfl rfl rfl wb_nil (an_cons (rn_T cR07_Opt_flat) an_nil) rfl) ?_
  conv => whnf
  have hl := loop57_1 R02_Must R07_List hS _ res _ _ _ h rfl; simp only [head57_1] at hl
  refine Leads.re hl [(0, 0)] rfl ?_ ?_ <;> (repeat' first | exact trivial | refine ⟨⟨_, rfl, rfl⟩, ?_⟩ | refine ⟨⟨_, _, rfl, rfl, .rowF (vI_flat _ _) id⟩, ?_⟩ | refine ⟨⟨_, _, rfl, rfl, .rowF (vS_flat _) id⟩, ?_⟩ | refine ⟨⟨_, _, rfl, rfl, .rowF (vB_flat _) id⟩, ?_⟩ | refine ⟨⟨_, _, rfl, rfl, .rowF (vT_flat (by first | exact ctcp_Head_flat | exact capi_Addr_flat | exact ctcp_Opt_flat | exact coctet_Reader_flat | exact cR07_Opt_flat) _) id⟩, ?_⟩ | refine ⟨⟨_, _, rfl, rfl, .tyF (vI_flat _ _)⟩, ?_⟩ | refine ⟨⟨_, _, rfl, rfl, .ty rfl⟩, ?_⟩ | refine ⟨⟨_, _, rfl, rfl, .cells rfl⟩, ?_⟩ | refine ⟨⟨_, _, rfl, rfl, .row rfl id⟩, ?_⟩ | refine ⟨⟨_, _, rfl, rfl, .cr rfl⟩, ?_⟩ | refine ⟨⟨_, _, rfl, rfl, .rc rfl⟩, ?_⟩ | refine ⟨⟨_, _, rfl, rfl, .marks⟩, ?_⟩ | refine ⟨⟨_, _, rfl, rfl, .siter _ _⟩, ?_⟩ | refine ⟨⟨_, _, rfl, rfl, .loop rfl rfl rfl rfl (by repeat' first | exact trivial | refine ⟨rfl, ?_⟩) rfl rfl rfl rfl⟩, ?_⟩)
theorem ok57 (R02_Must : (List UInt8) → Int → Int → Option Int) (R07_List : (List UInt8) → Option ((List R07_Opt) × Int)) (hS : SumsOK Try.prog (aget (sums57 R02_Must R07_List))) : SumOK Try.prog 57 (s57 (R07_StampF R02_Must R07_List)) := by
  refine SumOK.of_leads tab_ok (fun ar os r ha hr => ?_) ⟨Try.f57, rfl, by decide, rfl⟩
  replace hr : r57 (R07_StampF R02_Must R07_List) ar (conts os) = some r := hr
  unfold r57 at hr
  generalize hc : conts os = C at hr
  have hq := dV.elim hr; clear hr; obtain ⟨v0, l1, y0, rfl, e0, hr⟩ := hq; obtain rfl := asS_eq _ _ e0
  have hq := dEnd.elim hr; clear hr; obtain ⟨rfl, rfl, hr⟩ := hq
  have hq := ofG.elim hr; clear hr; obtain ⟨x, h, rfl⟩ := hq
  obtain rfl := kinds_nil hc
  exact ⟨_, rfl, leads57 R02_Must R07_List hS _ x h⟩
def R07_Stamp : (List UInt8) → Option (Int × Int × Int) := R07_StampF R02_Must R07_List
theorem lift57 : SumOK Try.prog 57 (s57 R07_Stamp) := ok57 R02_Must R07_List (SumsOK.of_tab ⟨lift74, lift55, trivial⟩)
end Go.Vm.Code

namespace Go.Vm.Code
open Go Go.Vm Go.Proofs
set_option maxRecDepth 100000
set_option maxHeartbeats 4000000
set_option linter.unusedVariables false

/-! cloakroom/cloakroomref07.num -/
def R07_numF (R02_Put : Int → Int → Option (List UInt8)) (n : Int) (k : Int) : Option (List UInt8) :=
  (R02_Put (wI .u64 n) k).bind fun p =>
  some (p)
def rx109 (x : List UInt8) : SRes := ⟨.string ⟨⟨x⟩⟩, [], []⟩
def r109 (g : Int → Int → Option (List UInt8)) : Dec := dV (asI .i64) fun (y0 : Int) => dV (asI .i64) fun (y1 : Int) => dEnd (ofG (g y0 y1) rx109)
theorem r109_c {g : Int → Int → Option (List UInt8)} {y0 : Int} {y1 : Int} {x : List UInt8} (hx : g y0 y1 = some x) : r109 g [.int .i64 y0, .int .i64 y1] [] = some (rx109 x) := (dV_eq (asI_c _)).trans ((dV_eq (asI_c _)).trans (ofG_eq hx))
def s109 (g : Int → Int → Option (List UInt8)) : Summ := ⟨[.v, .v], r109 g⟩
theorem r109_eq {g : Int → Int → Option (List UInt8)} {y0 : Int} {y1 : Int} {x : List UInt8} (hx : g y0 y1 = some x) : (s109 g).run [.int .i64 y0, .int .i64 y1] [] = some (rx109 x) := r109_c hx
abbrev sums109 (R02_Put : Int → Int → Option (List UInt8)) : List (Nat × Summ) := [(67, s67 R02_Put)]
theorem leads109 (R02_Put : Int → Int → Option (List UInt8)) (hS : SumsOK Try.prog (aget (sums109 R02_Put))) (n : Int) (k : Int) (res : List UInt8) (h : R07_numF R02_Put n k = some res) :
    Leads Try.prog 109 0 ⟨⟨109, 9, [(0, .int .i64 n), (1, .int .i64 k)], [.code k109_3], [], false, none⟩, [], [], 0⟩ (fun v H _ => Res 0 (rx109 res) v H) := by
  unfold R07_numF at h
  refine ev_ok tab_ok hS true 3000 ?_
  conv => whnf
  obtain ⟨p, hy, h2⟩ := obind.elim h; clear h; have h := h2; clear h2
  refine sumK.introF [] (sumRun_of (aqs := [.int .u64 (wI .u64 n), .int .i64 k]) (ws := []) (n := 0) (m := 0) (t' := 0) (ra_cons rfl rfl (ra_cons rfl rfl ra_nil)) rfl (by rfl) (r67_eq hy) rfl rfl rfl rfl wb_nil an_nil rfl) ?_
  conv => whnf
  all_goals (cases h)
  all_goals exact Res.of [] rfl nw_0 (by decide) js_0 wr_0
theorem ok109 (R02_Put : Int → Int → Option (List UInt8)) (hS : SumsOK Try.prog (aget (sums109 R02_Put))) : SumOK Try.prog 109 (s109 (R07_numF R02_Put)) := by
  refine SumOK.of_leads tab_ok (fun ar os r ha hr => ?_) ⟨Try.f109, rfl, by decide, rfl⟩
  replace hr : r109 (R07_numF R02_Put) ar (conts os) = some r := hr
  unfold r109 at hr
  generalize hc : conts os = C at hr
  have hq := dV.elim hr; clear hr; obtain ⟨v0, l1, y0, rfl, e0, hr⟩ := hq; obtain rfl := asI_eq _ _ _ e0
  have hq := dV.elim hr; clear hr; obtain ⟨v1, l2, y1, rfl, e1, hr⟩ := hq; obtain rfl := asI_eq _ _ _ e1
  have hq := dEnd.elim hr; clear hr; obtain ⟨rfl, rfl, hr⟩ := hq
  have hq := ofG.elim hr; clear hr; obtain ⟨x, h, rfl⟩ := hq
  obtain rfl := kinds_nil hc
  exact ⟨_, rfl, leads109 R02_Put hS _ _ x h⟩
def R07_num : Int → Int → Option (List UInt8) := R07_numF R02_Put
theorem lift109 : SumOK Try.prog 109 (s109 R07_num) := ok109 R02_Put (SumsOK.of_tab ⟨lift67, trivial⟩)
end Go.Vm.Code

namespace Go.Vm.Code
open Go Go.Vm Go.Proofs
set_option maxRecDepth 100000
set_option maxHeartbeats 4000000
set_option linter.unusedVariables false

/-! cloakroom/cloakroomref07.Stamped -/
def R07_StampedF (R07_num : Int → Int → Option (List UInt8)) (val : Int) (echo : Int) : Option (List UInt8) :=
  (R07_num (wI .i64 val) 4).bind fun n =>
  oreq (decide (4 + n.length < 2 ^ 63)) <|
  (R07_num (wI .i64 echo) 4).bind fun n1 =>
  oreq (decide (([1, 1, 8, 10] ++ n).length + n1.length < 2 ^ 63)) <|
  some (([1, 1, 8, 10] ++ n) ++ n1)
def rx59 (x : List UInt8) : SRes := ⟨.string ⟨⟨x⟩⟩, [], []⟩
def r59 (g : Int → Int → Option (List UInt8)) : Dec := dV (asI .u32) fun (y0 : Int) => dV (asI .u32) fun (y1 : Int) => dEnd (ofG (g y0 y1) rx59)
theorem r59_c {g : Int → Int → Option (List UInt8)} {y0 : Int} {y1 : Int} {x : List UInt8} (hx : g y0 y1 = some x) : r59 g [.int .u32 y0, .int .u32 y1] [] = some (rx59 x) := (dV_eq (asI_c _)).trans ((dV_eq (asI_c _)).trans (ofG_eq hx))
def s59 (g : Int → Int → Option (List UInt8)) : Summ := ⟨[.v, .v], r59 g⟩
theorem r59_eq {g : Int → Int → Option (List UInt8)} {y0 : Int} {y1 : Int} {x : List UInt8} (hx : g y0 y1 = some x) : (s59 g).run [.int .u32 y0, .int .u32 y1] [] = some (rx59 x) := r59_c hx
abbrev sums59 (R07_num : Int → Int → Option (List UInt8)) : List (Nat × Summ) := [(109, s109 R07_num)]
theorem leads59 (R07_num : Int → Int → Option (List UInt8)) (hS : SumsOK Try.prog (aget (sums59 R07_num))) (val : Int) (echo : Int) (res : List UInt8) (h : R07_StampedF R07_num val echo = some res) :
    Leads Try.prog 59 0 ⟨⟨59, 13, [(0, .int .u32 val), (1, .int .u32 echo)], [.code k59_3], [], false, none⟩, [], [], 0⟩ (fun v H _ => Res 0 (rx59 res) v H) := by
  unfold R07_StampedF at h
  refine ev_ok tab_ok hS true 3000 ?_
  conv => whnf
  obtain ⟨n, hy, h2⟩ := obind.elim h; clear h; have h := h2; clear h2
  refine sumK.introF [] (sumRun_of (aqs := [.int .i64 (wI .i64 val), .int .i64 4]) (ws := []) (n := 0) (m := 0) (t' := 0) (ra_cons rfl rfl (ra_cons rfl rfl ra_nil)) rfl (by rfl) (r109_eq hy) rfl rfl rfl rfl wb_nil an_nil rfl) ?_
  conv => whnf
  replace h := oreq.elim h; have hb := h.1; replace h := h.2
  first | (refine req.intro hb ?_; conv => whnf) | skip
  obtain ⟨n1, hy, h2⟩ := obind.elim h; clear h; have h := h2; clear h2
  refine sumK.introF [] (sumRun_of (aqs := [.int .i64 (wI .i64 echo), .int .i64 4]) (ws := []) (n := 0) (m := 0) (t' := 0) (ra_cons rfl rfl (ra_cons rfl rfl ra_nil)) rfl (by rfl) (r109_eq hy) rfl rfl rfl rfl wb_nil an_nil rfl) ?_
  conv => whnf
  replace h := oreq.elim h; have hb := h.1; replace h := h.2
  first | (refine req.intro hb ?_; conv => whnf) | skip
  all_goals (cases h)
  all_goals exact Res.of [] rfl nw_0 (by decide) js_0 wr_0
theorem ok59 (R07_num : Int → Int → Option (List UInt8)) (hS : SumsOK Try.prog (aget (sums59 R07_num))) : SumOK Try.prog 59 (s59 (R07_StampedF R07_num)) := by
  refine SumOK.of_leads tab_ok (fun ar os r ha hr => ?_) ⟨Try.f59, rfl, by decide, rfl⟩
  replace hr : r59 (R07_StampedF R07_num) ar (conts os) = some r := hr
  unfold r59 at hr
  generalize hc : conts os = C at hr
  have hq := dV.elim hr; clear hr; obtain ⟨v0, l1, y0, rfl, e0, hr⟩ := hq; obtain rfl := asI_eq _ _ _ e0
  have hq := dV.elim hr; clear hr; obtain ⟨v1, l2, y1, rfl, e1, hr⟩ := hq; obtain rfl := asI_eq _ _ _ e1
  have hq := dEnd.elim hr; clear hr; obtain ⟨rfl, rfl, hr⟩ := hq
  have hq := ofG.elim hr; clear hr; obtain ⟨x, h, rfl⟩ := hq
  obtain rfl := kinds_nil hc
  exact ⟨_, rfl, leads59 R07_num hS _ _ x h⟩
def R07_Stamped : Int → Int → Option (List UInt8) := R07_StampedF R07_num
theorem lift59 : SumOK Try.prog 59 (s59 R07_Stamped) := ok59 R07_num (SumsOK.of_tab ⟨lift109, trivial⟩)
end Go.Vm.Code

/- Chapter 7: the stamp among options. -/
namespace Go.Vm.Code
open Go Go.Vm
/-- the first stamp of a list -/
def stL : List R07_Opt → Int × Int × Int
  | [] => (0, 0, -1)
  | o :: l => if o.Kind = 8 then (if o.Data.length = 8 then (vK o.Data 0 4, vK o.Data 4 4, o.At) else (0, 0, -1)) else stL l
def stamp7 (s : List UInt8) : Int × Int × Int := stL (opt7 s).1
theorem optF_gen (s : List UInt8) : ∀ (n i : Nat) (out : List R07_Opt), optF s n i out = if (optF s n i []).2 = 0 then (out ++ (optF s n i []).1, 0) else ([], 3) := by
  intro n
  induction n using Nat.strongRecOn with
  | ind n ih =>
    intro i out
    cases n with
    | zero => rw [optF, optF]; simp
    | succ n =>
      have e : ∀ o, optF s (n + 1) i o = match s[i]? with
        | none => (o, 0)
        | some b => if b = 0 then (o, 0) else if b = 1 then optF s n (i + 1) o else match s[i + 1]? with
          | none => ([], 3)
          | some k => if k.toNat < 2 then ([], 3) else if s.length - i < k.toNat then ([], 3) else
              optF s (n + 1 - k.toNat) (i + k.toNat) (o ++ [⟨(b.toNat : Int), (s.drop (i + 2)).take (k.toNat - 2), ((i + 2 : Nat) : Int)⟩]) := fun o => by rw [optF]; cases s[i]? <;> cases s[i + 1]? <;> rfl
      rw [e out, e []]
      cases s[i]? with
      | none => simp
      | some b =>
        simp only
        by_cases h0 : b = 0
        · simp [h0]
        rw [if_neg h0, if_neg h0]
        by_cases h1 : b = 1
        · rw [if_pos h1, if_pos h1]; exact ih n (by omega) _ _
        rw [if_neg h1, if_neg h1]
        cases s[i + 1]? with
        | none => simp
        | some k =>
          simp only
          by_cases h2 : k.toNat < 2
          · simp [h2]
          by_cases h3 : s.length - i < k.toNat
          · simp [h2, h3]
          rw [if_neg h2, if_neg h2, if_neg h3, if_neg h3, ih _ (by omega) _ (out ++ _), ih _ (by omega) _ ([] ++ _)]
          by_cases hz : (optF s (n + 1 - k.toNat) (i + k.toNat) []).2 = 0
          · simp [hz]
          · simp [hz]
theorem opt7_err {s : List UInt8} (h : (opt7 s).2 ≠ 0) : (opt7 s).1 = [] := by
  unfold opt7 at *
  have := optF_gen s s.length 0 []
  rw [if_neg h] at this
  rw [this]
theorem optF_at {s : List UInt8} : ∀ (n i : Nat), ∀ o ∈ (optF s n i []).1, i ≤ o.At.toNat ∧ 0 ≤ o.At ∧ o.At.toNat + o.Data.length ≤ s.length ∨ (optF s n i []).2 ≠ 0 := by
  intro n
  induction n using Nat.strongRecOn with
  | ind n ih =>
    intro i o ho
    cases n with
    | zero => rw [optF] at ho; simp at ho
    | succ n =>
      rw [optF] at ho ⊢
      cases hb : s[i]? with
      | none => rw [hb] at ho; simp at ho
      | some b =>
        rw [hb] at ho
        simp only at ho ⊢
        by_cases h0 : b = 0
        · rw [if_pos h0] at ho; simp at ho
        rw [if_neg h0] at ho ⊢
        by_cases h1 : b = 1
        · rw [if_pos h1] at ho ⊢
          rcases ih n (by omega) _ o ho with h | h
          · left; omega
          · right; exact h
        rw [if_neg h1] at ho ⊢
        cases hk : s[i + 1]? with
        | none => rw [hk] at ho; simp at ho
        | some k =>
          rw [hk] at ho
          simp only at ho ⊢
          by_cases h2 : k.toNat < 2
          · rw [if_pos h2] at ho; simp at ho
          rw [if_neg h2] at ho ⊢
          by_cases h3 : s.length - i < k.toNat
          · rw [if_pos h3] at ho; simp at ho
          rw [if_neg h3] at ho ⊢
          rw [optF_gen] at ho ⊢
          by_cases hz : (optF s (n + 1 - k.toNat) (i + k.toNat) []).2 = 0
          · rw [if_pos hz] at ho
            simp only [List.nil_append, List.mem_append, List.mem_singleton] at ho
            left
            have hi : i < s.length := by
              rcases Nat.lt_or_ge i s.length with h | h
              · exact h
              · rw [List.getElem?_eq_none h] at hb; cases hb
            rcases ho with rfl | ho
            · simp only [List.length_take, List.length_drop]; omega
            · rcases ih _ (by omega) _ o ho with h | h
              · omega
              · exact absurd hz h
          · right; rw [if_neg hz]; decide
theorem r7st_eq {s : List UInt8} (hs : s.length < 2 ^ 20) : R07_Stamp s = some (stamp7 s) := by
  unfold R07_Stamp R07_StampF stamp7
  rw [l7_eq hs, Option.bind_some]
  have hlen : ∀ o ∈ (opt7 s).1, o.Data.length < 2 ^ 61 := by
    intro o ho
    unfold opt7 at ho
    rcases optF_at _ _ o ho with h | h
    · omega
    · have := opt7_err (s := s) h
      unfold opt7 at this
      rw [this] at ho; simp at ho
  have hcount : (opt7 s).1.length < 2 ^ 60 := by
    have key : ∀ n i out, (optF s n i out).1.length ≤ out.length + n := by
      intro n
      induction n using Nat.strongRecOn with
      | ind n ih =>
        intro i out
        cases n with
        | zero => rw [optF]; simp
        | succ n =>
          rw [optF]
          split
          · simp
          split
          · simp
          split
          · have := ih n (by omega) (i + 1) out; omega
          split
          · simp
          split
          · simp
          split
          · simp
          refine Nat.le_trans (ih _ (by omega) _ _) ?_
          simp; omega
    have := key s.length 0 []
    unfold opt7
    simp at this; omega
  generalize opt7 s = L at *
  have key := iter_eq (step := fun st => R07_Stamp_s1 R02_Must L st) (fun st => stL (L.1.drop st.toNat)) (fun st => 0 ≤ st ∧ st ≤ L.1.length) (fun st => ((L.1.length : Int) - st).toNat) ?_ FUEL 0 ⟨by omega, by omega⟩ (by rw [FUEL_eq]; omega)
  · rw [key]; simp
  intro st ⟨g1, g2⟩
  obtain ⟨i, rfl⟩ := Int.eq_ofNat_of_zero_le g1
  unfold R07_Stamp_s1
  simp only [Int.toNat_natCast]
  by_cases hp : i < L.1.length
  · have ed : L.1.drop i = L.1[i] :: L.1.drop (i + 1) := List.drop_eq_getElem_cons hp
    have hd := hlen _ (List.getElem_mem hp)
    rw [cond_p (by omega), oreq_p (by omega), List.getElem?_eq_getElem hp, Option.bind_some, ed, stL]
    by_cases h8 : L.1[i].Kind = 8
    · refine .inl ?_
      rw [show (L.1[i].Kind == 8) = true by simpa using h8, cond_true, if_pos h8, oreq_p (by omega)]
      by_cases hl : L.1[i].Data.length = 8
      · have r0 := vK_rng L.1[i].Data 0 4 4294967296 (by decide)
        have r4 := vK_rng L.1[i].Data 4 4 4294967296 (by decide)
        have m0 : R02_Must L.1[i].Data 0 4 = some (vK L.1[i].Data 0 4) := must_at (p := 0) (k := 4) hd (by omega) (by omega) (by omega)
        have m4 : R02_Must L.1[i].Data 4 4 = some (vK L.1[i].Data 4 4) := must_at (p := 4) (k := 4) hd (by omega) (by omega) (by omega)
        rw [show (((L.1[i].Data.length : Nat) : Int) != 8) = false by simp; omega, cond_false, if_pos hl, oreq_p (by omega), m0, Option.bind_some, oreq_p (by omega), m4, Option.bind_some, oreq_p (by omega), wU32 r0.1 r0.2, wU32 r4.1 r4.2]
      · rw [show (((L.1[i].Data.length : Nat) : Int) != 8) = true by simp; omega, cond_true, if_neg hl]
    · refine .inr ⟨((i + 1 : Nat) : Int), ?_, ⟨by omega, by omega⟩, by omega, ?_⟩
      · rw [show (L.1[i].Kind == 8) = false by simpa using h8, cond_false, wI64 (by omega) (by omega)]; rfl
      · rw [if_neg h8, Int.toNat_natCast]
  · refine .inl ?_
    rw [cond_n (by omega), List.drop_of_length_le (by omega)]; rfl
theorem val8 {t : List UInt8} (h : t.length = 8) : ((valL t : Nat) : Int) = vK t 0 4 * 4294967296 + vK t 4 4 := by
  unfold vK
  have e : t.take 4 ++ (t.drop 4).take 4 = t := by rw [List.take_of_length_le (l := t.drop 4) (by simp; omega), List.take_append_drop]
  have := val_append (t.take 4) ((t.drop 4).take 4)
  rw [e, show ((t.drop 4).take 4).length = 4 by simp; omega] at this
  rw [List.drop_zero, this]
  omega
theorem t7st_eq {s : List UInt8} (hs : s.length < 2 ^ 20) : tcp_Stamp s = some (stamp7 s) := by
  unfold tcp_Stamp tcp_StampF
  rw [t7_eq hs, Option.bind_some]
  by_cases hz : (opt7 s).2 = 0
  · rw [show ((opt7 s).2 != 0) = false by simpa using hz, cond_false]
    unfold stamp7 opt7
    unfold opt7 at hz
    have key := iter_eq (step := fun st => tcp_Stamp_s1 octet_Get s st) (fun st => stL (optF s (s.length - st.toNat) st.toNat []).1) (fun st => 0 ≤ st ∧ st ≤ s.length ∧ (optF s (s.length - st.toNat) st.toNat []).2 = 0) (fun st => s.length - st.toNat) ?_ FUEL 0 ⟨by omega, by omega, by simpa using hz⟩ (by rw [FUEL_eq]; omega)
    · rw [key]; rfl
    intro st ⟨g1, g2, g3⟩
    obtain ⟨i, rfl⟩ := Int.eq_ofNat_of_zero_le g1
    simp only [Int.toNat_natCast] at g3 ⊢
    unfold tcp_Stamp_s1
    by_cases hi : i < s.length
    · obtain ⟨n, hn⟩ : ∃ n, s.length - i = n + 1 := ⟨s.length - i - 1, by omega⟩
      have e : s[i]? = some s[i] := List.getElem?_eq_getElem hi
      rw [hn, optF, e] at g3
      simp only at g3
      rw [cond_p (by omega), oreq_p (by omega), Int.toNat_natCast, e, Option.bind_some, hn, optF, e]
      by_cases h0 : s[i] = 0
      · refine .inl ?_
        rw [show ((s[i].toNat : Int) == 0) = true by rw [h0]; rfl, cond_true]
        simp only [h0, if_true]; rfl
      rw [show ((s[i].toNat : Int) == 0) = false by simp; intro hx; exact h0 (UInt8.toNat_inj.1 (by simpa using hx)), cond_false]
      rw [if_neg h0] at g3
      simp only [if_neg h0]
      by_cases h1 : s[i] = 1
      · rw [if_pos h1] at g3
        refine .inr ⟨((i + 1 : Nat) : Int), ?_, ⟨by omega, by omega, ?_⟩, by omega, ?_⟩
        · rw [show ((s[i].toNat : Int) == 1) = true by rw [h1]; rfl, cond_true, wI64 (by omega) (by omega)]; rfl
        · rw [Int.toNat_natCast, show s.length - (i + 1) = n by omega]; exact g3
        · simp only [Int.toNat_natCast, if_pos h1]
          rw [show s.length - (i + 1) = n by omega]
      rw [show ((s[i].toNat : Int) == 1) = false by simp; intro hx; exact h1 (UInt8.toNat_inj.1 (by simp; omega)), cond_false]
      rw [if_neg h1] at g3
      simp only [if_neg h1]
      rw [wI64 (n := (i : Int) + 1) (by omega) (by omega)]
      by_cases h2 : s.length ≤ i + 1
      · rw [List.getElem?_eq_none (by omega)] at g3
        simp at g3
      have hi1 : i + 1 < s.length := by omega
      have e1 : s[i + 1]? = some s[i + 1] := List.getElem?_eq_getElem hi1
      have b1 := s[i + 1].toNat_lt
      rw [e1] at g3
      simp only at g3
      rw [cond_p (by omega), show ((i : Int) + 1).toNat = i + 1 by omega, e1, oreq_p (by omega), Option.bind_some]
      simp only [Option.bind_some]
      rw [wI64 (n := (s[i + 1].toNat : Int)) (by omega) (by omega)]
      by_cases h3 : s[i + 1].toNat < 2
      · rw [if_pos h3] at g3
        exact absurd g3 (by decide)
      rw [if_neg h3] at g3
      rw [cond_n (by omega), if_neg h3, wI64 (n := (s.length : Int) - i) (by omega) (by omega)]
      by_cases h4 : s.length - i < s[i + 1].toNat
      · rw [if_pos h4] at g3
        exact absurd g3 (by decide)
      rw [if_neg h4, optF_gen] at g3
      have b0 := s[i].toNat_lt
      have hz2 : (optF s (n + 1 - s[i + 1].toNat) (i + s[i + 1].toNat) []).2 = 0 := by
        apply Decidable.byContradiction
        intro hx
        rw [if_neg hx] at g3
        exact absurd g3 (by decide)
      rw [if_neg h4, optF_gen, if_pos hz2, cond_n (by omega), oreq_p (by omega), wI64 (n := (i : Int) + s[i + 1].toNat) (by omega) (by omega), wI64 (n := (i : Int) + 2) (by omega) (by omega), wI64 (n := (s[i].toNat : Int)) (by omega) (by omega), oreq_p (by omega), show ((i : Int) + s[i + 1].toNat).toNat - ((i : Int) + 2).toNat = s[i + 1].toNat - 2 by omega, show ((i : Int) + 2).toNat = i + 2 by omega]
      simp only [List.nil_append, List.cons_append, stL]
      have hdl : ((s.drop (i + 2)).take (s[i + 1].toNat - 2)).length = s[i + 1].toNat - 2 := by simp; omega
      generalize (s.drop (i + 2)).take (s[i + 1].toNat - 2) = D at *
      by_cases h8 : (s[i].toNat : Int) = 8
      · refine .inl ?_
        rw [show ((s[i].toNat : Int) != 8) = false by simpa using h8, cond_false, if_pos h8, octet_Get_eq (by omega), Option.bind_some]
        by_cases hl : D.length = 8
        · rw [getS_at (by omega) (by omega) (by omega) (by omega), if_pos hl]
          have r0 := vK_rng D 0 4 4294967296 (by decide)
          have r4 := vK_rng D 4 4 4294967296 (by decide)
          have hv := val8 hl
          have ev : (D.drop (0 : Int).toNat).take (8 : Int).toNat = D := by
            rw [show (0 : Int).toNat = 0 from rfl, show (8 : Int).toNat = 8 from rfl, List.drop_zero, List.take_of_length_le (by omega)]
          simp only [cond_true, ev]
          rw [show ((D.length : Int) == 8) = true by simp; omega, cond_true, hv, fdivP, show ((2 : Int) ^ 32) = 4294967296 from rfl, show (vK D 0 4 * 4294967296 + vK D 4 4) / 4294967296 = vK D 0 4 by omega, wU32 r0.1 r0.2, wU32m, show (vK D 0 4 * 4294967296 + vK D 4 4) % 4294967296 = vK D 4 4 by omega]; rfl
        · rw [if_neg hl]
          rw [show ((D.length : Int) == 8) = false by simp; omega]
          cases (getS D 0 8).2 <;> rfl
      · refine .inr ⟨((i + s[i + 1].toNat : Nat) : Int), ?_, ⟨by omega, by omega, ?_⟩, by omega, ?_⟩
        · rw [show ((s[i].toNat : Int) != 8) = true by simpa using h8, cond_true]; rfl
        · rw [Int.toNat_natCast, show s.length - (i + s[i + 1].toNat) = n + 1 - s[i + 1].toNat by omega]; exact hz2
        · rw [Int.toNat_natCast, show s.length - (i + s[i + 1].toNat) = n + 1 - s[i + 1].toNat by omega, if_neg h8]
    · refine .inl ?_
      rw [cond_n (by omega), show s.length - i = 0 by omega, optF]; rfl
  · rw [show ((opt7 s).2 != 0) = true by simpa using hz, cond_true]
    unfold stamp7
    rw [opt7_err hz]; rfl
/-- options with a stamp -/
def stamped7 (v e : Nat) : List UInt8 := [1, 1, 8, 10] ++ (be v 4 ++ be e 4)
theorem t7sd_eq {v e : Nat} (hv : v < 4294967296) (he : e < 4294967296) : tcp_Stamped (v : Int) (e : Int) = some (stamped7 v e) := by
  unfold tcp_Stamped tcp_StampedF stamped7
  have k1 : octet_Put 16844810 4 = some [1, 1, 8, 10] := by rw [octet_Put_eq (by omega)]; rfl
  have k2 : octet_Put (iorI .u64 (wI .u64 ((wI .u64 (v : Int)) * 2 ^ 32)) (wI .u64 (e : Int))) 8 = some (be v 4 ++ be e 4) := by
    have e2 : iorI .u64 (wI .u64 ((wI .u64 (v : Int)) * 2 ^ 32)) (wI .u64 (e : Int)) = ((v * 4294967296 + e : Nat) : Int) := by
      rw [wU64 (n := (v : Int)) (by omega) (by omega), wU64 (n := (e : Int)) (by omega) (by omega), wU64 (n := (v : Int) * 2 ^ 32) (by omega) (by omega), iorU64_low 32 (by omega) (by omega) (by omega) (by omega) (by omega)]; omega
    rw [e2, octet_Put_eq (by omega), show putS ((v * 4294967296 + e : Nat) : Int) 8 = be ((v * 4294967296 + e : Nat) : Int).toNat 8 from putS_be (k := 8) (by omega), Int.toNat_natCast, be_four _ _ (by omega)]
  rw [k1, Option.bind_some]
  simp only []
  rw [k2, Option.bind_some, oreq_p (by simp)]
theorem r7sd_eq {v e : Nat} (hv : v < 4294967296) (he : e < 4294967296) : R07_Stamped (v : Int) (e : Int) = some (stamped7 v e) := by
  have num : ∀ n : Nat, n < 4294967296 → R07_num (wI .i64 (n : Int)) 4 = some (be n 4) := fun n hn => by
    unfold R07_num R07_numF
    rw [wI64 (by omega) (by omega), wU64 (by omega) (by omega), R02_Put_eq (by omega) (by omega), show putS (n : Int) 4 = be (n : Int).toNat 4 from putS_be (k := 4) (by omega), Int.toNat_natCast]; rfl
  unfold R07_Stamped R07_StampedF stamped7
  rw [num v hv, num e he, Option.bind_some, Option.bind_some, oreq_p (by simp), oreq_p (by simp), List.append_assoc]
theorem l8 {l : List UInt8} (h : l.length = 8) : ∃ a b c d e f g i, l = [a, b, c, d, e, f, g, i] := by
  match l, h with
  | [a, b, c, d, e, f, g, i], _ => exact ⟨a, b, c, d, e, f, g, i, rfl⟩
theorem opt7_stamped {d : List UInt8} (h : d.length = 8) : opt7 ([1, 1, 8, 10] ++ d) = ([⟨8, d, 4⟩], 0) := by
  obtain ⟨a, b, c, d, e, f, g, i, rfl⟩ := l8 h
  unfold opt7
  show optF [1, 1, 8, 10, a, b, c, d, e, f, g, i] 12 0 [] = _
  rw [optF]
  show optF [1, 1, 8, 10, a, b, c, d, e, f, g, i] 11 1 [] = _
  rw [optF]
  show optF [1, 1, 8, 10, a, b, c, d, e, f, g, i] 10 2 [] = _
  rw [optF]
  show optF [1, 1, 8, 10, a, b, c, d, e, f, g, i] 0 12 [⟨8, [a, b, c, d, e, f, g, i], 4⟩] = _
  rw [optF]
theorem stamp_stamped {v e : Nat} (hv : v < 4294967296) (he : e < 4294967296) : stamp7 (stamped7 v e) = ((v : Int), (e : Int), 4) := by
  unfold stamp7 stamped7
  rw [opt7_stamped (by simp), stL, if_pos rfl, if_pos (by simp)]
  have a : vK (be v 4 ++ be e 4) 0 4 = (v : Int) := by
    refine vK_of (w := be v 4) ?_ rfl (by omega)
    rw [List.drop_zero]; exact List.take_left' (by simp)
  have b : vK (be v 4 ++ be e 4) 4 4 = (e : Int) := by
    refine vK_of (w := be e 4) ?_ rfl (by omega)
    rw [List.drop_left' (by simp), List.take_of_length_le (by simp)]
  rw [a, b]
end Go.Vm.Code

namespace Go.Vm.Code
open Go Go.Vm Go.Proofs
set_option maxRecDepth 100000
set_option maxHeartbeats 4000000
set_option linter.unusedVariables false

/-! cloakroom/tcp.within -/
def tcp_within_s1 (most : Int) (l : List Int) (t9 : Int) : Option (Sum Int Bool) :=
  cond (decide (t9 < (l.length : Int)))
    (
    oreq (decide ((0 : Int) ≤ t9 ∧ t9 < (l.length : Int))) <|
    (l[t9.toNat]?).bind fun (e : Int) =>
    cond (decide (e < 0))
      (
      some (.inr (false)))
      (
      cond (decide (e > most))
        (
        some (.inr (false)))
        (
        some (.inl (wI .i64 (t9 + 1))))))
    (
    some (.inr (true)))
def tcp_withinF (most : Int) (l : List Int) : Option Bool :=
  iter (fun st => tcp_within_s1 most l st) FUEL 0
def rx126 (x : Bool) : SRes := ⟨.bool x, [], [none]⟩
def r126 (g : Int → (List Int) → Option Bool) : Dec := dV (asI .i64) fun (y0 : Int) => dSl 0 1 (unL (asI .i64)) fun (y1 : List Int) => dEnd (ofG (g y0 y1) rx126)
theorem r126_c {g : Int → (List Int) → Option Bool} {y0 : Int} {y1 : List Int} {x : Bool} (hx : g y0 y1 = some x) : r126 g [.int .i64 y0, .slice (some ⟨0, 0, none⟩) y1.length 1] [some (vI .i64 y1)] = some (rx126 x) := (dV_eq (asI_c _)).trans ((dSl_eq (unI_vI _ _)).trans (ofG_eq hx))
def s126 (g : Int → (List Int) → Option Bool) : Summ := ⟨[.v, .sl 1], r126 g⟩
theorem r126_eq {g : Int → (List Int) → Option Bool} {y0 : Int} {y1 : List Int} {x : Bool} (hx : g y0 y1 = some x) : (s126 g).run [.int .i64 y0, .slice (some ⟨0, 0, none⟩) y1.length 1] [some (vI .i64 y1)] = some (rx126 x) := r126_c hx
abbrev sums126 : List (Nat × Summ) := []
def head126_1 (most : Int) (l : List Int) (t9 : Int) : VM :=
  ⟨⟨126, 21, [(0, .int .i64 most), (7, .slice (some ⟨0, 0, none⟩) l.length 1), (8, .int .i64 (l.length : Int)), (9, .int .i64 t9)], [.code k126_15, .inLoop k126_15, .inBlock 0, .code k126_20], [], false, none⟩, [], [(0, .row false (vI .i64 l))], 1⟩
theorem loop126_1 (hS : SumsOK Try.prog (aget (sums126))) (most : Int) (l : List Int) (res : Bool) : ∀ fuel (st : Int) (o : Bool), iter (fun st => tcp_within_s1 most l st) fuel st = some o → (o = res) →
    Leads Try.prog 126 1 (head126_1 most l st) (fun v H _ => Res 1 (rx126 res) v H) := by
  intro fuel st o h hc
  refine iter_leads (head := fun st => head126_1 most l st) (C := fun o => (o = res)) ?_ fuel st o h hc
  clear h hc o st fuel
  intro t9 o h hc
  replace h : tcp_within_s1 most l t9 = some o := h
  show Leads Try.prog 126 1 (head126_1 most l t9) (fun v H _ => Res 1 (rx126 res) v H)
  unfold tcp_within_s1 at h
  refine ev_ok tab_ok hS true 3000 ?_
  conv => whnf
  refine br.h2 h ?_ ?_ ?_
  · rfl
  · clear h; intro hb h; conv => whnf
    all_goals (cases h; cases hc)
    all_goals exact Res.of [] rfl nw_0 (by decide) js_0 (wr_n wr_0)
  clear h; intro hb h; conv => whnf
  replace h := oreq.elim h; have hb := h.1; replace h := h.2
  first | (refine req.intro hb ?_; conv => whnf) | skip
  obtain ⟨e, hy, h2⟩ := obind.elim h; clear h; have h := h2; clear h2
  refine rd.I hy (by first | rfl | (rw [Nat.zero_add, Nat.mul_one]; done) | omega) ?_
  conv => whnf
  refine br.h h ?_ ?_ ?_
  · rfl
  · clear h; intro hb h; conv => whnf
    all_goals (cases h; cases hc)
    all_goals exact Res.of [] rfl nw_0 (by decide) js_0 (wr_n wr_0)
  clear h; intro hb h; conv => whnf
  refine br.h h ?_ ?_ ?_
  · rfl
  · clear h; intro hb h; conv => whnf
    all_goals (cases h; cases hc)
    all_goals exact Res.of [] rfl nw_0 (by decide) js_0 (wr_n wr_0)
  clear h; intro hb h; conv => whnf
  cases h; simp only [Sum.elim_inl, head126_1] at hc
  refine Leads.re hc [(0, 0)] rfl ?_ ?_ <;> (repeat' first | exact trivial | refine ⟨⟨_, rfl, rfl⟩, ?_⟩ | refine ⟨⟨_, _, rfl, rfl, .rowF (vI_flat _ _) id⟩, ?_⟩ | refine ⟨⟨_, _, rfl, rfl, .rowF (vS_flat _) id⟩, ?_⟩ | refine ⟨⟨_, _, rfl, rfl, .rowF (vB_flat _) id⟩, ?_⟩ | refine ⟨⟨_, _, rfl, rfl, .rowF (vT_flat (by first | exact ctcp_Head_flat | exact capi_Addr_flat | exact ctcp_Opt_flat | exact coctet_Reader_flat | exact cR07_Opt_flat) _) id⟩, ?_⟩ | refine ⟨⟨_, _, rfl, rfl, .tyF (vI_flat _ _)⟩, ?_⟩ | refine ⟨⟨_, _, rfl, rfl, .ty rfl⟩, ?_⟩ | refine ⟨⟨_, _, rfl, rfl, .cells rfl⟩, ?_⟩ | refine ⟨⟨_, _, rfl, rfl, .row rfl id⟩, ?_⟩ | refine ⟨⟨_, _, rfl, rfl, .cr rfl⟩, ?_⟩ | refine ⟨⟨_, _, rfl, rfl, .rc rfl⟩, ?_⟩ | refine ⟨⟨_, _, rfl, rfl, .marks⟩, ?_⟩ | refine ⟨⟨_, _, rfl, rfl, .siter _ _⟩, ?_⟩ | refine ⟨⟨_, _, rfl, rfl, .loop rfl rfl rfl rfl (by repeat' first | exact trivial | refine ⟨rfl, ?_⟩) rfl rfl rfl rfl⟩, ?_⟩)
theorem leads126 (hS : SumsOK Try.prog (aget (sums126))) (most : Int) (l : List Int) (res : Bool) (h : tcp_withinF most l = some res) :
    Leads Try.prog 126 1 ⟨⟨126, 21, [(0, .int .i64 most), (1, .slice (some ⟨0, 0, none⟩) l.length 1)], [.code k126_22], [], false, none⟩, [], [(0, .row false (vI .i64 l))], 1⟩ (fun v H _ => Res 1 (rx126 res) v H) := by
  unfold tcp_withinF at h
  refine ev_ok tab_ok hS true 3000 ?_
  conv => whnf
  have hl := loop126_1 hS _ _ res _ _ _ h rfl; simp only [head126_1] at hl
  refine Leads.re hl [(0, 0)] rfl ?_ ?_ <;> (repeat' first | exact trivial | refine ⟨⟨_, rfl, rfl⟩, ?_⟩ | refine ⟨⟨_, _, rfl, rfl, .rowF (vI_flat _ _) id⟩, ?_⟩ | refine ⟨⟨_, _, rfl, rfl, .rowF (vS_flat _) id⟩, ?_⟩ | refine ⟨⟨_, _, rfl, rfl, .rowF (vB_flat _) id⟩, ?_⟩ | refine ⟨⟨_, _, rfl, rfl, .rowF (vT_flat (by first | exact ctcp_Head_flat | exact capi_Addr_flat | exact ctcp_Opt_flat | exact coctet_Reader_flat | exact cR07_Opt_flat) _) id⟩, ?_⟩ | refine ⟨⟨_, _, rfl, rfl, .tyF (vI_flat _ _)⟩, ?_⟩ | refine ⟨⟨_, _, rfl, rfl, .ty rfl⟩, ?_⟩ | refine ⟨⟨_, _, rfl, rfl, .cells rfl⟩, ?_⟩ | refine ⟨⟨_, _, rfl, rfl, .row rfl id⟩, ?_⟩ | refine ⟨⟨_, _, rfl, rfl, .cr rfl⟩, ?_⟩ | refine ⟨⟨_, _, rfl, rfl, .rc rfl⟩, ?_⟩ | refine ⟨⟨_, _, rfl, rfl, .marks⟩, ?_⟩ | refine ⟨⟨_, _, rfl, rfl, .siter _ _⟩, ?_⟩ | refine ⟨⟨_, _, rfl, rfl, .loop rfl rfl rfl rfl (by repeat' first | exact trivial | refine ⟨rfl, ?_⟩) rfl rfl rfl rfl⟩, ?_⟩)
theorem ok126 (hS : SumsOK Try.prog (aget (sums126))) : SumOK Try.prog 126 (s126 (tcp_withinF)) := by
  refine SumOK.of_leads tab_ok (fun ar os r ha hr => ?_) ⟨Try.f126, rfl, by decide, rfl⟩
  replace hr : r126 (tcp_withinF) ar (conts os) = some r := hr
  unfold r126 at hr
  generalize hc : conts os = C at hr
  have hq := dV.elim hr; clear hr; obtain ⟨v0, l1, y0, rfl, e0, hr⟩ := hq; obtain rfl := asI_eq _ _ _ e0
  have hq := dSl.elim hr; clear hr; obtain ⟨c1, l2, C, y1, rfl, rfl, e1, hr⟩ := hq; obtain rfl := unI_eq e1
  have hq := dEnd.elim hr; clear hr; obtain ⟨rfl, rfl, hr⟩ := hq
  have hq := ofG.elim hr; clear hr; obtain ⟨x, h, rfl⟩ := hq
  obtain ⟨os, rfl, ha, hc⟩ := kinds_some ha hc
  obtain rfl := kinds_nil hc
  exact ⟨_, rfl, leads126 hS _ _ x h⟩
def tcp_within : Int → (List Int) → Option Bool := tcp_withinF
theorem lift126 : SumOK Try.prog 126 (s126 tcp_within) := ok126 (SumsOK.of_tab trivial)
end Go.Vm.Code

namespace Go.Vm.Code
open Go Go.Vm Go.Proofs
set_option maxRecDepth 100000
set_option maxHeartbeats 4000000
set_option linter.unusedVariables false

/-! (cloakroom/tcp.Head).may -/
def tcp_Head_mayF (tcp_within : Int → (List Int) → Option Bool) (ha0 : tcp_Head) : Option Bool :=
  (tcp_within 65535 [ha0.SPort, ha0.DPort, ha0.Window, ha0.Urgent]).bind fun w =>
  cond (w)
    (
    (tcp_within 255 [ha0.Flags]).bind fun w1 =>
    cond (w1)
      (
      cond (((ha0.Options.length : Int).tmod 4) == 0)
        (
        some (decide ((ha0.Options.length : Int) ≤ 40)))
        (
        some (false)))
      (
      some (false)))
    (
    some (false))
def rx106 (x : Bool) : SRes := ⟨.bool x, [], []⟩
def r106 (g : tcp_Head → Option Bool) : Dec := dV uvtcp_Head fun (y0 : tcp_Head) => dEnd (ofG (g y0) rx106)
theorem r106_c {g : tcp_Head → Option Bool} {y0 : tcp_Head} {x : Bool} (hx : g y0 = some x) : r106 g [.agg ⟨[.int .i64 y0.SPort, .int .i64 y0.DPort, .int .u32 y0.Seq, .int .u32 y0.Ack, .int .i64 y0.Flags, .int .i64 y0.Window, .int .i64 y0.Urgent, .string ⟨⟨y0.Options⟩⟩]⟩] [] = some (rx106 x) := (dV_eq (uvtcp_Head_c _)).trans (ofG_eq hx)
def s106 (g : tcp_Head → Option Bool) : Summ := ⟨[.v], r106 g⟩
theorem r106_eq {g : tcp_Head → Option Bool} {y0 : tcp_Head} {x : Bool} (hx : g y0 = some x) : (s106 g).run [.agg ⟨[.int .i64 y0.SPort, .int .i64 y0.DPort, .int .u32 y0.Seq, .int .u32 y0.Ack, .int .i64 y0.Flags, .int .i64 y0.Window, .int .i64 y0.Urgent, .string ⟨⟨y0.Options⟩⟩]⟩] [] = some (rx106 x) := r106_c hx
abbrev sums106 (tcp_within : Int → (List Int) → Option Bool) : List (Nat × Summ) := [(126, s126 tcp_within)]
theorem leads106 (tcp_within : Int → (List Int) → Option Bool) (hS : SumsOK Try.prog (aget (sums106 tcp_within))) (ha0 : tcp_Head) (res : Bool) (h : tcp_Head_mayF tcp_within ha0 = some res) :
    Leads Try.prog 106 0 ⟨⟨106, 32, [(0, .agg ⟨[.int .i64 ha0.SPort, .int .i64 ha0.DPort, .int .u32 ha0.Seq, .int .u32 ha0.Ack, .int .i64 ha0.Flags, .int .i64 ha0.Window, .int .i64 ha0.Urgent, .string ⟨⟨ha0.Options⟩⟩]⟩)], [.code k106_3], [], false, none⟩, [], [], 0⟩ (fun v H _ => Res 0 (rx106 res) v H) := by
  unfold tcp_Head_mayF at h
  refine ev_ok tab_ok hS true 3000 ?_
  conv => whnf
  obtain ⟨w, hy, h2⟩ := obind.elim h; clear h; have h := h2; clear h2
  refine sumK.introF [] (sumRun_of (aqs := [.int .i64 65535, .slice (some ⟨0, 0, none⟩) ([ha0.SPort, ha0.DPort, ha0.Window, ha0.Urgent] : List Int).length 1]) (ws := [.win 1 0 (4 * 1) false]) (n := 0) (m := 0) (t' := 2) (ra_cons rfl rfl (ra_cons (by first | rfl | exact ra_allI rfl rfl (by first | rfl | omega) (by first | rfl | (simp; done)) | exact ra_slI rfl rfl (by first | rfl | omega) (by first | rfl | omega) (by first | omega | (simp at *; omega))) rfl ra_nil)) rfl (by rfl) (r126_eq hy) rfl rfl rfl rfl (wb_skip rfl wb_nil) an_nil rfl) ?_
  conv => whnf
  refine br.h2 h ?_ ?_ ?_
  · rfl
  · clear h; intro hb h; conv => whnf
    all_goals (cases h)
    all_goals exact Res.of [] rfl nw_0 (by decide) js_0 wr_0
  clear h; intro hb h; conv => whnf
  obtain ⟨w1, hy, h2⟩ := obind.elim h; clear h; have h := h2; clear h2
  refine sumK.introF [] (sumRun_of (aqs := [.int .i64 255, .slice (some ⟨0, 0, none⟩) ([ha0.Flags] : List Int).length 1]) (ws := [.win 2 0 (1 * 1) false]) (n := 0) (m := 0) (t' := 3) (ra_cons rfl rfl (ra_cons (by first | rfl | exact ra_allI rfl rfl (by first | rfl | omega) (by first | rfl | (simp; done)) | exact ra_slI rfl rfl (by first | rfl | omega) (by first | rfl | omega) (by first | omega | (simp at *; omega))) rfl ra_nil)) rfl (by rfl) (r126_eq hy) rfl rfl rfl rfl (wb_skip rfl wb_nil) an_nil rfl) ?_
  conv => whnf
  refine br.h2 h ?_ ?_ ?_
  · rfl
  · clear h; intro hb h; conv => whnf
    all_goals (cases h)
    all_goals exact Res.of [] rfl nw_0 (by decide) js_0 wr_0
  clear h; intro hb h; conv => whnf
  refine br.h h ?_ ?_ ?_
  · rfl
  · clear h; intro hb h; conv => whnf
    all_goals (cases h)
    all_goals exact Res.of [] rfl nw_0 (by decide) js_0 wr_0
  clear h; intro hb h; conv => whnf
  all_goals (cases h)
  all_goals exact Res.of [] rfl nw_0 (by decide) js_0 wr_0
theorem ok106 (tcp_within : Int → (List Int) → Option Bool) (hS : SumsOK Try.prog (aget (sums106 tcp_within))) : SumOK Try.prog 106 (s106 (tcp_Head_mayF tcp_within)) := by
  refine SumOK.of_leads tab_ok (fun ar os r ha hr => ?_) ⟨Try.f106, rfl, by decide, rfl⟩
  replace hr : r106 (tcp_Head_mayF tcp_within) ar (conts os) = some r := hr
  unfold r106 at hr
  generalize hc : conts os = C at hr
  have hq := dV.elim hr; clear hr; obtain ⟨v0, l1, y0, rfl, e0, hr⟩ := hq; obtain rfl := uvtcp_Head_eq _ _ e0
  have hq := dEnd.elim hr; clear hr; obtain ⟨rfl, rfl, hr⟩ := hq
  have hq := ofG.elim hr; clear hr; obtain ⟨x, h, rfl⟩ := hq
  obtain rfl := kinds_nil hc
  exact ⟨_, rfl, leads106 tcp_within hS _ x h⟩
def tcp_Head_may : tcp_Head → Option Bool := tcp_Head_mayF tcp_within
theorem lift106 : SumOK Try.prog 106 (s106 tcp_Head_may) := ok106 tcp_within (SumsOK.of_tab ⟨lift126, trivial⟩)
end Go.Vm.Code

namespace Go.Vm.Code
open Go Go.Vm Go.Proofs
set_option maxRecDepth 100000
set_option maxHeartbeats 4000000
set_option linter.unusedVariables false

/-! (cloakroom/tcp.Head).laid -/
def tcp_Head_laidF (octet_Put : Int → Int → Option (List UInt8)) (ha0 : tcp_Head) : Option (List UInt8) :=
  let t := wI .i64 (20 + (ha0.Options.length : Int))
  let t1 := iorI .u64 (wI .u64 ((wI .u64 ha0.SPort) * 2 ^ 16)) (wI .u64 ha0.DPort)
  (octet_Put t1 4).bind fun p =>
  let t2 := iorI .u64 (wI .u64 ((wI .u64 ha0.Seq) * 2 ^ 32)) (wI .u64 ha0.Ack)
  (octet_Put t2 8).bind fun p1 =>
  let t3 := wI .u64 ((wI .u64 ((wI .u64 t).tdiv 4)) * 2 ^ 12)
  (octet_Put (iorI .u64 t3 (wI .u64 ha0.Flags)) 2).bind fun p2 =>
  (octet_Put (wI .u64 ha0.Window) 2).bind fun p3 =>
  oreq (decide (p2.length + p3.length < 2 ^ 63)) <|
  oreq (decide (p.length + p1.length < 2 ^ 63)) <|
  oreq (decide ((p ++ p1).length + (p2 ++ p3).length < 2 ^ 63)) <|
  (octet_Put (wI .u64 ha0.Urgent) 4).bind fun p4 =>
  oreq (decide (((p ++ p1) ++ (p2 ++ p3)).length + p4.length < 2 ^ 63)) <|
  oreq (decide ((((p ++ p1) ++ (p2 ++ p3)) ++ p4).length + ha0.Options.length < 2 ^ 63)) <|
  let t4 := (((p ++ p1) ++ (p2 ++ p3)) ++ p4) ++ ha0.Options
  some (t4)
def rx107 (x : List UInt8) : SRes := ⟨.string ⟨⟨x⟩⟩, [], []⟩
def r107 (g : tcp_Head → Option (List UInt8)) : Dec := dV uvtcp_Head fun (y0 : tcp_Head) => dEnd (ofG (g y0) rx107)
theorem r107_c {g : tcp_Head → Option (List UInt8)} {y0 : tcp_Head} {x : List UInt8} (hx : g y0 = some x) : r107 g [.agg ⟨[.int .i64 y0.SPort, .int .i64 y0.DPort, .int .u32 y0.Seq, .int .u32 y0.Ack, .int .i64 y0.Flags, .int .i64 y0.Window, .int .i64 y0.Urgent, .string ⟨⟨y0.Options⟩⟩]⟩] [] = some (rx107 x) := (dV_eq (uvtcp_Head_c _)).trans (ofG_eq hx)
def s107 (g : tcp_Head → Option (List UInt8)) : Summ := ⟨[.v], r107 g⟩
theorem r107_eq {g : tcp_Head → Option (List UInt8)} {y0 : tcp_Head} {x : List UInt8} (hx : g y0 = some x) : (s107 g).run [.agg ⟨[.int .i64 y0.SPort, .int .i64 y0.DPort, .int .u32 y0.Seq, .int .u32 y0.Ack, .int .i64 y0.Flags, .int .i64 y0.Window, .int .i64 y0.Urgent, .string ⟨⟨y0.Options⟩⟩]⟩] [] = some (rx107 x) := r107_c hx
abbrev sums107 (octet_Put : Int → Int → Option (List UInt8)) : List (Nat × Summ) := [(62, s62 octet_Put)]
theorem leads107 (octet_Put : Int → Int → Option (List UInt8)) (hS : SumsOK Try.prog (aget (sums107 octet_Put))) (ha0 : tcp_Head) (res : List UInt8) (h : tcp_Head_laidF octet_Put ha0 = some res) :
    Leads Try.prog 107 0 ⟨⟨107, 56, [(0, .agg ⟨[.int .i64 ha0.SPort, .int .i64 ha0.DPort, .int .u32 ha0.Seq, .int .u32 ha0.Ack, .int .i64 ha0.Flags, .int .i64 ha0.Window, .int .i64 ha0.Urgent, .string ⟨⟨ha0.Options⟩⟩]⟩)], [.code k107_11], [], false, none⟩, [], [], 0⟩ (fun v H _ => Res 0 (rx107 res) v H) := by
  unfold tcp_Head_laidF at h
  refine ev_ok tab_ok hS true 3000 ?_
  conv => whnf
  let t : Int := wI .i64 (20 + (ha0.Options.length : Int))
  let t1 : Int := iorI .u64 (wI .u64 ((wI .u64 ha0.SPort) * 2 ^ 16)) (wI .u64 ha0.DPort)
  obtain ⟨p, hy, h2⟩ := obind.elim h; clear h; have h := h2; clear h2
  refine sumK.introF [] (sumRun_of (aqs := [.int .u64 t1, .int .i64 4]) (ws := []) (n := 0) (m := 0) (t' := 1) (ra_cons rfl rfl (ra_cons rfl rfl ra_nil)) rfl (by rfl) (r62_eq hy) rfl rfl rfl rfl wb_nil an_nil rfl) ?_
  conv => whnf
  let t2 : Int := iorI .u64 (wI .u64 ((wI .u64 ha0.Seq) * 2 ^ 32)) (wI .u64 ha0.Ack)
  obtain ⟨p1, hy, h2⟩ := obind.elim h; clear h; have h := h2; clear h2
  refine sumK.introF [] (sumRun_of (aqs := [.int .u64 t2, .int .i64 8]) (ws := []) (n := 0) (m := 0) (t' := 1) (ra_cons rfl rfl (ra_cons rfl rfl ra_nil)) rfl (by rfl) (r62_eq hy) rfl rfl rfl rfl wb_nil an_nil rfl) ?_
  conv => whnf
  let t3 : Int := wI .u64 ((wI .u64 ((wI .u64 t).tdiv 4)) * 2 ^ 12)
  obtain ⟨p2, hy, h2⟩ := obind.elim h; clear h; have h := h2; clear h2
  refine sumK.introF [] (sumRun_of (aqs := [.int .u64 (iorI .u64 t3 (wI .u64 ha0.Flags)), .int .i64 2]) (ws := []) (n := 0) (m := 0) (t' := 7) (ra_cons rfl rfl (ra_cons rfl rfl ra_nil)) rfl (by rfl) (r62_eq hy) rfl rfl rfl rfl wb_nil an_nil rfl) ?_
  conv => whnf
  obtain ⟨p3, hy, h2⟩ := obind.elim h; clear h; have h := h2; clear h2
  refine sumK.introF [] (sumRun_of (aqs := [.int .u64 (wI .u64 ha0.Window), .int .i64 2]) (ws := []) (n := 0) (m := 0) (t' := 11) (ra_cons rfl rfl (ra_cons rfl rfl ra_nil)) rfl (by rfl) (r62_eq hy) rfl rfl rfl rfl wb_nil an_nil rfl) ?_
  conv => whnf
  replace h := oreq.elim h; have hb := h.1; replace h := h.2
  first | (refine req.intro hb ?_; conv => whnf) | skip
  replace h := oreq.elim h; have hb := h.1; replace h := h.2
  first | (refine req.intro hb ?_; conv => whnf) | skip
  replace h := oreq.elim h; have hb := h.1; replace h := h.2
  first | (refine req.intro hb ?_; conv => whnf) | skip
  obtain ⟨p4, hy, h2⟩ := obind.elim h; clear h; have h := h2; clear h2
  refine sumK.introF [] (sumRun_of (aqs := [.int .u64 (wI .u64 ha0.Urgent), .int .i64 4]) (ws := []) (n := 0) (m := 0) (t' := 19) (ra_cons rfl rfl (ra_cons rfl rfl ra_nil)) rfl (by rfl) (r62_eq hy) rfl rfl rfl rfl wb_nil an_nil rfl) ?_
  conv => whnf
  replace h := oreq.elim h; have hb := h.1; replace h := h.2
  first | (refine req.intro hb ?_; conv => whnf) | skip
  replace h := oreq.elim h; have hb := h.1; replace h := h.2
  first | (refine req.intro hb ?_; conv => whnf) | skip
  let t4 : List UInt8 := (((p ++ p1) ++ (p2 ++ p3)) ++ p4) ++ ha0.Options
  all_goals (cases h)
  all_goals exact Res.of [] rfl nw_0 (by decide) js_0 wr_0
theorem ok107 (octet_Put : Int → Int → Option (List UInt8)) (hS : SumsOK Try.prog (aget (sums107 octet_Put))) : SumOK Try.prog 107 (s107 (tcp_Head_laidF octet_Put)) := by
  refine SumOK.of_leads tab_ok (fun ar os r ha hr => ?_) ⟨Try.f107, rfl, by decide, rfl⟩
  replace hr : r107 (tcp_Head_laidF octet_Put) ar (conts os) = some r := hr
  unfold r107 at hr
  generalize hc : conts os = C at hr
  have hq := dV.elim hr; clear hr; obtain ⟨v0, l1, y0, rfl, e0, hr⟩ := hq; obtain rfl := uvtcp_Head_eq _ _ e0
  have hq := dEnd.elim hr; clear hr; obtain ⟨rfl, rfl, hr⟩ := hq
  have hq := ofG.elim hr; clear hr; obtain ⟨x, h, rfl⟩ := hq
  obtain rfl := kinds_nil hc
  exact ⟨_, rfl, leads107 octet_Put hS _ x h⟩
def tcp_Head_laid : tcp_Head → Option (List UInt8) := tcp_Head_laidF octet_Put
theorem lift107 : SumOK Try.prog 107 (s107 tcp_Head_laid) := ok107 octet_Put (SumsOK.of_tab ⟨lift62, trivial⟩)
end Go.Vm.Code

namespace Go.Vm.Code
open Go Go.Vm Go.Proofs
set_option maxRecDepth 100000
set_option maxHeartbeats 4000000
set_option linter.unusedVariables false

/-! cloakroom/tcp.Put -/
def tcp_PutF (check_Of : (List UInt8) → Option Int) (check_Set : (List UInt8) → Int → Int → Int → Option (List UInt8)) (ipfour_Pseudo : api_Addr → api_Addr → Int → Int → Option (List UInt8)) (tcp_Head_laid : tcp_Head → Option (List UInt8)) (tcp_Head_may : tcp_Head → Option Bool) (ha0 : tcp_Head) (src : api_Addr) (dst : api_Addr) (payload : List UInt8) : Option ((List UInt8) × Int) :=
  let t := wI .i64 (20 + (ha0.Options.length : Int))
  (ipfour_Pseudo src dst 6 (wI .i64 (t + (payload.length : Int)))).bind fun p =>
  (tcp_Head_may ha0).bind fun m =>
  cond (!m)
    (
    some (([], 1)))
    (
    cond (p == [])
      (
      some (([], 1)))
      (
      let t1 := decide ((payload.length : Int) > (wI .i64 (65535 - t)))
      cond (t1)
        (
        some (([], 5)))
        (
        (tcp_Head_laid ha0).bind fun l =>
        oreq (decide (l.length + payload.length < 2 ^ 63)) <|
        oreq (decide (p.length + (l ++ payload).length < 2 ^ 63)) <|
        (check_Of (p ++ (l ++ payload))).bind fun xo =>
        (check_Set (l ++ payload) 16 2 (wI .u64 xo)).bind fun s =>
        some ((s, 0)))))
def rx48 (x : (List UInt8) × Int) : SRes := ⟨.tuple ⟨[.string ⟨⟨x.1⟩⟩, .int .i64 x.2]⟩, [], []⟩
def r48 (g : tcp_Head → api_Addr → api_Addr → (List UInt8) → Option ((List UInt8) × Int)) : Dec := dV uvtcp_Head fun (y0 : tcp_Head) => dV uvapi_Addr fun (y1 : api_Addr) => dV uvapi_Addr fun (y2 : api_Addr) => dV asS fun (y3 : List UInt8) => dEnd (ofG (g y0 y1 y2 y3) rx48)
theorem r48_c {g : tcp_Head → api_Addr → api_Addr → (List UInt8) → Option ((List UInt8) × Int)} {y0 : tcp_Head} {y1 : api_Addr} {y2 : api_Addr} {y3 : List UInt8} {x : (List UInt8) × Int} (hx : g y0 y1 y2 y3 = some x) : r48 g [.agg ⟨[.int .i64 y0.SPort, .int .i64 y0.DPort, .int .u32 y0.Seq, .int .u32 y0.Ack, .int .i64 y0.Flags, .int .i64 y0.Window, .int .i64 y0.Urgent, .string ⟨⟨y0.Options⟩⟩]⟩, .agg ⟨[.bool y1.V6, .int .u64 y1.Hi, .int .u64 y1.Lo]⟩, .agg ⟨[.bool y2.V6, .int .u64 y2.Hi, .int .u64 y2.Lo]⟩, .string ⟨⟨y3⟩⟩] [] = some (rx48 x) := (dV_eq (uvtcp_Head_c _)).trans ((dV_eq (uvapi_Addr_c _)).trans ((dV_eq (uvapi_Addr_c _)).trans ((dV_eq (asS_c)).trans (ofG_eq hx))))
def s48 (g : tcp_Head → api_Addr → api_Addr → (List UInt8) → Option ((List UInt8) × Int)) : Summ := ⟨[.v, .v, .v, .v], r48 g⟩
theorem r48_eq {g : tcp_Head → api_Addr → api_Addr → (List UInt8) → Option ((List UInt8) × Int)} {y0 : tcp_Head} {y1 : api_Addr} {y2 : api_Addr} {y3 : List UInt8} {x : (List UInt8) × Int} (hx : g y0 y1 y2 y3 = some x) : (s48 g).run [.agg ⟨[.int .i64 y0.SPort, .int .i64 y0.DPort, .int .u32 y0.Seq, .int .u32 y0.Ack, .int .i64 y0.Flags, .int .i64 y0.Window, .int .i64 y0.Urgent, .string ⟨⟨y0.Options⟩⟩]⟩, .agg ⟨[.bool y1.V6, .int .u64 y1.Hi, .int .u64 y1.Lo]⟩, .agg ⟨[.bool y2.V6, .int .u64 y2.Hi, .int .u64 y2.Lo]⟩, .string ⟨⟨y3⟩⟩] [] = some (rx48 x) := r48_c hx
abbrev sums48 (check_Of : (List UInt8) → Option Int) (check_Set : (List UInt8) → Int → Int → Int → Option (List UInt8)) (ipfour_Pseudo : api_Addr → api_Addr → Int → Int → Option (List UInt8)) (tcp_Head_laid : tcp_Head → Option (List UInt8)) (tcp_Head_may : tcp_Head → Option Bool) : List (Nat × Summ) := [(64, s64 check_Of), (65, s65 check_Set), (27, s27 ipfour_Pseudo), (107, s107 tcp_Head_laid), (106, s106 tcp_Head_may)]
theorem leads48 (check_Of : (List UInt8) → Option Int) (check_Set : (List UInt8) → Int → Int → Int → Option (List UInt8)) (ipfour_Pseudo : api_Addr → api_Addr → Int → Int → Option (List UInt8)) (tcp_Head_laid : tcp_Head → Option (List UInt8)) (tcp_Head_may : tcp_Head → Option Bool) (hS : SumsOK Try.prog (aget (sums48 check_Of check_Set ipfour_Pseudo tcp_Head_laid tcp_Head_may))) (ha0 : tcp_Head) (src : api_Addr) (dst : api_Addr) (payload : List UInt8) (res : (List UInt8) × Int) (h : tcp_PutF check_Of check_Set ipfour_Pseudo tcp_Head_laid tcp_Head_may ha0 src dst payload = some res) :
    Leads Try.prog 48 0 ⟨⟨48, 49, [(0, .agg ⟨[.int .i64 ha0.SPort, .int .i64 ha0.DPort, .int .u32 ha0.Seq, .int .u32 ha0.Ack, .int .i64 ha0.Flags, .int .i64 ha0.Window, .int .i64 ha0.Urgent, .string ⟨⟨ha0.Options⟩⟩]⟩), (1, .agg ⟨[.bool src.V6, .int .u64 src.Hi, .int .u64 src.Lo]⟩), (2, .agg ⟨[.bool dst.V6, .int .u64 dst.Hi, .int .u64 dst.Lo]⟩), (3, .string ⟨⟨payload⟩⟩)], [.code k48_21], [], false, none⟩, [], [], 0⟩ (fun v H _ => Res 0 (rx48 res) v H) := by
  unfold tcp_PutF at h
  refine ev_ok tab_ok hS true 3000 ?_
  conv => whnf
  let t : Int := wI .i64 (20 + (ha0.Options.length : Int))
  obtain ⟨p, hy, h2⟩ := obind.elim h; clear h; have h := h2; clear h2
  refine sumK.introF [] (sumRun_of (aqs := [.agg ⟨[.bool src.V6, .int .u64 src.Hi, .int .u64 src.Lo]⟩, .agg ⟨[.bool dst.V6, .int .u64 dst.Hi, .int .u64 dst.Lo]⟩, .int .i64 6, .int .i64 (wI .i64 (t + (payload.length : Int)))]) (ws := []) (n := 0) (m := 0) (t' := 3) (ra_cons rfl rfl (ra_cons rfl rfl (ra_cons rfl rfl (ra_cons rfl rfl ra_nil)))) rfl (by rfl) (r27_eq hy) rfl rfl rfl rfl wb_nil an_nil rfl) ?_
  conv => whnf
  obtain ⟨m, hy, h2⟩ := obind.elim h; clear h; have h := h2; clear h2
  refine sumK.introF [] (sumRun_of (aqs := [.agg ⟨[.int .i64 ha0.SPort, .int .i64 ha0.DPort, .int .u32 ha0.Seq, .int .u32 ha0.Ack, .int .i64 ha0.Flags, .int .i64 ha0.Window, .int .i64 ha0.Urgent, .string ⟨⟨ha0.Options⟩⟩]⟩]) (ws := []) (n := 0) (m := 0) (t' := 3) (ra_cons rfl rfl ra_nil) rfl (by rfl) (r106_eq hy) rfl rfl rfl rfl wb_nil an_nil rfl) ?_
  conv => whnf
  refine br.h h ?_ ?_ ?_
  · rfl
  · clear h; intro hb h; conv => whnf
    all_goals (cases h)
    all_goals exact Res.of [] rfl nw_0 (by decide) js_0 wr_0
  clear h; intro hb h; conv => whnf
  refine br.h h ?_ ?_ ?_
  · rfl
  · clear h; intro hb h; conv => whnf
    all_goals (cases h)
    all_goals exact Res.of [] rfl nw_0 (by decide) js_0 wr_0
  clear h; intro hb h; conv => whnf
  let t1 : Bool := decide ((payload.length : Int) > (wI .i64 (65535 - t)))
  refine br.h h ?_ ?_ ?_
  · rfl
  · clear h; intro hb h; conv => whnf
    all_goals (cases h)
    all_goals exact Res.of [] rfl nw_0 (by decide) js_0 wr_0
  clear h; intro hb h; conv => whnf
  obtain ⟨l, hy, h2⟩ := obind.elim h; clear h; have h := h2; clear h2
  refine sumK.introF [] (sumRun_of (aqs := [.agg ⟨[.int .i64 ha0.SPort, .int .i64 ha0.DPort, .int .u32 ha0.Seq, .int .u32 ha0.Ack, .int .i64 ha0.Flags, .int .i64 ha0.Window, .int .i64 ha0.Urgent, .string ⟨⟨ha0.Options⟩⟩]⟩]) (ws := []) (n := 0) (m := 0) (t' := 3) (ra_cons rfl rfl ra_nil) rfl (by rfl) (r107_eq hy) rfl rfl rfl rfl wb_nil an_nil rfl) ?_
  conv => whnf
  replace h := oreq.elim h; have hb := h.1; replace h := h.2
  first | (refine req.intro hb ?_; conv => whnf) | skip
  replace h := oreq.elim h; have hb := h.1; replace h := h.2
  first | (refine req.intro hb ?_; conv => whnf) | skip
  obtain ⟨xo, hy, h2⟩ := obind.elim h; clear h; have h := h2; clear h2
  refine sumK.introF [] (sumRun_of (aqs := [.string ⟨⟨p ++ (l ++ payload)⟩⟩]) (ws := []) (n := 0) (m := 0) (t' := 3) (ra_cons rfl rfl ra_nil) rfl (by rfl) (r64_eq hy) rfl rfl rfl rfl wb_nil an_nil rfl) ?_
  conv => whnf
  obtain ⟨s, hy, h2⟩ := obind.elim h; clear h; have h := h2; clear h2
  refine sumK.introF [] (sumRun_of (aqs := [.string ⟨⟨l ++ payload⟩⟩, .int .i64 16, .int .i64 2, .int .u64 (wI .u64 xo)]) (ws := []) (n := 0) (m := 0) (t' := 3) (ra_cons rfl rfl (ra_cons rfl rfl (ra_cons rfl rfl (ra_cons rfl rfl ra_nil)))) rfl (by rfl) (r65_eq hy) rfl rfl rfl rfl wb_nil an_nil rfl) ?_
  conv => whnf
  all_goals (cases h)
  all_goals exact Res.of [] rfl nw_0 (by decide) js_0 wr_0
theorem ok48 (check_Of : (List UInt8) → Option Int) (check_Set : (List UInt8) → Int → Int → Int → Option (List UInt8)) (ipfour_Pseudo : api_Addr → api_Addr → Int → Int → Option (List UInt8)) (tcp_Head_laid : tcp_Head → Option (List UInt8)) (tcp_Head_may : tcp_Head → Option Bool) (hS : SumsOK Try.prog (aget (sums48 check_Of check_Set ipfour_Pseudo tcp_Head_laid tcp_Head_may))) : SumOK Try.prog 48 (s48 (tcp_PutF check_Of check_Set ipfour_Pseudo tcp_Head_laid tcp_Head_may)) := by
  refine SumOK.of_leads tab_ok (fun ar os r ha hr => ?_) ⟨Try.f48, rfl, by decide, rfl⟩
  replace hr : r48 (tcp_PutF check_Of check_Set ipfour_Pseudo tcp_Head_laid tcp_Head_may) ar (conts os) = some r := hr
  unfold r48 at hr
  generalize hc : conts os = C at hr
  have hq := dV.elim hr; clear hr; obtain ⟨v0, l1, y0, rfl, e0, hr⟩ := hq; obtain rfl := uvtcp_Head_eq _ _ e0
  have hq := dV.elim hr; clear hr; obtain ⟨v1, l2, y1, rfl, e1, hr⟩ := hq; obtain rfl := uvapi_Addr_eq _ _ e1
  have hq := dV.elim hr; clear hr; obtain ⟨v2, l3, y2, rfl, e2, hr⟩ := hq; obtain rfl := uvapi_Addr_eq _ _ e2
  have hq := dV.elim hr; clear hr; obtain ⟨v3, l4, y3, rfl, e3, hr⟩ := hq; obtain rfl := asS_eq _ _ e3
  have hq := dEnd.elim hr; clear hr; obtain ⟨rfl, rfl, hr⟩ := hq
  have hq := ofG.elim hr; clear hr; obtain ⟨x, h, rfl⟩ := hq
  obtain rfl := kinds_nil hc
  exact ⟨_, rfl, leads48 check_Of check_Set ipfour_Pseudo tcp_Head_laid tcp_Head_may hS _ _ _ _ x h⟩
def tcp_Put : tcp_Head → api_Addr → api_Addr → (List UInt8) → Option ((List UInt8) × Int) := tcp_PutF check_Of check_Set ipfour_Pseudo tcp_Head_laid tcp_Head_may
theorem lift48 : SumOK Try.prog 48 (s48 tcp_Put) := ok48 check_Of check_Set ipfour_Pseudo tcp_Head_laid tcp_Head_may (SumsOK.of_tab ⟨lift64, lift65, lift27, lift107, lift106, trivial⟩)
end Go.Vm.Code

namespace Go.Vm.Code
open Go Go.Vm Go.Proofs
set_option maxRecDepth 100000
set_option maxHeartbeats 4000000
set_option linter.unusedVariables false

/-! cloakroom/tcp.parsed -/
def tcp_parsedF (octet_New : (List UInt8) → Option octet_Reader) (octet_Reader_Num : octet_Reader → Int → Option (Int × octet_Reader)) (octet_Reader_Text : octet_Reader → Int → Option ((List UInt8) × octet_Reader)) (s : List UInt8) (size : Int) : Option tcp_Head :=
  (octet_New s).bind fun n =>
  (octet_Reader_Num n 2).bind fun n1 =>
  (octet_Reader_Num n1.2 2).bind fun n2 =>
  (octet_Reader_Num n2.2 4).bind fun n3 =>
  (octet_Reader_Num n3.2 4).bind fun n4 =>
  (octet_Reader_Num n4.2 2).bind fun n5 =>
  (octet_Reader_Num n5.2 2).bind fun n6 =>
  (octet_Reader_Num n6.2 2).bind fun n7 =>
  (octet_Reader_Num n7.2 2).bind fun n8 =>
  (octet_Reader_Text n8.2 (wI .i64 (size - 20))).bind fun t =>
  some (tcp_Head.mk n1.1 n2.1 (wI .u32 n3.1) (wI .u32 n4.1) (andI .i64 n5.1 255) n6.1 n8.1 t.1)
def rx110 (x : tcp_Head) : SRes := ⟨.agg ⟨[.int .i64 x.SPort, .int .i64 x.DPort, .int .u32 x.Seq, .int .u32 x.Ack, .int .i64 x.Flags, .int .i64 x.Window, .int .i64 x.Urgent, .string ⟨⟨x.Options⟩⟩]⟩, [], []⟩
def r110 (g : (List UInt8) → Int → Option tcp_Head) : Dec := dV asS fun (y0 : List UInt8) => dV (asI .i64) fun (y1 : Int) => dEnd (ofG (g y0 y1) rx110)
theorem r110_c {g : (List UInt8) → Int → Option tcp_Head} {y0 : List UInt8} {y1 : Int} {x : tcp_Head} (hx : g y0 y1 = some x) : r110 g [.string ⟨⟨y0⟩⟩, .int .i64 y1] [] = some (rx110 x) := (dV_eq (asS_c)).trans ((dV_eq (asI_c _)).trans (ofG_eq hx))
def s110 (g : (List UInt8) → Int → Option tcp_Head) : Summ := ⟨[.v, .v], r110 g⟩
theorem r110_eq {g : (List UInt8) → Int → Option tcp_Head} {y0 : List UInt8} {y1 : Int} {x : tcp_Head} (hx : g y0 y1 = some x) : (s110 g).run [.string ⟨⟨y0⟩⟩, .int .i64 y1] [] = some (rx110 x) := r110_c hx
abbrev sums110 (octet_New : (List UInt8) → Option octet_Reader) (octet_Reader_Num : octet_Reader → Int → Option (Int × octet_Reader)) (octet_Reader_Text : octet_Reader → Int → Option ((List UInt8) × octet_Reader)) : List (Nat × Summ) := [(70, s70 octet_New), (71, s71 octet_Reader_Num), (83, s83 octet_Reader_Text)]
theorem leads110 (octet_New : (List UInt8) → Option octet_Reader) (octet_Reader_Num : octet_Reader → Int → Option (Int × octet_Reader)) (octet_Reader_Text : octet_Reader → Int → Option ((List UInt8) × octet_Reader)) (hS : SumsOK Try.prog (aget (sums110 octet_New octet_Reader_Num octet_Reader_Text))) (s : List UInt8) (size : Int) (res : tcp_Head) (h : tcp_parsedF octet_New octet_Reader_Num octet_Reader_Text s size = some res) :
    Leads Try.prog 110 0 ⟨⟨110, 38, [(0, .string ⟨⟨s⟩⟩), (1, .int .i64 size)], [.code k110_17], [], false, none⟩, [], [], 0⟩ (fun v H _ => Res 0 (rx110 res) v H) := by
  unfold tcp_parsedF at h
  refine ev_ok tab_ok hS true 3000 ?_
  conv => whnf
  obtain ⟨n, hy, h2⟩ := obind.elim h; clear h; have h := h2; clear h2
  refine sumK.introF [1] (sumRun_of (aqs := [.string ⟨⟨s⟩⟩]) (ws := []) (n := 1) (m := 0) (t' := 2) (ra_cons rfl rfl ra_nil) rfl (by rfl) (r70_eq hy) rfl rfl rfl rfl wb_nil (an_cons (rfl) an_nil) rfl) ?_
  conv => whnf
  obtain ⟨n1, hy, h2⟩ := obind.elim h; clear h; have h := h2; clear h2
  refine sumK.introF [1] (sumRun_of (aqs := [.pointer (some ⟨0, 0, none⟩), .int .i64 2]) (ws := [.win 1 0 3 true]) (n := 0) (m := 0) (t' := 2) (ra_cons rfl rfl (ra_cons rfl rfl ra_nil)) rfl (by rfl) (r71_eq hy) rfl rfl rfl rfl (wb_win rfl rfl rfl ⟨rfl, Nat.le_of_ble_eq_true rfl⟩ rfl rfl wb_nil) an_nil rfl) ?_
  conv => whnf
  obtain ⟨n2, hy, h2⟩ := obind.elim h; clear h; have h := h2; clear h2
  refine sumK.introF [1] (sumRun_of (aqs := [.pointer (some ⟨0, 0, none⟩), .int .i64 2]) (ws := [.win 1 0 3 true]) (n := 0) (m := 0) (t' := 2) (ra_cons rfl rfl (ra_cons rfl rfl ra_nil)) rfl (by rfl) (r71_eq hy) rfl rfl rfl rfl (wb_win rfl rfl rfl ⟨rfl, Nat.le_of_ble_eq_true rfl⟩ rfl rfl wb_nil) an_nil rfl) ?_
  conv => whnf
  obtain ⟨n3, hy, h2⟩ := obind.elim h; clear h; have h := h2; clear h2
  refine sumK.introF [1] (sumRun_of (aqs := [.pointer (some ⟨0, 0, none⟩), .int .i64 4]) (ws := [.win 1 0 3 true]) (n := 0) (m := 0) (t' := 2) (ra_cons rfl rfl (ra_cons rfl rfl ra_nil)) rfl (by rfl) (r71_eq hy) rfl rfl rfl rfl (wb_win rfl rfl rfl ⟨rfl, Nat.le_of_ble_eq_true rfl⟩ rfl rfl wb_nil) an_nil rfl) ?_
  conv => whnf
  obtain ⟨n4, hy, h2⟩ := obind.elim h; clear h; have h := h2; clear h2
  refine sumK.introF [1] (sumRun_of (aqs := [.pointer (some ⟨0, 0, none⟩), .int .i64 4]) (ws := [.win 1 0 3 true]) (n := 0) (m := 0) (t' := 2) (ra_cons rfl rfl (ra_cons rfl rfl ra_nil)) rfl (by rfl) (r71_eq hy) rfl rfl rfl rfl (wb_win rfl rfl rfl ⟨rfl, Nat.le_of_ble_eq_true rfl⟩ rfl rfl wb_nil) an_nil rfl) ?_
  conv => whnf
  obtain ⟨n5, hy, h2⟩ := obind.elim h; clear h; have h := h2; clear h2
  refine sumK.introF [1] (sumRun_of (aqs := [.pointer (some ⟨0, 0, none⟩), .int .i64 2]) (ws := [.win 1 0 3 true]) (n := 0) (m := 0) (t' := 3) (ra_cons rfl rfl (ra_cons rfl rfl ra_nil)) rfl (by rfl) (r71_eq hy) rfl rfl rfl rfl (wb_win rfl rfl rfl ⟨rfl, Nat.le_of_ble_eq_true rfl⟩ rfl rfl wb_nil) an_nil rfl) ?_
  conv => whnf
  obtain ⟨n6, hy, h2⟩ := obind.elim h; clear h; have h := h2; clear h2
  refine sumK.introF [1] (sumRun_of (aqs := [.pointer (some ⟨0, 0, none⟩), .int .i64 2]) (ws := [.win 1 0 3 true]) (n := 0) (m := 0) (t' := 3) (ra_cons rfl rfl (ra_cons rfl rfl ra_nil)) rfl (by rfl) (r71_eq hy) rfl rfl rfl rfl (wb_win rfl rfl rfl ⟨rfl, Nat.le_of_ble_eq_true rfl⟩ rfl rfl wb_nil) an_nil rfl) ?_
  conv => whnf
  obtain ⟨n7, hy, h2⟩ := obind.elim h; clear h; have h := h2; clear h2
  refine sumK.introF [1] (sumRun_of (aqs := [.pointer (some ⟨0, 0, none⟩), .int .i64 2]) (ws := [.win 1 0 3 true]) (n := 0) (m := 0) (t' := 3) (ra_cons rfl rfl (ra_cons rfl rfl ra_nil)) rfl (by rfl) (r71_eq hy) rfl rfl rfl rfl (wb_win rfl rfl rfl ⟨rfl, Nat.le_of_ble_eq_true rfl⟩ rfl rfl wb_nil) an_nil rfl) ?_
  conv => whnf
  obtain ⟨n8, hy, h2⟩ := obind.elim h; clear h; have h := h2; clear h2
  refine sumK.introF [1] (sumRun_of (aqs := [.pointer (some ⟨0, 0, none⟩), .int .i64 2]) (ws := [.win 1 0 3 true]) (n := 0) (m := 0) (t' := 3) (ra_cons rfl rfl (ra_cons rfl rfl ra_nil)) rfl (by rfl) (r71_eq hy) rfl rfl rfl rfl (wb_win rfl rfl rfl ⟨rfl, Nat.le_of_ble_eq_true rfl⟩ rfl rfl wb_nil) an_nil rfl) ?_
  conv => whnf
  obtain ⟨t, hy, h2⟩ := obind.elim h; clear h; have h := h2; clear h2
  refine sumK.introF [1] (sumRun_of (aqs := [.pointer (some ⟨0, 0, none⟩), .int .i64 (wI .i64 (size - 20))]) (ws := [.win 1 0 3 true]) (n := 0) (m := 0) (t' := 3) (ra_cons rfl rfl (ra_cons rfl rfl ra_nil)) rfl (by rfl) (r83_eq hy) rfl rfl rfl rfl (wb_win rfl rfl rfl ⟨rfl, Nat.le_of_ble_eq_true rfl⟩ rfl rfl wb_nil) an_nil rfl) ?_
  conv => whnf
  all_goals (cases h)
  all_goals exact Res.of [] rfl nw_0 (by decide) js_0 wr_0
theorem ok110 (octet_New : (List UInt8) → Option octet_Reader) (octet_Reader_Num : octet_Reader → Int → Option (Int × octet_Reader)) (octet_Reader_Text : octet_Reader → Int → Option ((List UInt8) × octet_Reader)) (hS : SumsOK Try.prog (aget (sums110 octet_New octet_Reader_Num octet_Reader_Text))) : SumOK Try.prog 110 (s110 (tcp_parsedF octet_New octet_Reader_Num octet_Reader_Text)) := by
  refine SumOK.of_leads tab_ok (fun ar os r ha hr => ?_) ⟨Try.f110, rfl, by decide, rfl⟩
  replace hr : r110 (tcp_parsedF octet_New octet_Reader_Num octet_Reader_Text) ar (conts os) = some r := hr
  unfold r110 at hr
  generalize hc : conts os = C at hr
  have hq := dV.elim hr; clear hr; obtain ⟨v0, l1, y0, rfl, e0, hr⟩ := hq; obtain rfl := asS_eq _ _ e0
  have hq := dV.elim hr; clear hr; obtain ⟨v1, l2, y1, rfl, e1, hr⟩ := hq; obtain rfl := asI_eq _ _ _ e1
  have hq := dEnd.elim hr; clear hr; obtain ⟨rfl, rfl, hr⟩ := hq
  have hq := ofG.elim hr; clear hr; obtain ⟨x, h, rfl⟩ := hq
  obtain rfl := kinds_nil hc
  exact ⟨_, rfl, leads110 octet_New octet_Reader_Num octet_Reader_Text hS _ _ x h⟩
def tcp_parsed : (List UInt8) → Int → Option tcp_Head := tcp_parsedF octet_New octet_Reader_Num octet_Reader_Text
theorem lift110 : SumOK Try.prog 110 (s110 tcp_parsed) := ok110 octet_New octet_Reader_Num octet_Reader_Text (SumsOK.of_tab ⟨lift70, lift71, lift83, trivial⟩)
end Go.Vm.Code

namespace Go.Vm.Code
open Go Go.Vm Go.Proofs
set_option maxRecDepth 100000
set_option maxHeartbeats 4000000
set_option linter.unusedVariables false

/-! cloakroom/tcp.Get -/
def tcp_GetF (check_Right : (List UInt8) → Option Bool) (ipfour_Pseudo : api_Addr → api_Addr → Int → Int → Option (List UInt8)) (tcp_List : (List UInt8) → Option ((List tcp_Opt) × Int)) (tcp_parsed : (List UInt8) → Int → Option tcp_Head) (s : List UInt8) (src : api_Addr) (dst : api_Addr) : Option (tcp_Head × (List UInt8) × Int) :=
  cond (decide ((s.length : Int) < 20))
    (
    some ((tcp_Head.mk 0 0 0 0 0 0 0 [], [], 2)))
    (
    (s[12]?).bind fun (b : UInt8) =>
    (s[12]?).bind fun (b1 : UInt8) =>
    let t := wI .i64 (4 * (wI .i64 ((b.toNat : Int).fdiv (2 ^ 4))))
    cond (decide (t < 20))
      (
      some ((tcp_Head.mk 0 0 0 0 0 0 0 [], [], 3)))
      (
      cond ((andI .u8 (b1.toNat : Int) 15) != 0)
        (
        some ((tcp_Head.mk 0 0 0 0 0 0 0 [], [], 3)))
        (
        cond (decide (t > (s.length : Int)))
          (
          some ((tcp_Head.mk 0 0 0 0 0 0 0 [], [], 2)))
          (
          (ipfour_Pseudo src dst 6 (s.length : Int)).bind fun p =>
          cond (p == [])
            (
            some ((tcp_Head.mk 0 0 0 0 0 0 0 [], [], 1)))
            (
            oreq (decide (p.length + s.length < 2 ^ 63)) <|
            (check_Right (p ++ s)).bind fun xr =>
            cond (!xr)
              (
              some ((tcp_Head.mk 0 0 0 0 0 0 0 [], [], 4)))
              (
              (tcp_parsed s t).bind fun p1 =>
              (tcp_List p1.Options).bind fun l =>
              cond (l.2 != 0)
                (
                some ((tcp_Head.mk 0 0 0 0 0 0 0 [], [], l.2)))
                (
                oreq (decide ((0 : Int) ≤ t ∧ t ≤ (s.length : Int))) <|
                let t1 := (s.drop t.toNat).take (s.length - t.toNat)
                some ((p1, t1, 0)))))))))
def rx51 (x : tcp_Head × (List UInt8) × Int) : SRes := ⟨.tuple ⟨[.agg ⟨[.int .i64 x.1.SPort, .int .i64 x.1.DPort, .int .u32 x.1.Seq, .int .u32 x.1.Ack, .int .i64 x.1.Flags, .int .i64 x.1.Window, .int .i64 x.1.Urgent, .string ⟨⟨x.1.Options⟩⟩]⟩, .string ⟨⟨x.2.1⟩⟩, .int .i64 x.2.2]⟩, [], []⟩
def r51 (g : (List UInt8) → api_Addr → api_Addr → Option (tcp_Head × (List UInt8) × Int)) : Dec := dV asS fun (y0 : List UInt8) => dV uvapi_Addr fun (y1 : api_Addr) => dV uvapi_Addr fun (y2 : api_Addr) => dEnd (ofG (g y0 y1 y2) rx51)
theorem r51_c {g : (List UInt8) → api_Addr → api_Addr → Option (tcp_Head × (List UInt8) × Int)} {y0 : List UInt8} {y1 : api_Addr} {y2 : api_Addr} {x : tcp_Head × (List UInt8) × Int} (hx : g y0 y1 y2 = some x) : r51 g [.string ⟨⟨y0⟩⟩, .agg ⟨[.bool y1.V6, .int .u64 y1.Hi, .int .u64 y1.Lo]⟩, .agg ⟨[.bool y2.V6, .int .u64 y2.Hi, .int .u64 y2.Lo]⟩] [] = some (rx51 x) := (dV_eq (asS_c)).trans ((dV_eq (uvapi_Addr_c _)).trans ((dV_eq (uvapi_Addr_c _)).trans (ofG_eq hx)))
def s51 (g : (List UInt8) → api_Addr → api_Addr → Option (tcp_Head × (List UInt8) × Int)) : Summ := ⟨[.v, .v, .v], r51 g⟩
theorem r51_eq {g : (List UInt8) → api_Addr → api_Addr → Option (tcp_Head × (List UInt8) × Int)} {y0 : List UInt8} {y1 : api_Addr} {y2 : api_Addr} {x : tcp_Head × (List UInt8) × Int} (hx : g y0 y1 y2 = some x) : (s51 g).run [.string ⟨⟨y0⟩⟩, .agg ⟨[.bool y1.V6, .int .u64 y1.Hi, .int .u64 y1.Lo]⟩, .agg ⟨[.bool y2.V6, .int .u64 y2.Hi, .int .u64 y2.Lo]⟩] [] = some (rx51 x) := r51_c hx
abbrev sums51 (check_Right : (List UInt8) → Option Bool) (ipfour_Pseudo : api_Addr → api_Addr → Int → Int → Option (List UInt8)) (tcp_List : (List UInt8) → Option ((List tcp_Opt) × Int)) (tcp_parsed : (List UInt8) → Int → Option tcp_Head) : List (Nat × Summ) := [(73, s73 check_Right), (27, s27 ipfour_Pseudo), (54, s54 tcp_List), (110, s110 tcp_parsed)]
theorem leads51 (check_Right : (List UInt8) → Option Bool) (ipfour_Pseudo : api_Addr → api_Addr → Int → Int → Option (List UInt8)) (tcp_List : (List UInt8) → Option ((List tcp_Opt) × Int)) (tcp_parsed : (List UInt8) → Int → Option tcp_Head) (hS : SumsOK Try.prog (aget (sums51 check_Right ipfour_Pseudo tcp_List tcp_parsed))) (s : List UInt8) (src : api_Addr) (dst : api_Addr) (res : tcp_Head × (List UInt8) × Int) (h : tcp_GetF check_Right ipfour_Pseudo tcp_List tcp_parsed s src dst = some res) :
    Leads Try.prog 51 0 ⟨⟨51, 76, [(0, .string ⟨⟨s⟩⟩), (1, .agg ⟨[.bool src.V6, .int .u64 src.Hi, .int .u64 src.Lo]⟩), (2, .agg ⟨[.bool dst.V6, .int .u64 dst.Hi, .int .u64 dst.Lo]⟩)], [.code k51_49], [], false, none⟩, [], [], 0⟩ (fun v H _ => Res 0 (rx51 res) v H) := by
  unfold tcp_GetF at h
  refine ev_ok tab_ok hS true 3000 ?_
  conv => whnf
  refine br.h h ?_ ?_ ?_
  · rfl
  · clear h; intro hb h; conv => whnf
    all_goals (cases h)
    all_goals exact Res.of [] rfl nw_0 (by decide) js_0 wr_0
  clear h; intro hb h; conv => whnf
  obtain ⟨b, hy, h2⟩ := obind.elim h; clear h; have h := h2; clear h2
  refine rdS.intro hy ?_
  conv => whnf
  obtain ⟨b1, hy, h2⟩ := obind.elim h; clear h; have h := h2; clear h2
  refine rdS.intro hy ?_
  conv => whnf
  let t : Int := wI .i64 (4 * (wI .i64 ((b.toNat : Int).fdiv (2 ^ 4))))
  refine br.h h ?_ ?_ ?_
  · rfl
  · clear h; intro hb h; conv => whnf
    all_goals (cases h)
    all_goals exact Res.of [] rfl nw_0 (by decide) js_0 wr_0
  clear h; intro hb h; conv => whnf
  refine br.h h ?_ ?_ ?_
  · rfl
  · clear h; intro hb h; conv => whnf
    all_goals (cases h)
    all_goals exact Res.of [] rfl nw_0 (by decide) js_0 wr_0
  clear h; intro hb h; conv => whnf
  refine br.h h ?_ ?_ ?_
  · rfl
  · clear h; intro hb h; conv => whnf
    all_goals (cases h)
    all_goals exact Res.of [] rfl nw_0 (by decide) js_0 wr_0
  clear h; intro hb h; conv => whnf
  obtain ⟨p, hy, h2⟩ := obind.elim h; clear h; have h := h2; clear h2
  refine sumK.introF [] (sumRun_of (aqs := [.agg ⟨[.bool src.V6, .int .u64 src.Hi, .int .u64 src.Lo]⟩, .agg ⟨[.bool dst.V6, .int .u64 dst.Hi, .int .u64 dst.Lo]⟩, .int .i64 6, .int .i64 (s.length : Int)]) (ws := []) (n := 0) (m := 0) (t' := 11) (ra_cons rfl rfl (ra_cons rfl rfl (ra_cons rfl rfl (ra_cons rfl rfl ra_nil)))) rfl (by rfl) (r27_eq hy) rfl rfl rfl rfl wb_nil an_nil rfl) ?_
  conv => whnf
  refine br.h h ?_ ?_ ?_
  · rfl
  · clear h; intro hb h; conv => whnf
    all_goals (cases h)
    all_goals exact Res.of [] rfl nw_0 (by decide) js_0 wr_0
  clear h; intro hb h; conv => whnf
  replace h := oreq.elim h; have hb := h.1; replace h := h.2
  first | (refine req.intro hb ?_; conv => whnf) | skip
  obtain ⟨xr, hy, h2⟩ := obind.elim h; clear h; have h := h2; clear h2
  refine sumK.introF [] (sumRun_of (aqs := [.string ⟨⟨p ++ s⟩⟩]) (ws := []) (n := 0) (m := 0) (t' := 11) (ra_cons rfl rfl ra_nil) rfl (by rfl) (r73_eq hy) rfl rfl rfl rfl wb_nil an_nil rfl) ?_
  conv => whnf
  refine br.h h ?_ ?_ ?_
  · rfl
  · clear h; intro hb h; conv => whnf
    all_goals (cases h)
    all_goals exact Res.of [] rfl nw_0 (by decide) js_0 wr_0
  clear h; intro hb h; conv => whnf
  obtain ⟨p1, hy, h2⟩ := obind.elim h; clear h; have h := h2; clear h2
  refine sumK.introF [] (sumRun_of (aqs := [.string ⟨⟨s⟩⟩, .int .i64 t]) (ws := []) (n := 0) (m := 0) (t' := 11) (ra_cons rfl rfl (ra_cons rfl rfl ra_nil)) rfl (by rfl) (r110_eq hy) rfl rfl rfl rfl wb_nil an_nil rfl) ?_
  conv => whnf
  obtain ⟨l, hy, h2⟩ := obind.elim h; clear h; have h := h2; clear h2
  refine sumK.introF [] (sumRun_of (aqs := [.string ⟨⟨p1.Options⟩⟩]) (ws := []) (n := 1) (m := 0) (t' := 13) (ra_cons rfl rfl ra_nil) rfl (by rfl) (r54_eq hy) rfl rfl rfl rfl wb_nil (an_cons (rn_T ctcp_Opt_flat) an_nil) rfl) ?_
  conv => whnf
  refine br.h h ?_ ?_ ?_
  · rfl
  · clear h; intro hb h; conv => whnf
    all_goals (cases h)
    all_goals exact Res.of [] rfl nw_0 (by decide) js_0 wr_0
  clear h; intro hb h; conv => whnf
  replace h := oreq.elim h; have hb := h.1; replace h := h.2
  first | (refine req.intro hb ?_; conv => whnf) | skip
  let t1 : List UInt8 := (s.drop t.toNat).take (s.length - t.toNat)
  all_goals (cases h)
  all_goals exact Res.of [] rfl nw_0 (by decide) js_0 wr_0
theorem ok51 (check_Right : (List UInt8) → Option Bool) (ipfour_Pseudo : api_Addr → api_Addr → Int → Int → Option (List UInt8)) (tcp_List : (List UInt8) → Option ((List tcp_Opt) × Int)) (tcp_parsed : (List UInt8) → Int → Option tcp_Head) (hS : SumsOK Try.prog (aget (sums51 check_Right ipfour_Pseudo tcp_List tcp_parsed))) : SumOK Try.prog 51 (s51 (tcp_GetF check_Right ipfour_Pseudo tcp_List tcp_parsed)) := by
  refine SumOK.of_leads tab_ok (fun ar os r ha hr => ?_) ⟨Try.f51, rfl, by decide, rfl⟩
  replace hr : r51 (tcp_GetF check_Right ipfour_Pseudo tcp_List tcp_parsed) ar (conts os) = some r := hr
  unfold r51 at hr
  generalize hc : conts os = C at hr
  have hq := dV.elim hr; clear hr; obtain ⟨v0, l1, y0, rfl, e0, hr⟩ := hq; obtain rfl := asS_eq _ _ e0
  have hq := dV.elim hr; clear hr; obtain ⟨v1, l2, y1, rfl, e1, hr⟩ := hq; obtain rfl := uvapi_Addr_eq _ _ e1
  have hq := dV.elim hr; clear hr; obtain ⟨v2, l3, y2, rfl, e2, hr⟩ := hq; obtain rfl := uvapi_Addr_eq _ _ e2
  have hq := dEnd.elim hr; clear hr; obtain ⟨rfl, rfl, hr⟩ := hq
  have hq := ofG.elim hr; clear hr; obtain ⟨x, h, rfl⟩ := hq
  obtain rfl := kinds_nil hc
  exact ⟨_, rfl, leads51 check_Right ipfour_Pseudo tcp_List tcp_parsed hS _ _ _ x h⟩
def tcp_Get : (List UInt8) → api_Addr → api_Addr → Option (tcp_Head × (List UInt8) × Int) := tcp_GetF check_Right ipfour_Pseudo tcp_List tcp_parsed
theorem lift51 : SumOK Try.prog 51 (s51 tcp_Get) := ok51 check_Right ipfour_Pseudo tcp_List tcp_parsed (SumsOK.of_tab ⟨lift73, lift27, lift54, lift110, trivial⟩)
end Go.Vm.Code

namespace Go.Vm.Code
open Go Go.Vm Go.Proofs
set_option maxRecDepth 100000
set_option maxHeartbeats 4000000
set_option linter.unusedVariables false

/-! cloakroom/cloakroomlaw07.awake -/
def law07_awakeF (tcp_Get : (List UInt8) → api_Addr → api_Addr → Option (tcp_Head × (List UInt8) × Int)) (tcp_List : (List UInt8) → Option ((List tcp_Opt) × Int)) (tcp_Put : tcp_Head → api_Addr → api_Addr → (List UInt8) → Option ((List UInt8) × Int)) (tcp_Stamp : (List UInt8) → Option (Int × Int × Int)) (tcp_Stamped : Int → Int → Option (List UInt8)) : Option Bool :=
  (tcp_Stamped 5 6).bind fun s =>
  (tcp_Stamp s).bind fun s1 =>
  (tcp_Put (tcp_Head.mk 1 2 0 0 0 0 0 []) (api_Addr.mk false 0 1) (api_Addr.mk false 0 2) [97]).bind fun p =>
  (tcp_Get p.1 (api_Addr.mk false 0 1) (api_Addr.mk false 0 2)).bind fun xg =>
  (tcp_List [5]).bind fun l =>
  cond (s1.1 == 5)
    (
    cond (s1.2.1 == 6)
      (
      cond (s1.2.2 == 4)
        (
        cond (p.2 == 0)
          (
          cond ((p.1.length : Int) == 21)
            (
            cond (xg.2.2 == 0)
              (
              cond (xg.2.1 == [97])
                (
                some (l.2 == 3))
                (
                some (false)))
              (
              some (false)))
            (
            some (false)))
          (
          some (false)))
        (
        some (false)))
      (
      some (false)))
    (
    some (false))
def rx47 (x : Bool) : SRes := ⟨.bool x, [], []⟩
def r47 (g : Option Bool) : Dec := dEnd (ofG (g) rx47)
theorem r47_c {g : Option Bool} {x : Bool} (hx : g = some x) : r47 g [] [] = some (rx47 x) := ofG_eq hx
def s47 (g : Option Bool) : Summ := ⟨[], r47 g⟩
theorem r47_eq {g : Option Bool} {x : Bool} (hx : g = some x) : (s47 g).run [] [] = some (rx47 x) := r47_c hx
abbrev sums47 (tcp_Get : (List UInt8) → api_Addr → api_Addr → Option (tcp_Head × (List UInt8) × Int)) (tcp_List : (List UInt8) → Option ((List tcp_Opt) × Int)) (tcp_Put : tcp_Head → api_Addr → api_Addr → (List UInt8) → Option ((List UInt8) × Int)) (tcp_Stamp : (List UInt8) → Option (Int × Int × Int)) (tcp_Stamped : Int → Int → Option (List UInt8)) : List (Nat × Summ) := [(51, s51 tcp_Get), (54, s54 tcp_List), (48, s48 tcp_Put), (56, s56 tcp_Stamp), (58, s58 tcp_Stamped)]
theorem leads47 (tcp_Get : (List UInt8) → api_Addr → api_Addr → Option (tcp_Head × (List UInt8) × Int)) (tcp_List : (List UInt8) → Option ((List tcp_Opt) × Int)) (tcp_Put : tcp_Head → api_Addr → api_Addr → (List UInt8) → Option ((List UInt8) × Int)) (tcp_Stamp : (List UInt8) → Option (Int × Int × Int)) (tcp_Stamped : Int → Int → Option (List UInt8)) (hS : SumsOK Try.prog (aget (sums47 tcp_Get tcp_List tcp_Put tcp_Stamp tcp_Stamped))) (res : Bool) (h : law07_awakeF tcp_Get tcp_List tcp_Put tcp_Stamp tcp_Stamped = some res) :
    Leads Try.prog 47 0 ⟨⟨47, 67, [], [.code k47_11], [], false, none⟩, [], [], 0⟩ (fun v H _ => Res 0 (rx47 res) v H) := by
  unfold law07_awakeF at h
  refine ev_ok tab_ok hS true 3000 ?_
  conv => whnf
  obtain ⟨s, hy, h2⟩ := obind.elim h; clear h; have h := h2; clear h2
  refine sumK.introF [] (sumRun_of (aqs := [.int .u32 5, .int .u32 6]) (ws := []) (n := 0) (m := 0) (t' := 0) (ra_cons rfl rfl (ra_cons rfl rfl ra_nil)) rfl (by rfl) (r58_eq hy) rfl rfl rfl rfl wb_nil an_nil rfl) ?_
  conv => whnf
  obtain ⟨s1, hy, h2⟩ := obind.elim h; clear h; have h := h2; clear h2
  refine sumK.introF [] (sumRun_of (aqs := [.string ⟨⟨s⟩⟩]) (ws := []) (n := 0) (m := 0) (t' := 0) (ra_cons rfl rfl ra_nil) rfl (by rfl) (r56_eq hy) rfl rfl rfl rfl wb_nil an_nil rfl) ?_
  conv => whnf
  obtain ⟨p, hy, h2⟩ := obind.elim h; clear h; have h := h2; clear h2
  refine sumK.introF [] (sumRun_of (aqs := [.agg ⟨[.int .i64 1, .int .i64 2, .int .u32 0, .int .u32 0, .int .i64 0, .int .i64 0, .int .i64 0, .string ⟨⟨[]⟩⟩]⟩, .agg ⟨[.bool false, .int .u64 0, .int .u64 1]⟩, .agg ⟨[.bool false, .int .u64 0, .int .u64 2]⟩, .string ⟨⟨[97]⟩⟩]) (ws := []) (n := 0) (m := 0) (t' := 0) (ra_cons rfl rfl (ra_cons rfl rfl (ra_cons rfl rfl (ra_cons rfl rfl ra_nil)))) rfl (by rfl) (r48_eq hy) rfl rfl rfl rfl wb_nil an_nil rfl) ?_
  conv => whnf
  obtain ⟨xg, hy, h2⟩ := obind.elim h; clear h; have h := h2; clear h2
  refine sumK.introF [] (sumRun_of (aqs := [.string ⟨⟨p.1⟩⟩, .agg ⟨[.bool false, .int .u64 0, .int .u64 1]⟩, .agg ⟨[.bool false, .int .u64 0, .int .u64 2]⟩]) (ws := []) (n := 0) (m := 0) (t' := 0) (ra_cons rfl rfl (ra_cons rfl rfl (ra_cons rfl rfl ra_nil))) rfl (by rfl) (r51_eq hy) rfl rfl rfl rfl wb_nil an_nil rfl) ?_
  conv => whnf
  obtain ⟨l, hy, h2⟩ := obind.elim h; clear h; have h := h2; clear h2
  refine sumK.introF [] (sumRun_of (aqs := [.string ⟨⟨[5]⟩⟩]) (ws := []) (n := 1) (m := 0) (t' := 2) (ra_cons rfl rfl ra_nil) rfl (by rfl) (r54_eq hy) rfl rfl rfl rfl wb_nil (an_cons (rn_T ctcp_Opt_flat) an_nil) rfl) ?_
  conv => whnf
  refine br.h2 h ?_ ?_ ?_
  · rfl
  · clear h; intro hb h; conv => whnf
    all_goals (cases h)
    all_goals exact Res.of [] rfl nw_0 (by decide) js_0 wr_0
  clear h; intro hb h; conv => whnf
  refine br.h2 h ?_ ?_ ?_
  · rfl
  · clear h; intro hb h; conv => whnf
    all_goals (cases h)
    all_goals exact Res.of [] rfl nw_0 (by decide) js_0 wr_0
  clear h; intro hb h; conv => whnf
  refine br.h2 h ?_ ?_ ?_
  · rfl
  · clear h; intro hb h; conv => whnf
    all_goals (cases h)
    all_goals exact Res.of [] rfl nw_0 (by decide) js_0 wr_0
  clear h; intro hb h; conv => whnf
  refine br.h2 h ?_ ?_ ?_
  · rfl
  · clear h; intro hb h; conv => whnf
    all_goals (cases h)
    all_goals exact Res.of [] rfl nw_0 (by decide) js_0 wr_0
  clear h; intro hb h; conv => whnf
  refine br.h2 h ?_ ?_ ?_
  · rfl
  · clear h; intro hb h; conv => whnf
    all_goals (cases h)
    all_goals exact Res.of [] rfl nw_0 (by decide) js_0 wr_0
  clear h; intro hb h; conv => whnf
  refine br.h2 h ?_ ?_ ?_
  · rfl
  · clear h; intro hb h; conv => whnf
    all_goals (cases h)
    all_goals exact Res.of [] rfl nw_0 (by decide) js_0 wr_0
  clear h; intro hb h; conv => whnf
  refine br.h h ?_ ?_ ?_
  · rfl
  · clear h; intro hb h; conv => whnf
    all_goals (cases h)
    all_goals exact Res.of [] rfl nw_0 (by decide) js_0 wr_0
  clear h; intro hb h; conv => whnf
  all_goals (cases h)
  all_goals exact Res.of [] rfl nw_0 (by decide) js_0 wr_0
theorem ok47 (tcp_Get : (List UInt8) → api_Addr → api_Addr → Option (tcp_Head × (List UInt8) × Int)) (tcp_List : (List UInt8) → Option ((List tcp_Opt) × Int)) (tcp_Put : tcp_Head → api_Addr → api_Addr → (List UInt8) → Option ((List UInt8) × Int)) (tcp_Stamp : (List UInt8) → Option (Int × Int × Int)) (tcp_Stamped : Int → Int → Option (List UInt8)) (hS : SumsOK Try.prog (aget (sums47 tcp_Get tcp_List tcp_Put tcp_Stamp tcp_Stamped))) : SumOK Try.prog 47 (s47 (law07_awakeF tcp_Get tcp_List tcp_Put tcp_Stamp tcp_Stamped)) := by
  refine SumOK.of_leads tab_ok (fun ar os r ha hr => ?_) ⟨Try.f47, rfl, by decide, rfl⟩
  replace hr : r47 (law07_awakeF tcp_Get tcp_List tcp_Put tcp_Stamp tcp_Stamped) ar (conts os) = some r := hr
  unfold r47 at hr
  generalize hc : conts os = C at hr
  have hq := dEnd.elim hr; clear hr; obtain ⟨rfl, rfl, hr⟩ := hq
  have hq := ofG.elim hr; clear hr; obtain ⟨x, h, rfl⟩ := hq
  obtain rfl := kinds_nil hc
  exact ⟨_, rfl, leads47 tcp_Get tcp_List tcp_Put tcp_Stamp tcp_Stamped hS x h⟩
def law07_awake : Option Bool := law07_awakeF tcp_Get tcp_List tcp_Put tcp_Stamp tcp_Stamped
theorem lift47 : SumOK Try.prog 47 (s47 law07_awake) := ok47 tcp_Get tcp_List tcp_Put tcp_Stamp tcp_Stamped (SumsOK.of_tab ⟨lift51, lift54, lift48, lift56, lift58, trivial⟩)
end Go.Vm.Code

namespace Go.Vm.Code
open Go Go.Vm Go.Proofs
set_option maxRecDepth 100000
set_option maxHeartbeats 4000000
set_option linter.unusedVariables false

/-! cloakroom/cloakroomlaw07.TcpOptions -/
def law07_TcpOptions_s1 (R07_Stamp : (List UInt8) → Option (Int × Int × Int)) (R07_Stamped : Int → Int → Option (List UInt8)) (law07_awake : Option Bool) (tcp_Stamp : (List UInt8) → Option (Int × Int × Int)) (tcp_Stamped : Int → Int → Option (List UInt8)) (options : List UInt8) (val : Int) (echo : Int) (l : (List tcp_Opt) × Int) (l1 : (List R07_Opt) × Int) (i : Int) : Option (Sum Int Bool) :=
  cond (decide (i < (l.1.length : Int)))
    (
    oreq (decide ((0 : Int) ≤ i ∧ i < (l.1.length : Int))) <|
    (l.1[i.toNat]?).bind fun (e : tcp_Opt) =>
    oreq (decide ((0 : Int) ≤ i ∧ i < (l1.1.length : Int))) <|
    (l1.1[i.toNat]?).bind fun (e1 : R07_Opt) =>
    cond (e.Kind != e1.Kind)
      (
      some (.inr (false)))
      (
      oreq (decide ((0 : Int) ≤ i ∧ i < (l.1.length : Int))) <|
      oreq (decide ((0 : Int) ≤ i ∧ i < (l1.1.length : Int))) <|
      cond (!(e.Data == e1.Data))
        (
        some (.inr (false)))
        (
        some (.inl (wI .i64 (i + 1))))))
    (
    (tcp_Stamp options).bind fun s =>
    (R07_Stamp options).bind fun s1 =>
    (tcp_Stamped val echo).bind fun s2 =>
    (tcp_Stamp s2).bind fun s3 =>
    cond (s.1 == s1.1)
      (
      cond (s.2.1 == s1.2.1)
        (
        cond (s.2.2 == s1.2.2)
          (
          (tcp_Stamped val echo).bind fun s4 =>
          (R07_Stamped val echo).bind fun s5 =>
          cond (s4 == s5)
            (
            cond (s3.1 == val)
              (
              cond (s3.2.1 == echo)
                (
                cond (s3.2.2 == 4)
                  (
                  (law07_awake).bind fun a1 =>
                  some (.inr (a1)))
                  (
                  some (.inr (false))))
                (
                some (.inr (false))))
              (
              some (.inr (false))))
            (
            some (.inr (false))))
          (
          some (.inr (false))))
        (
        some (.inr (false))))
      (
      some (.inr (false))))
def law07_TcpOptionsF (R07_List : (List UInt8) → Option ((List R07_Opt) × Int)) (R07_Stamp : (List UInt8) → Option (Int × Int × Int)) (R07_Stamped : Int → Int → Option (List UInt8)) (law07_awake : Option Bool) (tcp_List : (List UInt8) → Option ((List tcp_Opt) × Int)) (tcp_Stamp : (List UInt8) → Option (Int × Int × Int)) (tcp_Stamped : Int → Int → Option (List UInt8)) (options : List UInt8) (val : Int) (echo : Int) : Option Bool :=
  cond (decide ((options.length : Int) > 100))
    (
    (law07_awake).bind fun a =>
    some (a))
    (
    (tcp_List options).bind fun l =>
    (R07_List options).bind fun l1 =>
    let t := (l.1.length : Int) != (l1.1.length : Int)
    cond (t)
      (
      some (false))
      (
      cond (l.2 != l1.2)
        (
        some (false))
        (
        iter (fun st => law07_TcpOptions_s1 R07_Stamp R07_Stamped law07_awake tcp_Stamp tcp_Stamped options val echo l l1 st) FUEL 0)))
def rx12 (x : Bool) : SRes := ⟨.bool x, [], []⟩
def r12 (g : (List UInt8) → Int → Int → Option Bool) : Dec := dV asS fun (y0 : List UInt8) => dV (asI .u32) fun (y1 : Int) => dV (asI .u32) fun (y2 : Int) => dEnd (ofG (g y0 y1 y2) rx12)
theorem r12_c {g : (List UInt8) → Int → Int → Option Bool} {y0 : List UInt8} {y1 : Int} {y2 : Int} {x : Bool} (hx : g y0 y1 y2 = some x) : r12 g [.string ⟨⟨y0⟩⟩, .int .u32 y1, .int .u32 y2] [] = some (rx12 x) := (dV_eq (asS_c)).trans ((dV_eq (asI_c _)).trans ((dV_eq (asI_c _)).trans (ofG_eq hx)))
def s12 (g : (List UInt8) → Int → Int → Option Bool) : Summ := ⟨[.v, .v, .v], r12 g⟩
theorem r12_eq {g : (List UInt8) → Int → Int → Option Bool} {y0 : List UInt8} {y1 : Int} {y2 : Int} {x : Bool} (hx : g y0 y1 y2 = some x) : (s12 g).run [.string ⟨⟨y0⟩⟩, .int .u32 y1, .int .u32 y2] [] = some (rx12 x) := r12_c hx
abbrev sums12 (R07_List : (List UInt8) → Option ((List R07_Opt) × Int)) (R07_Stamp : (List UInt8) → Option (Int × Int × Int)) (R07_Stamped : Int → Int → Option (List UInt8)) (law07_awake : Option Bool) (tcp_List : (List UInt8) → Option ((List tcp_Opt) × Int)) (tcp_Stamp : (List UInt8) → Option (Int × Int × Int)) (tcp_Stamped : Int → Int → Option (List UInt8)) : List (Nat × Summ) := [(55, s55 R07_List), (57, s57 R07_Stamp), (59, s59 R07_Stamped), (47, s47 law07_awake), (54, s54 tcp_List), (56, s56 tcp_Stamp), (58, s58 tcp_Stamped)]
def head12_1 (options : List UInt8) (val : Int) (echo : Int) (l : (List tcp_Opt) × Int) (l1 : (List R07_Opt) × Int) (i : Int) : VM :=
  ⟨⟨12, 134, [(0, .string ⟨⟨options⟩⟩), (1, .int .u32 val), (2, .int .u32 echo), (7, .slice (some ⟨0, 0, none⟩) l.1.length 2), (9, .slice (some ⟨1, 0, none⟩) l1.1.length 3), (11, .int .i64 i)], [.code k12_25, .inLoop k12_25, .inBlock 0, .code k12_36], [], false, none⟩, [], [(0, .row true (vT ctcp_Opt l.1)), (1, .row true (vT cR07_Opt l1.1))], 2⟩
theorem loop12_1 (R07_List : (List UInt8) → Option ((List R07_Opt) × Int)) (R07_Stamp : (List UInt8) → Option (Int × Int × Int)) (R07_Stamped : Int → Int → Option (List UInt8)) (law07_awake : Option Bool) (tcp_List : (List UInt8) → Option ((List tcp_Opt) × Int)) (tcp_Stamp : (List UInt8) → Option (Int × Int × Int)) (tcp_Stamped : Int → Int → Option (List UInt8)) (hS : SumsOK Try.prog (aget (sums12 R07_List R07_Stamp R07_Stamped law07_awake tcp_List tcp_Stamp tcp_Stamped))) (options : List UInt8) (val : Int) (echo : Int) (l : (List tcp_Opt) × Int) (l1 : (List R07_Opt) × Int) (res : Bool) : ∀ fuel (st : Int) (o : Bool), iter (fun st => law07_TcpOptions_s1 R07_Stamp R07_Stamped law07_awake tcp_Stamp tcp_Stamped options val echo l l1 st) fuel st = some o → (o = res) →
    Leads Try.prog 12 0 (head12_1 options val echo l l1 st) (fun v H _ => Res 0 (rx12 res) v H) := by
  intro fuel st o h hc
  refine iter_leads (head := fun st => head12_1 options val echo l l1 st) (C := fun o => (o = res)) ?_ fuel st o h hc
  clear h hc o st fuel
  intro i o h hc
  replace h : law07_TcpOptions_s1 R07_Stamp R07_Stamped law07_awake tcp_Stamp tcp_Stamped options val echo l l1 i = some o := h
  show Leads Try.prog 12 0 (head12_1 options val echo l l1 i) (fun v H _ => Res 0 (rx12 res) v H)
  unfold law07_TcpOptions_s1 at h
  refine ev_ok tab_ok hS true 3000 ?_
  conv => whnf
  refine br.h h ?_ ?_ ?_
  · rfl
  · clear h; intro hb h; conv => whnf
    replace h := oreq.elim h; have hb := h.1; replace h := h.2
    first | (refine req.intro hb ?_; conv => whnf) | skip
    obtain ⟨e, hy, h2⟩ := obind.elim h; clear h; have h := h2; clear h2
    refine rd.T (j := 0) ctcp_Opt_len hy (by omega) (by decide) rfl ?_
    conv => whnf
    replace h := oreq.elim h; have hb := h.1; replace h := h.2
    first | (refine req.intro hb ?_; conv => whnf) | skip
    obtain ⟨e1, hy, h2⟩ := obind.elim h; clear h; have h := h2; clear h2
    refine rd.T (j := 0) cR07_Opt_len hy (by omega) (by decide) rfl ?_
    conv => whnf
    refine br.h h ?_ ?_ ?_
    · rfl
    · clear h; intro hb h; conv => whnf
      all_goals (cases h; cases hc)
      all_goals exact Res.of [] rfl nw_0 (by decide) js_0 wr_0
    clear h; intro hb h; conv => whnf
    replace h := oreq.elim h; have hb := h.1; replace h := h.2
    first | (refine req.intro hb ?_; conv => whnf) | skip
    refine rd.T (j := 1) ctcp_Opt_len (by assumption) (by omega) (by decide) rfl ?_
    conv => whnf
    replace h := oreq.elim h; have hb := h.1; replace h := h.2
    first | (refine req.intro hb ?_; conv => whnf) | skip
    refine rd.T (j := 1) cR07_Opt_len (by assumption) (by omega) (by decide) rfl ?_
    conv => whnf
    refine br.h h ?_ ?_ ?_
    · rfl
    · clear h; intro hb h; conv => whnf
      all_goals (cases h; cases hc)
      all_goals exact Res.of [] rfl nw_0 (by decide) js_0 wr_0
    clear h; intro hb h; conv => whnf
    cases h; simp only [Sum.elim_inl, head12_1] at hc
    refine Leads.re hc [(0, 0), (1, 1)] rfl ?_ ?_ <;> (repeat' first | exact trivial | refine ⟨⟨_, rfl, rfl⟩, ?_⟩ | refine ⟨⟨_, _, rfl, rfl, .rowF (vI_flat _ _) id⟩, ?_⟩ | refine ⟨⟨_, _, rfl, rfl, .rowF (vS_flat _) id⟩, ?_⟩ | refine ⟨⟨_, _, rfl, rfl, .rowF (vB_flat _) id⟩, ?_⟩ | refine ⟨⟨_, _, rfl, rfl, .rowF (vT_flat (by first | exact ctcp_Head_flat | exact capi_Addr_flat | exact ctcp_Opt_flat | exact coctet_Reader_flat | exact cR07_Opt_flat) _) id⟩, ?_⟩ | refine ⟨⟨_, _, rfl, rfl, .tyF (vI_flat _ _)⟩, ?_⟩ | refine ⟨⟨_, _, rfl, rfl, .ty rfl⟩, ?_⟩ | refine ⟨⟨_, _, rfl, rfl, .cells rfl⟩, ?_⟩ | refine ⟨⟨_, _, rfl, rfl, .row rfl id⟩, ?_⟩ | refine ⟨⟨_, _, rfl, rfl, .cr rfl⟩, ?_⟩ | refine ⟨⟨_, _, rfl, rfl, .rc rfl⟩, ?_⟩ | refine ⟨⟨_, _, rfl, rfl, .marks⟩, ?_⟩ | refine ⟨⟨_, _, rfl, rfl, .siter _ _⟩, ?_⟩ | refine ⟨⟨_, _, rfl, rfl, .loop rfl rfl rfl rfl (by repeat' first | exact trivial | refine ⟨rfl, ?_⟩) rfl rfl rfl rfl⟩, ?_⟩)
  clear h; intro hb h; conv => whnf
  obtain ⟨s, hy, h2⟩ := obind.elim h; clear h; have h := h2; clear h2
  refine sumK.introF [] (sumRun_of (aqs := [.string ⟨⟨options⟩⟩]) (ws := []) (n := 0) (m := 0) (t' := 2) (ra_cons rfl rfl ra_nil) rfl (by rfl) (r56_eq hy) rfl rfl rfl rfl wb_nil an_nil rfl) ?_
  conv => whnf
  obtain ⟨s1, hy, h2⟩ := obind.elim h; clear h; have h := h2; clear h2
  refine sumK.introF [] (sumRun_of (aqs := [.string ⟨⟨options⟩⟩]) (ws := []) (n := 0) (m := 0) (t' := 2) (ra_cons rfl rfl ra_nil) rfl (by rfl) (r57_eq hy) rfl rfl rfl rfl wb_nil an_nil rfl) ?_
  conv => whnf
  obtain ⟨s2, hy, h2⟩ := obind.elim h; clear h; have h := h2; clear h2
  refine sumK.introF [] (sumRun_of (aqs := [.int .u32 val, .int .u32 echo]) (ws := []) (n := 0) (m := 0) (t' := 2) (ra_cons rfl rfl (ra_cons rfl rfl ra_nil)) rfl (by rfl) (r58_eq hy) rfl rfl rfl rfl wb_nil an_nil rfl) ?_
  conv => whnf
  obtain ⟨s3, hy, h2⟩ := obind.elim h; clear h; have h := h2; clear h2
  refine sumK.introF [] (sumRun_of (aqs := [.string ⟨⟨s2⟩⟩]) (ws := []) (n := 0) (m := 0) (t' := 2) (ra_cons rfl rfl ra_nil) rfl (by rfl) (r56_eq hy) rfl rfl rfl rfl wb_nil an_nil rfl) ?_
  conv => whnf
  refine br.h2 h ?_ ?_ ?_
  · rfl
  · clear h; intro hb h; conv => whnf
    all_goals (cases h; cases hc)
    all_goals exact Res.of [] rfl nw_0 (by decide) js_0 wr_0
  clear h; intro hb h; conv => whnf
  refine br.h2 h ?_ ?_ ?_
  · rfl
  · clear h; intro hb h; conv => whnf
    all_goals (cases h; cases hc)
    all_goals exact Res.of [] rfl nw_0 (by decide) js_0 wr_0
  clear h; intro hb h; conv => whnf
  refine br.h2 h ?_ ?_ ?_
  · rfl
  · clear h; intro hb h; conv => whnf
    all_goals (cases h; cases hc)
    all_goals exact Res.of [] rfl nw_0 (by decide) js_0 wr_0
  clear h; intro hb h; conv => whnf
  obtain ⟨s4, hy, h2⟩ := obind.elim h; clear h; have h := h2; clear h2
  refine sumK.introF [] (sumRun_of (aqs := [.int .u32 val, .int .u32 echo]) (ws := []) (n := 0) (m := 0) (t' := 2) (ra_cons rfl rfl (ra_cons rfl rfl ra_nil)) rfl (by rfl) (r58_eq hy) rfl rfl rfl rfl wb_nil an_nil rfl) ?_
  conv => whnf
  obtain ⟨s5, hy, h2⟩ := obind.elim h; clear h; have h := h2; clear h2
  refine sumK.introF [] (sumRun_of (aqs := [.int .u32 val, .int .u32 echo]) (ws := []) (n := 0) (m := 0) (t' := 2) (ra_cons rfl rfl (ra_cons rfl rfl ra_nil)) rfl (by rfl) (r59_eq hy) rfl rfl rfl rfl wb_nil an_nil rfl) ?_
  conv => whnf
  refine br.h2 h ?_ ?_ ?_
  · rfl
  · clear h; intro hb h; conv => whnf
    all_goals (cases h; cases hc)
    all_goals exact Res.of [] rfl nw_0 (by decide) js_0 wr_0
  clear h; intro hb h; conv => whnf
  refine br.h2 h ?_ ?_ ?_
  · rfl
  · clear h; intro hb h; conv => whnf
    all_goals (cases h; cases hc)
    all_goals exact Res.of [] rfl nw_0 (by decide) js_0 wr_0
  clear h; intro hb h; conv => whnf
  refine br.h2 h ?_ ?_ ?_
  · rfl
  · clear h; intro hb h; conv => whnf
    all_goals (cases h; cases hc)
    all_goals exact Res.of [] rfl nw_0 (by decide) js_0 wr_0
  clear h; intro hb h; conv => whnf
  refine br.h2 h ?_ ?_ ?_
  · rfl
  · clear h; intro hb h; conv => whnf
    all_goals (cases h; cases hc)
    all_goals exact Res.of [] rfl nw_0 (by decide) js_0 wr_0
  clear h; intro hb h; conv => whnf
  obtain ⟨a1, hy, h2⟩ := obind.elim h; clear h; have h := h2; clear h2
  refine sumK.introF [] (sumRun_of (aqs := []) (ws := []) (n := 0) (m := 0) (t' := 2) ra_nil rfl (by rfl) (r47_eq hy) rfl rfl rfl rfl wb_nil an_nil rfl) ?_
  conv => whnf
  all_goals (cases h; cases hc)
  all_goals exact Res.of [] rfl nw_0 (by decide) js_0 wr_0
theorem leads12 (R07_List : (List UInt8) → Option ((List R07_Opt) × Int)) (R07_Stamp : (List UInt8) → Option (Int × Int × Int)) (R07_Stamped : Int → Int → Option (List UInt8)) (law07_awake : Option Bool) (tcp_List : (List UInt8) → Option ((List tcp_Opt) × Int)) (tcp_Stamp : (List UInt8) → Option (Int × Int × Int)) (tcp_Stamped : Int → Int → Option (List UInt8)) (hS : SumsOK Try.prog (aget (sums12 R07_List R07_Stamp R07_Stamped law07_awake tcp_List tcp_Stamp tcp_Stamped))) (options : List UInt8) (val : Int) (echo : Int) (res : Bool) (h : law07_TcpOptionsF R07_List R07_Stamp R07_Stamped law07_awake tcp_List tcp_Stamp tcp_Stamped options val echo = some res) :
    Leads Try.prog 12 0 ⟨⟨12, 134, [(0, .string ⟨⟨options⟩⟩), (1, .int .u32 val), (2, .int .u32 echo)], [.code k12_42], [], false, none⟩, [], [], 0⟩ (fun v H _ => Res 0 (rx12 res) v H) := by
  unfold law07_TcpOptionsF at h
  refine ev_ok tab_ok hS true 3000 ?_
  conv => whnf
  refine br.h h ?_ ?_ ?_
  · rfl
  · clear h; intro hb h; conv => whnf
    obtain ⟨a, hy, h2⟩ := obind.elim h; clear h; have h := h2; clear h2
    refine sumK.introF [] (sumRun_of (aqs := []) (ws := []) (n := 0) (m := 0) (t' := 0) ra_nil rfl (by rfl) (r47_eq hy) rfl rfl rfl rfl wb_nil an_nil rfl) ?_
    conv => whnf
    all_goals (cases h)
    all_goals exact Res.of [] rfl nw_0 (by decide) js_0 wr_0
  clear h; intro hb h; conv => whnf
  obtain ⟨l, hy, h2⟩ := obind.elim h; clear h; have h := h2; clear h2
  refine sumK.introF [] (sumRun_of (aqs := [.string ⟨⟨options⟩⟩]) (ws := []) (n := 1) (m := 0) (t' := 1) (ra_cons rfl rfl ra_nil) rfl (by rfl) (r54_eq hy) rfl rfl rfl rfl wb_nil (an_cons (rn_T ctcp_Opt_flat) an_nil) rfl) ?_
  conv => whnf
  obtain ⟨l1, hy, h2⟩ := obind.elim h; clear h; have h := h2; clear h2
  refine sumK.introF [] (sumRun_of (aqs := [.string ⟨⟨options⟩⟩]) (ws := []) (n := 1) (m := 0) (t' := 2) (ra_cons rfl rfl ra_nil) rfl (by rfl) (r55_eq hy) rfl rfl rfl rfl wb_nil (an_cons (rn_T cR07_Opt_flat) an_nil) rfl) ?_
  conv => whnf
  let t : Bool := (l.1.length : Int) != (l1.1.length : Int)
  refine br.h h ?_ ?_ ?_
  · rfl
  · clear h; intro hb h; conv => whnf
    all_goals (cases h)
    all_goals exact Res.of [] rfl nw_0 (by decide) js_0 wr_0
  clear h; intro hb h; conv => whnf
  refine br.h h ?_ ?_ ?_
  · rfl
  · clear h; intro hb h; conv => whnf
    all_goals (cases h)
    all_goals exact Res.of [] rfl nw_0 (by decide) js_0 wr_0
  clear h; intro hb h; conv => whnf
  have hl := loop12_1 R07_List R07_Stamp R07_Stamped law07_awake tcp_List tcp_Stamp tcp_Stamped hS _ _ _ _ _ res _ _ _ h rfl; simp only [head12_1] at hl
  refine Leads.re hl [(0, 0), (1, 1)] rfl ?_ ?_ <;> (repeat' first | exact trivial | refine ⟨⟨_, rfl, rfl⟩, ?_⟩ | refine ⟨⟨_, _, rfl, rfl, .rowF (vI_flat _ _) id⟩, ?_⟩ | refine ⟨⟨_, _, rfl, rfl, .rowF (vS_flat _) id⟩, ?_⟩ | refine ⟨⟨_, _, rfl, rfl, .rowF (vB_flat _) id⟩, ?_⟩ | refine ⟨⟨_, _, rfl, rfl, .rowF (vT_flat (by first | exact ctcp_Head_flat | exact capi_Addr_flat | exact ctcp_Opt_flat | exact coctet_Reader_flat | exact cR07_Opt_flat) _) id⟩, ?_⟩ | refine ⟨⟨_, _, rfl, rfl, .tyF (vI_flat _ _)⟩, ?_⟩ | refine ⟨⟨_, _, rfl, rfl, .ty rfl⟩, ?_⟩ | refine ⟨⟨_, _, rfl, rfl, .cells rfl⟩, ?_⟩ | refine ⟨⟨_, _, rfl, rfl, .row rfl id⟩, ?_⟩ | refine ⟨⟨_, _, rfl, rfl, .cr rfl⟩, ?_⟩ | refine ⟨⟨_, _, rfl, rfl, .rc rfl⟩, ?_⟩ | refine ⟨⟨_, _, rfl, rfl, .marks⟩, ?_⟩ | refine ⟨⟨_, _, rfl, rfl, .siter _ _⟩, ?_⟩ | refine ⟨⟨_, _, rfl, rfl, .loop rfl rfl rfl rfl (by repeat' first | exact trivial | refine ⟨rfl, ?_⟩) rfl rfl rfl rfl⟩, ?_⟩)
theorem ok12 (R07_List : (List UInt8) → Option ((List R07_Opt) × Int)) (R07_Stamp : (List UInt8) → Option (Int × Int × Int)) (R07_Stamped : Int → Int → Option (List UInt8)) (law07_awake : Option Bool) (tcp_List : (List UInt8) → Option ((List tcp_Opt) × Int)) (tcp_Stamp : (List UInt8) → Option (Int × Int × Int)) (tcp_Stamped : Int → Int → Option (List UInt8)) (hS : SumsOK Try.prog (aget (sums12 R07_List R07_Stamp R07_Stamped law07_awake tcp_List tcp_Stamp tcp_Stamped))) : SumOK Try.prog 12 (s12 (law07_TcpOptionsF R07_List R07_Stamp R07_Stamped law07_awake tcp_List tcp_Stamp tcp_Stamped)) := by
  refine SumOK.of_leads tab_ok (fun ar os r ha hr => ?_) ⟨Try.f12, rfl, by decide, rfl⟩
  replace hr : r12 (law07_TcpOptionsF R07_List R07_Stamp R07_Stamped law07_awake tcp_List tcp_Stamp tcp_Stamped) ar (conts os) = some r := hr
  unfold r12 at hr
  generalize hc : conts os = C at hr
  have hq := dV.elim hr; clear hr; obtain ⟨v0, l1, y0, rfl, e0, hr⟩ := hq; obtain rfl := asS_eq _ _ e0
  have hq := dV.elim hr; clear hr; obtain ⟨v1, l2, y1, rfl, e1, hr⟩ := hq; obtain rfl := asI_eq _ _ _ e1
  have hq := dV.elim hr; clear hr; obtain ⟨v2, l3, y2, rfl, e2, hr⟩ := hq; obtain rfl := asI_eq _ _ _ e2
  have hq := dEnd.elim hr; clear hr; obtain ⟨rfl, rfl, hr⟩ := hq
  have hq := ofG.elim hr; clear hr; obtain ⟨x, h, rfl⟩ := hq
  obtain rfl := kinds_nil hc
  exact ⟨_, rfl, leads12 R07_List R07_Stamp R07_Stamped law07_awake tcp_List tcp_Stamp tcp_Stamped hS _ _ _ x h⟩
def law07_TcpOptions : (List UInt8) → Int → Int → Option Bool := law07_TcpOptionsF R07_List R07_Stamp R07_Stamped law07_awake tcp_List tcp_Stamp tcp_Stamped
theorem lift12 : SumOK Try.prog 12 (s12 law07_TcpOptions) := ok12 R07_List R07_Stamp R07_Stamped law07_awake tcp_List tcp_Stamp tcp_Stamped (SumsOK.of_tab ⟨lift55, lift57, lift59, lift47, lift54, lift56, lift58, trivial⟩)
end Go.Vm.Code

/- TcpOptions in plain words. -/
namespace Go.Vm.Code
open Go Go.Vm
theorem awake07o : law07_awake = some true := by decide +kernel
theorem optF_len (s : List UInt8) : ∀ n i out, (optF s n i out).1.length ≤ out.length + n := by
  intro n
  induction n using Nat.strongRecOn with
  | ind n ih =>
    intro i out
    cases n with
    | zero => rw [optF]; simp
    | succ n =>
      rw [optF]
      split
      · simp
      split
      · simp
      split
      · have := ih n (by omega) (i + 1) out; omega
      split
      · simp
      split
      · simp
      split
      · simp
      refine Nat.le_trans (ih _ (by omega) _ _) ?_
      simp; omega
theorem tcpOptions (s : List UInt8) (val echo : Int) (hv : 0 ≤ val ∧ val < 4294967296) (he : 0 ≤ echo ∧ echo < 4294967296) : law07_TcpOptions s val echo = some true := by
  unfold law07_TcpOptions law07_TcpOptionsF
  by_cases g1 : (s.length : Int) > 100
  · rw [cond_p g1, awake07o]; rfl
  obtain ⟨v, rfl⟩ := Int.eq_ofNat_of_zero_le hv.1
  obtain ⟨e, rfl⟩ := Int.eq_ofNat_of_zero_le he.1
  have hv2 : v < 4294967296 := by omega
  have he2 : e < 4294967296 := by omega
  have hsl : (stamped7 v e).length < 2 ^ 20 := by simp [stamped7]
  have hcount : (opt7 s).1.length < 2 ^ 60 := by
    have := optF_len s s.length 0 []
    unfold opt7
    simp at this; omega
  rw [cond_n g1, t7_eq (by omega), Option.bind_some, l7_eq (by omega), Option.bind_some, awake07o]
  have h1 : ((((opt7 s).1.map strip).length : Int) != ((opt7 s).1.length : Int)) = false := by simp
  simp only [h1, bne_self_eq_false, cond_false]
  have key := iter_eq (step := fun st => law07_TcpOptions_s1 R07_Stamp R07_Stamped (some true) tcp_Stamp tcp_Stamped s (v : Int) (e : Int) ((opt7 s).1.map strip, (opt7 s).2) (opt7 s) st) (fun _ => true) (fun st => 0 ≤ st ∧ st ≤ (opt7 s).1.length) (fun st => (((opt7 s).1.length : Int) - st).toNat) ?_ FUEL 0 ⟨by omega, by omega⟩ (by rw [FUEL_eq]; omega)
  · exact key
  intro st ⟨g2, g3⟩
  obtain ⟨i, rfl⟩ := Int.eq_ofNat_of_zero_le g2
  unfold law07_TcpOptions_s1
  simp only [Int.toNat_natCast, List.length_map]
  by_cases hp : i < (opt7 s).1.length
  · refine .inr ⟨((i + 1 : Nat) : Int), ?_, ⟨by omega, by omega⟩, by omega, trivial⟩
    rw [cond_p (by omega), oreq_p (by omega), List.getElem?_map, List.getElem?_eq_getElem hp]
    simp only [Option.map_some, Option.bind_some, strip, bne_self_eq_false, cond_false, beq_self_eq_true, Bool.not_true]
    rw [oreq_p (by omega), oreq_p (by omega), oreq_p (by omega), wI64 (by omega) (by omega)]; rfl
  · refine .inl ?_
    rw [cond_n (by omega), t7st_eq (by omega), r7st_eq (by omega), t7sd_eq hv2 he2, r7sd_eq hv2 he2]
    simp only [Option.bind_some]
    rw [t7st_eq hsl, stamp_stamped hv2 he2]
    simp only [Option.bind_some, beq_self_eq_true, cond_true]
end Go.Vm.Code
