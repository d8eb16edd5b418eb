import Derived.Test.YtdnhoocoofnibaaMTcpTellsa
/- Numbers read at a place of bytes; ranges; pseudo headers: plain words. -/
namespace Go.Vm.Code
open Go Go.Vm
def inR (n m : Int) : Bool := decide (0 ≤ n ∧ n ≤ m)
theorem inR_iff {n m : Int} : inR n m = true ↔ 0 ≤ n ∧ n ≤ m := by unfold inR; simp
theorem opt_mod (n : Nat) : (((n : Int).tmod 4) == 0) = decide (n % 4 = 0) := by
  rw [Int.tmod_eq_emod_of_nonneg (by omega), Bool.eq_iff_iff, beq_iff_eq, decide_eq_true_eq]; omega
theorem opt_le (n : Nat) : decide ((n : Int) ≤ 40) = decide (n ≤ 40) := by rw [Bool.eq_iff_iff, decide_eq_true_eq, decide_eq_true_eq]; omega
theorem tdiv4 (n : Nat) : (20 + (n : Int)).tdiv 4 = (((20 + n) / 4 : Nat) : Int) := by rw [Int.tdiv_eq_ediv_of_nonneg (by omega)]; omega
/-- some bytes' number -/
def vK (s : List UInt8) (p k : Nat) : Int := (valL ((s.drop p).take k) : Nat)
theorem vK_rng (s : List UInt8) (p k n : Nat) (h : 256 ^ k ≤ n) : 0 ≤ vK s p k ∧ vK s p k < n := by
  have := val_take_lt (l := s.drop p) (k := k) n h
  unfold vK; omega
theorem num_at {s : List UInt8} {p k : Nat} (h1 : 1 ≤ k) (h7 : k ≤ 7) (h : p + k ≤ s.length) (hl : s.length < 2 ^ 61) : octet_Reader_Num ⟨s.drop p, true, false⟩ (k : Int) = some (vK s p k, ⟨s.drop (p + k), true, false⟩) := by
  have hd : (s.drop p).length = s.length - p := by simp
  rw [rNum_eq rfl (by simp only; omega), if_neg (by omega), rdr_ok (by omega) (by omega)]
  unfold rdn
  rw [if_neg (by omega), rdt_ok (by omega) (by omega), Int.toNat_natCast, List.drop_drop]; rfl
theorem text_at {s : List UInt8} {p k : Nat} (h : p + k ≤ s.length) : octet_Reader_Text ⟨s.drop p, true, false⟩ (k : Int) = some ((s.drop p).take k, ⟨s.drop (p + k), true, false⟩) := by
  have hd : (s.drop p).length = s.length - p := by simp
  rw [rText_eq rfl, rdr_ok (by omega) (by omega), rdt_ok (by omega) (by omega), Int.toNat_natCast, List.drop_drop]
theorem must_at {s : List UInt8} {p k : Nat} (hs : s.length < 2 ^ 61) (h1 : 1 ≤ k) (h7 : k ≤ 7) (h : p + k ≤ s.length) : R02_Must s (p : Int) (k : Int) = some (vK s p k) := by
  rw [R02_Must_eq hs, getS_at (by omega) (by omega) (by omega) (by omega)]
  have := vK_rng s p k (256 ^ k) (Nat.le_refl _)
  have h8 : 256 ^ k ≤ 256 ^ 7 := Nat.pow_le_pow_right (by decide) h7
  have h9 : (256 : Nat) ^ 7 = 72057594037927936 := by decide
  show some (wI .i64 (vK s p k)) = _
  rw [wI64 (by omega) (by omega)]
theorem vK_one {s : List UInt8} {p : Nat} (h : p < s.length) : vK s p 1 = (s[p].toNat : Int) := by
  unfold vK
  rw [List.drop_eq_getElem_cons h]
  show ((valL [s[p]] : Nat) : Int) = _
  rw [val_cons]; simp
theorem vK_two {s : List UInt8} {p : Nat} (h : p + 1 < s.length) : vK s p 2 = (s[p].toNat * 256 + s[p + 1].toNat : Int) := by
  unfold vK
  rw [List.drop_eq_getElem_cons (by omega : p < s.length), List.drop_eq_getElem_cons h]
  show ((valL [s[p], s[p + 1]] : Nat) : Int) = _
  rw [val_cons, val_cons]; simp
theorem l1 {l : List UInt8} (h : l.length = 1) : ∃ a, l = [a] := by
  match l, h with
  | [a], _ => exact ⟨a, rfl⟩
theorem l2 {l : List UInt8} (h : l.length = 2) : ∃ a b, l = [a, b] := by
  match l, h with
  | [a, b], _ => exact ⟨a, b, rfl⟩
theorem l4 {l : List UInt8} (h : l.length = 4) : ∃ a b c d, l = [a, b, c, d] := by
  match l, h with
  | [a, b, c, d], _ => exact ⟨a, b, c, d, rfl⟩
theorem vK_of {s w : List UInt8} {p k n : Nat} (h : (s.drop p).take k = w) (e : w = be n k) (hn : n < 256 ^ k) : vK s p k = (n : Int) := by
  unfold vK; rw [h, e, val_be_lt hn]
theorem be_vK {s : List UInt8} {p k : Nat} (h : p + k ≤ s.length) : be (vK s p k).toNat k = (s.drop p).take k := by
  unfold vK; rw [Int.toNat_natCast]; exact be_val' (by simp; omega)
theorem putS_two (n : Int) : putS n 2 = be n.toNat 2 := putS_be (k := 2) (by omega)
theorem pseu_even (src dst : api_Addr) (p n : Int) : (pseu src dst p n).length % 2 = 0 := by
  unfold pseu
  split
  · rename_i h
    rw [List.length_append, List.length_append, abytes_len, abytes_len, ← h.2.2]
    cases src.V6
    · simp only [cond_false, List.length_append]
      rw [show (putS 0 1).length = 1 from rfl, show putS p 1 = be p.toNat 1 from putS_be (k := 1) (by omega), show putS n 2 = be n.toNat 2 from putS_be (k := 2) (by omega), be_len, be_len]
    · simp only [cond_true, List.length_append]
      rw [show (putS 0 3).length = 3 from rfl, show putS p 1 = be p.toNat 1 from putS_be (k := 1) (by omega), show putS n 4 = be n.toNat 4 from putS_be (k := 4) (by omega), be_len, be_len]
  · rfl
end Go.Vm.Code

/- A word of check in the middle of bytes: plain words. -/
namespace Go.Vm.Code
open Go Go.Vm
theorem setS_mid {A B : List UInt8} {p : Nat} {c : Int} (hA : A.length = p) : setS (A ++ (be 0 2 ++ B)) (p : Int) 2 c = A ++ (be c.toNat 2 ++ B) := by
  subst hA
  unfold setS
  rw [if_pos (by simp only [List.length_append, be_len]; omega), Int.toNat_natCast, List.take_left, show ((A.length : Int) + 2).toNat = A.length + 2 by omega, ← List.drop_drop, List.drop_left, show (be 0 2 ++ B).drop 2 = B from rfl, List.append_assoc]; rfl
theorem wsum_mid {A B : List UInt8} {c : Nat} (hA : A.length % 2 = 0) (hc : c < 65536) : wsum (A ++ (be c 2 ++ B)) = wsum (A ++ (be 0 2 ++ B)) + c := by
  rw [wsum_append _ _ hA, wsum_append _ _ hA, wsum_append (be c 2) B (by simp), wsum_append (be 0 2) B (by simp), wsum_be2 hc, wsum_be2 (by omega)]; omega
/-- the check of bytes whose check is 0 -/
def ckN (W : Nat) : Nat := 65535 - norm W
theorem ckN_ok (W : Nat) : ckN W ≤ 65535 ∧ (W + ckN W) % 65535 = 0 ∧ W + ckN W ≠ 0 := by
  have n1 := norm_le W
  have n2 := norm_mod W
  have n3 := norm_zero W
  unfold ckN; omega
/-- a right check is the one that is written, or 65535 -/
theorem ckN_uniq {W c : Nat} (hc : c ≤ 65535) (h : norm (W + c) = 65535) : c = ckN W ∨ c = 65535 := by
  have n0 := norm_le W
  have n1 := norm_mod (W + c)
  have n2 := norm_mod W
  have n3 := norm_zero W
  have n4 := norm_zero (W + c)
  rw [h] at n1 n4
  unfold ckN; omega
theorem bytes_two {l : List UInt8} (h : l.length = 2) : l = be (valL l) 2 := (be_val' h).symm
theorem be_two (a b : Nat) (hb : b < 65536) : be (a * 65536 + b) 4 = be a 2 ++ be b 2 := by
  rw [be_split _ 2 2, show (256 : Nat) ^ 2 = 65536 from rfl, show (a * 65536 + b) / 65536 = a by omega, ← be_mod (a * 65536 + b) 2, show (256 : Nat) ^ 2 = 65536 from rfl, show (a * 65536 + b) % 65536 = b by omega]
theorem be_four (a b : Nat) (hb : b < 4294967296) : be (a * 4294967296 + b) 8 = be a 4 ++ be b 4 := by
  rw [be_split _ 4 4, show (256 : Nat) ^ 4 = 4294967296 from rfl, show (a * 4294967296 + b) / 4294967296 = a by omega, ← be_mod (a * 4294967296 + b) 4, show (256 : Nat) ^ 4 = 4294967296 from rfl, show (a * 4294967296 + b) % 4294967296 = b by omega]
theorem be_one (a b : Nat) (hb : b < 256) : be (a * 256 + b) 2 = be a 1 ++ be b 1 := by
  rw [be_split _ 1 1, show (256 : Nat) ^ 1 = 256 from rfl, show (a * 256 + b) / 256 = a by omega, ← be_mod (a * 256 + b) 1, show (256 : Nat) ^ 1 = 256 from rfl, show (a * 256 + b) % 256 = b by omega]
end Go.Vm.Code

namespace Go.Vm.Code
open Go Go.Vm Go.Proofs
set_option maxRecDepth 100000
set_option maxHeartbeats 4000000
set_option linter.unusedVariables false

/-! cloakroom/tcp.within -/
def tcp_within_s1 (most : Int) (l : List Int) (t9 : Int) : Option (Sum Int Bool) :=
  cond (decide (t9 < (l.length : Int)))
    (
    oreq (decide ((0 : Int) ≤ t9 ∧ t9 < (l.length : Int))) <|
    (l[t9.toNat]?).bind fun (e : Int) =>
    cond (decide (e < 0))
      (
      some (.inr (false)))
      (
      cond (decide (e > most))
        (
        some (.inr (false)))
        (
        some (.inl (wI .i64 (t9 + 1))))))
    (
    some (.inr (true)))
def tcp_withinF (most : Int) (l : List Int) : Option Bool :=
  iter (fun st => tcp_within_s1 most l st) FUEL 0
def rx126 (x : Bool) : SRes := ⟨.bool x, [], [none]⟩
def r126 (g : Int → (List Int) → Option Bool) : Dec := dV (asI .i64) fun (y0 : Int) => dSl 0 1 (unL (asI .i64)) fun (y1 : List Int) => dEnd (ofG (g y0 y1) rx126)
theorem r126_c {g : Int → (List Int) → Option Bool} {y0 : Int} {y1 : List Int} {x : Bool} (hx : g y0 y1 = some x) : r126 g [.int .i64 y0, .slice (some ⟨0, 0, none⟩) y1.length 1] [some (vI .i64 y1)] = some (rx126 x) := (dV_eq (asI_c _)).trans ((dSl_eq (unI_vI _ _)).trans (ofG_eq hx))
def s126 (g : Int → (List Int) → Option Bool) : Summ := ⟨[.v, .sl 1], r126 g⟩
theorem r126_eq {g : Int → (List Int) → Option Bool} {y0 : Int} {y1 : List Int} {x : Bool} (hx : g y0 y1 = some x) : (s126 g).run [.int .i64 y0, .slice (some ⟨0, 0, none⟩) y1.length 1] [some (vI .i64 y1)] = some (rx126 x) := r126_c hx
abbrev sums126 : List (Nat × Summ) := []
def head126_1 (most : Int) (l : List Int) (t9 : Int) : VM :=
  ⟨⟨126, 21, [(0, .int .i64 most), (7, .slice (some ⟨0, 0, none⟩) l.length 1), (8, .int .i64 (l.length : Int)), (9, .int .i64 t9)], [.code k126_15, .inLoop k126_15, .inBlock 0, .code k126_20], [], false, none⟩, [], [(0, .row false (vI .i64 l))], 1⟩
theorem loop126_1 (hS : SumsOK Try.prog (aget (sums126))) (most : Int) (l : List Int) (res : Bool) : ∀ fuel (st : Int) (o : Bool), iter (fun st => tcp_within_s1 most l st) fuel st = some o → (o = res) →
    Leads Try.prog 126 1 (head126_1 most l st) (fun v H _ => Res 1 (rx126 res) v H) := by
  intro fuel st o h hc
  refine iter_leads (head := fun st => head126_1 most l st) (C := fun o => (o = res)) ?_ fuel st o h hc
  clear h hc o st fuel
  intro t9 o h hc
  replace h : tcp_within_s1 most l t9 = some o := h
  show Leads Try.prog 126 1 (head126_1 most l t9) (fun v H _ => Res 1 (rx126 res) v H)
  unfold tcp_within_s1 at h
  refine ev_ok tab_ok hS true 3000 ?_
  conv => whnf
  refine br.h2 h ?_ ?_ ?_
  · rfl
  · clear h; intro hb h; conv => whnf
    all_goals (cases h; cases hc)
    all_goals exact Res.of [] rfl nw_0 (by decide) js_0 (wr_n wr_0)
  clear h; intro hb h; conv => whnf
  replace h := oreq.elim h; have hb := h.1; replace h := h.2
  first | (refine req.intro hb ?_; conv => whnf) | skip
  obtain ⟨e, hy, h2⟩ := obind.elim h; clear h; have h := h2; clear h2
  refine rd.I hy (by first | rfl | (rw [Nat.zero_add, Nat.mul_one]; done) | omega) ?_
  conv => whnf
  refine br.h h ?_ ?_ ?_
  · rfl
  · clear h; intro hb h; conv => whnf
    all_goals (cases h; cases hc)
    all_goals exact Res.of [] rfl nw_0 (by decide) js_0 (wr_n wr_0)
  clear h; intro hb h; conv => whnf
  refine br.h h ?_ ?_ ?_
  · rfl
  · clear h; intro hb h; conv => whnf
    all_goals (cases h; cases hc)
    all_goals exact Res.of [] rfl nw_0 (by decide) js_0 (wr_n wr_0)
  clear h; intro hb h; conv => whnf
  cases h; simp only [Sum.elim_inl, head126_1] at hc
  refine Leads.re hc [(0, 0)] rfl ?_ ?_ <;> (repeat' first | exact trivial | refine ⟨⟨_, rfl, rfl⟩, ?_⟩ | refine ⟨⟨_, _, rfl, rfl, .rowF (vI_flat _ _) id⟩, ?_⟩ | refine ⟨⟨_, _, rfl, rfl, .rowF (vS_flat _) id⟩, ?_⟩ | refine ⟨⟨_, _, rfl, rfl, .rowF (vB_flat _) id⟩, ?_⟩ | refine ⟨⟨_, _, rfl, rfl, .rowF (vT_flat (by first | exact ctcp_Head_flat | exact capi_Addr_flat | exact ctcp_Opt_flat | exact coctet_Reader_flat | exact cR07_Opt_flat) _) id⟩, ?_⟩ | refine ⟨⟨_, _, rfl, rfl, .tyF (vI_flat _ _)⟩, ?_⟩ | refine ⟨⟨_, _, rfl, rfl, .ty rfl⟩, ?_⟩ | refine ⟨⟨_, _, rfl, rfl, .cells rfl⟩, ?_⟩ | refine ⟨⟨_, _, rfl, rfl, .row rfl id⟩, ?_⟩ | refine ⟨⟨_, _, rfl, rfl, .cr rfl⟩, ?_⟩ | refine ⟨⟨_, _, rfl, rfl, .rc rfl⟩, ?_⟩ | refine ⟨⟨_, _, rfl, rfl, .marks⟩, ?_⟩ | refine ⟨⟨_, _, rfl, rfl, .siter _ _⟩, ?_⟩ | refine ⟨⟨_, _, rfl, rfl, .loop rfl rfl rfl rfl (by repeat' first | exact trivial | refine ⟨rfl, ?_⟩) rfl rfl rfl rfl⟩, ?_⟩)
theorem leads126 (hS : SumsOK Try.prog (aget (sums126))) (most : Int) (l : List Int) (res : Bool) (h : tcp_withinF most l = some res) :
    Leads Try.prog 126 1 ⟨⟨126, 21, [(0, .int .i64 most), (1, .slice (some ⟨0, 0, none⟩) l.length 1)], [.code k126_22], [], false, none⟩, [], [(0, .row false (vI .i64 l))], 1⟩ (fun v H _ => Res 1 (rx126 res) v H) := by
  unfold tcp_withinF at h
  refine ev_ok tab_ok hS true 3000 ?_
  conv => whnf
  have hl := loop126_1 hS _ _ res _ _ _ h rfl; simp only [head126_1] at hl
  refine Leads.re hl [(0, 0)] rfl ?_ ?_ <;> (repeat' first | exact trivial | refine ⟨⟨_, rfl, rfl⟩, ?_⟩ | refine ⟨⟨_, _, rfl, rfl, .rowF (vI_flat _ _) id⟩, ?_⟩ | refine ⟨⟨_, _, rfl, rfl, .rowF (vS_flat _) id⟩, ?_⟩ | refine ⟨⟨_, _, rfl, rfl, .rowF (vB_flat _) id⟩, ?_⟩ | refine ⟨⟨_, _, rfl, rfl, .rowF (vT_flat (by first | exact ctcp_Head_flat | exact capi_Addr_flat | exact ctcp_Opt_flat | exact coctet_Reader_flat | exact cR07_Opt_flat) _) id⟩, ?_⟩ | refine ⟨⟨_, _, rfl, rfl, .tyF (vI_flat _ _)⟩, ?_⟩ | refine ⟨⟨_, _, rfl, rfl, .ty rfl⟩, ?_⟩ | refine ⟨⟨_, _, rfl, rfl, .cells rfl⟩, ?_⟩ | refine ⟨⟨_, _, rfl, rfl, .row rfl id⟩, ?_⟩ | refine ⟨⟨_, _, rfl, rfl, .cr rfl⟩, ?_⟩ | refine ⟨⟨_, _, rfl, rfl, .rc rfl⟩, ?_⟩ | refine ⟨⟨_, _, rfl, rfl, .marks⟩, ?_⟩ | refine ⟨⟨_, _, rfl, rfl, .siter _ _⟩, ?_⟩ | refine ⟨⟨_, _, rfl, rfl, .loop rfl rfl rfl rfl (by repeat' first | exact trivial | refine ⟨rfl, ?_⟩) rfl rfl rfl rfl⟩, ?_⟩)
theorem ok126 (hS : SumsOK Try.prog (aget (sums126))) : SumOK Try.prog 126 (s126 (tcp_withinF)) := by
  refine SumOK.of_leads tab_ok (fun ar os r ha hr => ?_) ⟨Try.f126, rfl, by decide, rfl⟩
  replace hr : r126 (tcp_withinF) ar (conts os) = some r := hr
  unfold r126 at hr
  generalize hc : conts os = C at hr
  have hq := dV.elim hr; clear hr; obtain ⟨v0, l1, y0, rfl, e0, hr⟩ := hq; obtain rfl := asI_eq _ _ _ e0
  have hq := dSl.elim hr; clear hr; obtain ⟨c1, l2, C, y1, rfl, rfl, e1, hr⟩ := hq; obtain rfl := unI_eq e1
  have hq := dEnd.elim hr; clear hr; obtain ⟨rfl, rfl, hr⟩ := hq
  have hq := ofG.elim hr; clear hr; obtain ⟨x, h, rfl⟩ := hq
  obtain ⟨os, rfl, ha, hc⟩ := kinds_some ha hc
  obtain rfl := kinds_nil hc
  exact ⟨_, rfl, leads126 hS _ _ x h⟩
def tcp_within : Int → (List Int) → Option Bool := tcp_withinF
theorem lift126 : SumOK Try.prog 126 (s126 tcp_within) := ok126 (SumsOK.of_tab trivial)
end Go.Vm.Code

namespace Go.Vm.Code
open Go Go.Vm Go.Proofs
set_option maxRecDepth 100000
set_option maxHeartbeats 4000000
set_option linter.unusedVariables false

/-! (cloakroom/tcp.Head).may -/
def tcp_Head_mayF (tcp_within : Int → (List Int) → Option Bool) (ha0 : tcp_Head) : Option Bool :=
  (tcp_within 65535 [ha0.SPort, ha0.DPort, ha0.Window, ha0.Urgent]).bind fun w =>
  cond (w)
    (
    (tcp_within 255 [ha0.Flags]).bind fun w1 =>
    cond (w1)
      (
      cond (((ha0.Options.length : Int).tmod 4) == 0)
        (
        some (decide ((ha0.Options.length : Int) ≤ 40)))
        (
        some (false)))
      (
      some (false)))
    (
    some (false))
def rx106 (x : Bool) : SRes := ⟨.bool x, [], []⟩
def r106 (g : tcp_Head → Option Bool) : Dec := dV uvtcp_Head fun (y0 : tcp_Head) => dEnd (ofG (g y0) rx106)
theorem r106_c {g : tcp_Head → Option Bool} {y0 : tcp_Head} {x : Bool} (hx : g y0 = some x) : r106 g [.agg ⟨[.int .i64 y0.SPort, .int .i64 y0.DPort, .int .u32 y0.Seq, .int .u32 y0.Ack, .int .i64 y0.Flags, .int .i64 y0.Window, .int .i64 y0.Urgent, .string ⟨⟨y0.Options⟩⟩]⟩] [] = some (rx106 x) := (dV_eq (uvtcp_Head_c _)).trans (ofG_eq hx)
def s106 (g : tcp_Head → Option Bool) : Summ := ⟨[.v], r106 g⟩
theorem r106_eq {g : tcp_Head → Option Bool} {y0 : tcp_Head} {x : Bool} (hx : g y0 = some x) : (s106 g).run [.agg ⟨[.int .i64 y0.SPort, .int .i64 y0.DPort, .int .u32 y0.Seq, .int .u32 y0.Ack, .int .i64 y0.Flags, .int .i64 y0.Window, .int .i64 y0.Urgent, .string ⟨⟨y0.Options⟩⟩]⟩] [] = some (rx106 x) := r106_c hx
abbrev sums106 (tcp_within : Int → (List Int) → Option Bool) : List (Nat × Summ) := [(126, s126 tcp_within)]
theorem leads106 (tcp_within : Int → (List Int) → Option Bool) (hS : SumsOK Try.prog (aget (sums106 tcp_within))) (ha0 : tcp_Head) (res : Bool) (h : tcp_Head_mayF tcp_within ha0 = some res) :
    Leads Try.prog 106 0 ⟨⟨106, 32, [(0, .agg ⟨[.int .i64 ha0.SPort, .int .i64 ha0.DPort, .int .u32 ha0.Seq, .int .u32 ha0.Ack, .int .i64 ha0.Flags, .int .i64 ha0.Window, .int .i64 ha0.Urgent, .string ⟨⟨ha0.Options⟩⟩]⟩)], [.code k106_3], [], false, none⟩, [], [], 0⟩ (fun v H _ => Res 0 (rx106 res) v H) := by
  unfold tcp_Head_mayF at h
  refine ev_ok tab_ok hS true 3000 ?_
  conv => whnf
  obtain ⟨w, hy, h2⟩ := obind.elim h; clear h; have h := h2; clear h2
  refine sumK.introF [] (sumRun_of (aqs := [.int .i64 65535, .slice (some ⟨0, 0, none⟩) ([ha0.SPort, ha0.DPort, ha0.Window, ha0.Urgent] : List Int).length 1]) (ws := [.win 1 0 (4 * 1) false]) (n := 0) (m := 0) (t' := 2) (ra_cons rfl rfl (ra_cons (by first | rfl | exact ra_allI rfl rfl (by first | rfl | omega) (by first | rfl | (simp; done)) | exact ra_slI rfl rfl (by first | rfl | omega) (by first | rfl | omega) (by first | omega | (simp at *; omega))) rfl ra_nil)) rfl (by rfl) (r126_eq hy) rfl rfl rfl rfl (wb_skip rfl wb_nil) an_nil rfl) ?_
  conv => whnf
  refine br.h2 h ?_ ?_ ?_
  · rfl
  · clear h; intro hb h; conv => whnf
    all_goals (cases h)
    all_goals exact Res.of [] rfl nw_0 (by decide) js_0 wr_0
  clear h; intro hb h; conv => whnf
  obtain ⟨w1, hy, h2⟩ := obind.elim h; clear h; have h := h2; clear h2
  refine sumK.introF [] (sumRun_of (aqs := [.int .i64 255, .slice (some ⟨0, 0, none⟩) ([ha0.Flags] : List Int).length 1]) (ws := [.win 2 0 (1 * 1) false]) (n := 0) (m := 0) (t' := 3) (ra_cons rfl rfl (ra_cons (by first | rfl | exact ra_allI rfl rfl (by first | rfl | omega) (by first | rfl | (simp; done)) | exact ra_slI rfl rfl (by first | rfl | omega) (by first | rfl | omega) (by first | omega | (simp at *; omega))) rfl ra_nil)) rfl (by rfl) (r126_eq hy) rfl rfl rfl rfl (wb_skip rfl wb_nil) an_nil rfl) ?_
  conv => whnf
  refine br.h2 h ?_ ?_ ?_
  · rfl
  · clear h; intro hb h; conv => whnf
    all_goals (cases h)
    all_goals exact Res.of [] rfl nw_0 (by decide) js_0 wr_0
  clear h; intro hb h; conv => whnf
  refine br.h h ?_ ?_ ?_
  · rfl
  · clear h; intro hb h; conv => whnf
    all_goals (cases h)
    all_goals exact Res.of [] rfl nw_0 (by decide) js_0 wr_0
  clear h; intro hb h; conv => whnf
  all_goals (cases h)
  all_goals exact Res.of [] rfl nw_0 (by decide) js_0 wr_0
theorem ok106 (tcp_within : Int → (List Int) → Option Bool) (hS : SumsOK Try.prog (aget (sums106 tcp_within))) : SumOK Try.prog 106 (s106 (tcp_Head_mayF tcp_within)) := by
  refine SumOK.of_leads tab_ok (fun ar os r ha hr => ?_) ⟨Try.f106, rfl, by decide, rfl⟩
  replace hr : r106 (tcp_Head_mayF tcp_within) ar (conts os) = some r := hr
  unfold r106 at hr
  generalize hc : conts os = C at hr
  have hq := dV.elim hr; clear hr; obtain ⟨v0, l1, y0, rfl, e0, hr⟩ := hq; obtain rfl := uvtcp_Head_eq _ _ e0
  have hq := dEnd.elim hr; clear hr; obtain ⟨rfl, rfl, hr⟩ := hq
  have hq := ofG.elim hr; clear hr; obtain ⟨x, h, rfl⟩ := hq
  obtain rfl := kinds_nil hc
  exact ⟨_, rfl, leads106 tcp_within hS _ x h⟩
def tcp_Head_may : tcp_Head → Option Bool := tcp_Head_mayF tcp_within
theorem lift106 : SumOK Try.prog 106 (s106 tcp_Head_may) := ok106 tcp_within (SumsOK.of_tab ⟨lift126, trivial⟩)
end Go.Vm.Code

namespace Go.Vm.Code
open Go Go.Vm Go.Proofs
set_option maxRecDepth 100000
set_option maxHeartbeats 4000000
set_option linter.unusedVariables false

/-! (cloakroom/tcp.Head).laid -/
def tcp_Head_laidF (octet_Put : Int → Int → Option (List UInt8)) (ha0 : tcp_Head) : Option (List UInt8) :=
  let t := wI .i64 (20 + (ha0.Options.length : Int))
  let t1 := iorI .u64 (wI .u64 ((wI .u64 ha0.SPort) * 2 ^ 16)) (wI .u64 ha0.DPort)
  (octet_Put t1 4).bind fun p =>
  let t2 := iorI .u64 (wI .u64 ((wI .u64 ha0.Seq) * 2 ^ 32)) (wI .u64 ha0.Ack)
  (octet_Put t2 8).bind fun p1 =>
  let t3 := wI .u64 ((wI .u64 ((wI .u64 t).tdiv 4)) * 2 ^ 12)
  (octet_Put (iorI .u64 t3 (wI .u64 ha0.Flags)) 2).bind fun p2 =>
  (octet_Put (wI .u64 ha0.Window) 2).bind fun p3 =>
  oreq (decide (p2.length + p3.length < 2 ^ 63)) <|
  oreq (decide (p.length + p1.length < 2 ^ 63)) <|
  oreq (decide ((p ++ p1).length + (p2 ++ p3).length < 2 ^ 63)) <|
  (octet_Put (wI .u64 ha0.Urgent) 4).bind fun p4 =>
  oreq (decide (((p ++ p1) ++ (p2 ++ p3)).length + p4.length < 2 ^ 63)) <|
  oreq (decide ((((p ++ p1) ++ (p2 ++ p3)) ++ p4).length + ha0.Options.length < 2 ^ 63)) <|
  let t4 := (((p ++ p1) ++ (p2 ++ p3)) ++ p4) ++ ha0.Options
  some (t4)
def rx107 (x : List UInt8) : SRes := ⟨.string ⟨⟨x⟩⟩, [], []⟩
def r107 (g : tcp_Head → Option (List UInt8)) : Dec := dV uvtcp_Head fun (y0 : tcp_Head) => dEnd (ofG (g y0) rx107)
theorem r107_c {g : tcp_Head → Option (List UInt8)} {y0 : tcp_Head} {x : List UInt8} (hx : g y0 = some x) : r107 g [.agg ⟨[.int .i64 y0.SPort, .int .i64 y0.DPort, .int .u32 y0.Seq, .int .u32 y0.Ack, .int .i64 y0.Flags, .int .i64 y0.Window, .int .i64 y0.Urgent, .string ⟨⟨y0.Options⟩⟩]⟩] [] = some (rx107 x) := (dV_eq (uvtcp_Head_c _)).trans (ofG_eq hx)
def s107 (g : tcp_Head → Option (List UInt8)) : Summ := ⟨[.v], r107 g⟩
theorem r107_eq {g : tcp_Head → Option (List UInt8)} {y0 : tcp_Head} {x : List UInt8} (hx : g y0 = some x) : (s107 g).run [.agg ⟨[.int .i64 y0.SPort, .int .i64 y0.DPort, .int .u32 y0.Seq, .int .u32 y0.Ack, .int .i64 y0.Flags, .int .i64 y0.Window, .int .i64 y0.Urgent, .string ⟨⟨y0.Options⟩⟩]⟩] [] = some (rx107 x) := r107_c hx
abbrev sums107 (octet_Put : Int → Int → Option (List UInt8)) : List (Nat × Summ) := [(62, s62 octet_Put)]
theorem leads107 (octet_Put : Int → Int → Option (List UInt8)) (hS : SumsOK Try.prog (aget (sums107 octet_Put))) (ha0 : tcp_Head) (res : List UInt8) (h : tcp_Head_laidF octet_Put ha0 = some res) :
    Leads Try.prog 107 0 ⟨⟨107, 56, [(0, .agg ⟨[.int .i64 ha0.SPort, .int .i64 ha0.DPort, .int .u32 ha0.Seq, .int .u32 ha0.Ack, .int .i64 ha0.Flags, .int .i64 ha0.Window, .int .i64 ha0.Urgent, .string ⟨⟨ha0.Options⟩⟩]⟩)], [.code k107_11], [], false, none⟩, [], [], 0⟩ (fun v H _ => Res 0 (rx107 res) v H) := by
  unfold tcp_Head_laidF at h
  refine ev_ok tab_ok hS true 3000 ?_
  conv => whnf
  let t : Int := wI .i64 (20 + (ha0.Options.length : Int))
  let t1 : Int := iorI .u64 (wI .u64 ((wI .u64 ha0.SPort) * 2 ^ 16)) (wI .u64 ha0.DPort)
  obtain ⟨p, hy, h2⟩ := obind.elim h; clear h; have h := h2; clear h2
  refine sumK.introF [] (sumRun_of (aqs := [.int .u64 t1, .int .i64 4]) (ws := []) (n := 0) (m := 0) (t' := 1) (ra_cons rfl rfl (ra_cons rfl rfl ra_nil)) rfl (by rfl) (r62_eq hy) rfl rfl rfl rfl wb_nil an_nil rfl) ?_
  conv => whnf
  let t2 : Int := iorI .u64 (wI .u64 ((wI .u64 ha0.Seq) * 2 ^ 32)) (wI .u64 ha0.Ack)
  obtain ⟨p1, hy, h2⟩ := obind.elim h; clear h; have h := h2; clear h2
  refine sumK.introF [] (sumRun_of (aqs := [.int .u64 t2, .int .i64 8]) (ws := []) (n := 0) (m := 0) (t' := 1) (ra_cons rfl rfl (ra_cons rfl rfl ra_nil)) rfl (by rfl) (r62_eq hy) rfl rfl rfl rfl wb_nil an_nil rfl) ?_
  conv => whnf
  let t3 : Int := wI .u64 ((wI .u64 ((wI .u64 t).tdiv 4)) * 2 ^ 12)
  obtain ⟨p2, hy, h2⟩ := obind.elim h; clear h; have h := h2; clear h2
  refine sumK.introF [] (sumRun_of (aqs := [.int .u64 (iorI .u64 t3 (wI .u64 ha0.Flags)), .int .i64 2]) (ws := []) (n := 0) (m := 0) (t' := 7) (ra_cons rfl rfl (ra_cons rfl rfl ra_nil)) rfl (by rfl) (r62_eq hy) rfl rfl rfl rfl wb_nil an_nil rfl) ?_
  conv => whnf
  obtain ⟨p3, hy, h2⟩ := obind.elim h; clear h; have h := h2; clear h2
  refine sumK.introF [] (sumRun_of (aqs := [.int .u64 (wI .u64 ha0.Window), .int .i64 2]) (ws := []) (n := 0) (m := 0) (t' := 11) (ra_cons rfl rfl (ra_cons rfl rfl ra_nil)) rfl (by rfl) (r62_eq hy) rfl rfl rfl rfl wb_nil an_nil rfl) ?_
  conv => whnf
  replace h := oreq.elim h; have hb := h.1; replace h := h.2
  first | (refine req.intro hb ?_; conv => whnf) | skip
  replace h := oreq.elim h; have hb := h.1; replace h := h.2
  first | (refine req.intro hb ?_; conv => whnf) | skip
  replace h := oreq.elim h; have hb := h.1; replace h := h.2
  first | (refine req.intro hb ?_; conv => whnf) | skip
  obtain ⟨p4, hy, h2⟩ := obind.elim h; clear h; have h := h2; clear h2
  refine sumK.introF [] (sumRun_of (aqs := [.int .u64 (wI .u64 ha0.Urgent), .int .i64 4]) (ws := []) (n := 0) (m := 0) (t' := 19) (ra_cons rfl rfl (ra_cons rfl rfl ra_nil)) rfl (by rfl) (r62_eq hy) rfl rfl rfl rfl wb_nil an_nil rfl) ?_
  conv => whnf
  replace h := oreq.elim h; have hb := h.1; replace h := h.2
  first | (refine req.intro hb ?_; conv => whnf) | skip
  replace h := oreq.elim h; have hb := h.1; replace h := h.2
  first | (refine req.intro hb ?_; conv => whnf) | skip
  let t4 : List UInt8 := (((p ++ p1) ++ (p2 ++ p3)) ++ p4) ++ ha0.Options
  all_goals (cases h)
  all_goals exact Res.of [] rfl nw_0 (by decide) js_0 wr_0
theorem ok107 (octet_Put : Int → Int → Option (List UInt8)) (hS : SumsOK Try.prog (aget (sums107 octet_Put))) : SumOK Try.prog 107 (s107 (tcp_Head_laidF octet_Put)) := by
  refine SumOK.of_leads tab_ok (fun ar os r ha hr => ?_) ⟨Try.f107, rfl, by decide, rfl⟩
  replace hr : r107 (tcp_Head_laidF octet_Put) ar (conts os) = some r := hr
  unfold r107 at hr
  generalize hc : conts os = C at hr
  have hq := dV.elim hr; clear hr; obtain ⟨v0, l1, y0, rfl, e0, hr⟩ := hq; obtain rfl := uvtcp_Head_eq _ _ e0
  have hq := dEnd.elim hr; clear hr; obtain ⟨rfl, rfl, hr⟩ := hq
  have hq := ofG.elim hr; clear hr; obtain ⟨x, h, rfl⟩ := hq
  obtain rfl := kinds_nil hc
  exact ⟨_, rfl, leads107 octet_Put hS _ x h⟩
def tcp_Head_laid : tcp_Head → Option (List UInt8) := tcp_Head_laidF octet_Put
theorem lift107 : SumOK Try.prog 107 (s107 tcp_Head_laid) := ok107 octet_Put (SumsOK.of_tab ⟨lift62, trivial⟩)
end Go.Vm.Code

namespace Go.Vm.Code
open Go Go.Vm Go.Proofs
set_option maxRecDepth 100000
set_option maxHeartbeats 4000000
set_option linter.unusedVariables false

/-! cloakroom/tcp.Put -/
def tcp_PutF (check_Of : (List UInt8) → Option Int) (check_Set : (List UInt8) → Int → Int → Int → Option (List UInt8)) (ipfour_Pseudo : api_Addr → api_Addr → Int → Int → Option (List UInt8)) (tcp_Head_laid : tcp_Head → Option (List UInt8)) (tcp_Head_may : tcp_Head → Option Bool) (ha0 : tcp_Head) (src : api_Addr) (dst : api_Addr) (payload : List UInt8) : Option ((List UInt8) × Int) :=
  let t := wI .i64 (20 + (ha0.Options.length : Int))
  (ipfour_Pseudo src dst 6 (wI .i64 (t + (payload.length : Int)))).bind fun p =>
  (tcp_Head_may ha0).bind fun m =>
  cond (!m)
    (
    some (([], 1)))
    (
    cond (p == [])
      (
      some (([], 1)))
      (
      let t1 := decide ((payload.length : Int) > (wI .i64 (65535 - t)))
      cond (t1)
        (
        some (([], 5)))
        (
        (tcp_Head_laid ha0).bind fun l =>
        oreq (decide (l.length + payload.length < 2 ^ 63)) <|
        oreq (decide (p.length + (l ++ payload).length < 2 ^ 63)) <|
        (check_Of (p ++ (l ++ payload))).bind fun xo =>
        (check_Set (l ++ payload) 16 2 (wI .u64 xo)).bind fun s =>
        some ((s, 0)))))
def rx48 (x : (List UInt8) × Int) : SRes := ⟨.tuple ⟨[.string ⟨⟨x.1⟩⟩, .int .i64 x.2]⟩, [], []⟩
def r48 (g : tcp_Head → api_Addr → api_Addr → (List UInt8) → Option ((List UInt8) × Int)) : Dec := dV uvtcp_Head fun (y0 : tcp_Head) => dV uvapi_Addr fun (y1 : api_Addr) => dV uvapi_Addr fun (y2 : api_Addr) => dV asS fun (y3 : List UInt8) => dEnd (ofG (g y0 y1 y2 y3) rx48)
theorem r48_c {g : tcp_Head → api_Addr → api_Addr → (List UInt8) → Option ((List UInt8) × Int)} {y0 : tcp_Head} {y1 : api_Addr} {y2 : api_Addr} {y3 : List UInt8} {x : (List UInt8) × Int} (hx : g y0 y1 y2 y3 = some x) : r48 g [.agg ⟨[.int .i64 y0.SPort, .int .i64 y0.DPort, .int .u32 y0.Seq, .int .u32 y0.Ack, .int .i64 y0.Flags, .int .i64 y0.Window, .int .i64 y0.Urgent, .string ⟨⟨y0.Options⟩⟩]⟩, .agg ⟨[.bool y1.V6, .int .u64 y1.Hi, .int .u64 y1.Lo]⟩, .agg ⟨[.bool y2.V6, .int .u64 y2.Hi, .int .u64 y2.Lo]⟩, .string ⟨⟨y3⟩⟩] [] = some (rx48 x) := (dV_eq (uvtcp_Head_c _)).trans ((dV_eq (uvapi_Addr_c _)).trans ((dV_eq (uvapi_Addr_c _)).trans ((dV_eq (asS_c)).trans (ofG_eq hx))))
def s48 (g : tcp_Head → api_Addr → api_Addr → (List UInt8) → Option ((List UInt8) × Int)) : Summ := ⟨[.v, .v, .v, .v], r48 g⟩
theorem r48_eq {g : tcp_Head → api_Addr → api_Addr → (List UInt8) → Option ((List UInt8) × Int)} {y0 : tcp_Head} {y1 : api_Addr} {y2 : api_Addr} {y3 : List UInt8} {x : (List UInt8) × Int} (hx : g y0 y1 y2 y3 = some x) : (s48 g).run [.agg ⟨[.int .i64 y0.SPort, .int .i64 y0.DPort, .int .u32 y0.Seq, .int .u32 y0.Ack, .int .i64 y0.Flags, .int .i64 y0.Window, .int .i64 y0.Urgent, .string ⟨⟨y0.Options⟩⟩]⟩, .agg ⟨[.bool y1.V6, .int .u64 y1.Hi, .int .u64 y1.Lo]⟩, .agg ⟨[.bool y2.V6, .int .u64 y2.Hi, .int .u64 y2.Lo]⟩, .string ⟨⟨y3⟩⟩] [] = some (rx48 x) := r48_c hx
abbrev sums48 (check_Of : (List UInt8) → Option Int) (check_Set : (List UInt8) → Int → Int → Int → Option (List UInt8)) (ipfour_Pseudo : api_Addr → api_Addr → Int → Int → Option (List UInt8)) (tcp_Head_laid : tcp_Head → Option (List UInt8)) (tcp_Head_may : tcp_Head → Option Bool) : List (Nat × Summ) := [(64, s64 check_Of), (65, s65 check_Set), (27, s27 ipfour_Pseudo), (107, s107 tcp_Head_laid), (106, s106 tcp_Head_may)]
theorem leads48 (check_Of : (List UInt8) → Option Int) (check_Set : (List UInt8) → Int → Int → Int → Option (List UInt8)) (ipfour_Pseudo : api_Addr → api_Addr → Int → Int → Option (List UInt8)) (tcp_Head_laid : tcp_Head → Option (List UInt8)) (tcp_Head_may : tcp_Head → Option Bool) (hS : SumsOK Try.prog (aget (sums48 check_Of check_Set ipfour_Pseudo tcp_Head_laid tcp_Head_may))) (ha0 : tcp_Head) (src : api_Addr) (dst : api_Addr) (payload : List UInt8) (res : (List UInt8) × Int) (h : tcp_PutF check_Of check_Set ipfour_Pseudo tcp_Head_laid tcp_Head_may ha0 src dst payload = some res) :
    Leads Try.prog 48 0 ⟨⟨48, 49, [(0, .agg ⟨[.int .i64 ha0.SPort, .int .i64 ha0.DPort, .int .u32 ha0.Seq, .int .u32 ha0.Ack, .int .i64 ha0.Flags, .int .i64 ha0.Window, .int .i64 ha0.Urgent, .string ⟨⟨ha0.Options⟩⟩]⟩), (1, .agg ⟨[.bool src.V6, .int .u64 src.Hi, .int .u64 src.Lo]⟩), (2, .agg ⟨[.bool dst.V6, .int .u64 dst.Hi, .int .u64 dst.Lo]⟩), (3, .string ⟨⟨payload⟩⟩)], [.code k48_21], [], false, none⟩, [], [], 0⟩ (fun v H _ => Res 0 (rx48 res) v H) := by
  unfold tcp_PutF at h
  refine ev_ok tab_ok hS true 3000 ?_
  conv => whnf
  let t : Int := wI .i64 (20 + (ha0.Options.length : Int))
  obtain ⟨p, hy, h2⟩ := obind.elim h; clear h; have h := h2; clear h2
  refine sumK.introF [] (sumRun_of (aqs := [.agg ⟨[.bool src.V6, .int .u64 src.Hi, .int .u64 src.Lo]⟩, .agg ⟨[.bool dst.V6, .int .u64 dst.Hi, .int .u64 dst.Lo]⟩, .int .i64 6, .int .i64 (wI .i64 (t + (payload.length : Int)))]) (ws := []) (n := 0) (m := 0) (t' := 3) (ra_cons rfl rfl (ra_cons rfl rfl (ra_cons rfl rfl (ra_cons rfl rfl ra_nil)))) rfl (by rfl) (r27_eq hy) rfl rfl rfl rfl wb_nil an_nil rfl) ?_
  conv => whnf
  obtain ⟨m, hy, h2⟩ := obind.elim h; clear h; have h := h2; clear h2
  refine sumK.introF [] (sumRun_of (aqs := [.agg ⟨[.int .i64 ha0.SPort, .int .i64 ha0.DPort, .int .u32 ha0.Seq, .int .u32 ha0.Ack, .int .i64 ha0.Flags, .int .i64 ha0.Window, .int .i64 ha0.Urgent, .string ⟨⟨ha0.Options⟩⟩]⟩]) (ws := []) (n := 0) (m := 0) (t' := 3) (ra_cons rfl rfl ra_nil) rfl (by rfl) (r106_eq hy) rfl rfl rfl rfl wb_nil an_nil rfl) ?_
  conv => whnf
  refine br.h h ?_ ?_ ?_
  · rfl
  · clear h; intro hb h; conv => whnf
    all_goals (cases h)
    all_goals exact Res.of [] rfl nw_0 (by decide) js_0 wr_0
  clear h; intro hb h; conv => whnf
  refine br.h h ?_ ?_ ?_
  · rfl
  · clear h; intro hb h; conv => whnf
    all_goals (cases h)
    all_goals exact Res.of [] rfl nw_0 (by decide) js_0 wr_0
  clear h; intro hb h; conv => whnf
  let t1 : Bool := decide ((payload.length : Int) > (wI .i64 (65535 - t)))
  refine br.h h ?_ ?_ ?_
  · rfl
  · clear h; intro hb h; conv => whnf
    all_goals (cases h)
    all_goals exact Res.of [] rfl nw_0 (by decide) js_0 wr_0
  clear h; intro hb h; conv => whnf
  obtain ⟨l, hy, h2⟩ := obind.elim h; clear h; have h := h2; clear h2
  refine sumK.introF [] (sumRun_of (aqs := [.agg ⟨[.int .i64 ha0.SPort, .int .i64 ha0.DPort, .int .u32 ha0.Seq, .int .u32 ha0.Ack, .int .i64 ha0.Flags, .int .i64 ha0.Window, .int .i64 ha0.Urgent, .string ⟨⟨ha0.Options⟩⟩]⟩]) (ws := []) (n := 0) (m := 0) (t' := 3) (ra_cons rfl rfl ra_nil) rfl (by rfl) (r107_eq hy) rfl rfl rfl rfl wb_nil an_nil rfl) ?_
  conv => whnf
  replace h := oreq.elim h; have hb := h.1; replace h := h.2
  first | (refine req.intro hb ?_; conv => whnf) | skip
  replace h := oreq.elim h; have hb := h.1; replace h := h.2
  first | (refine req.intro hb ?_; conv => whnf) | skip
  obtain ⟨xo, hy, h2⟩ := obind.elim h; clear h; have h := h2; clear h2
  refine sumK.introF [] (sumRun_of (aqs := [.string ⟨⟨p ++ (l ++ payload)⟩⟩]) (ws := []) (n := 0) (m := 0) (t' := 3) (ra_cons rfl rfl ra_nil) rfl (by rfl) (r64_eq hy) rfl rfl rfl rfl wb_nil an_nil rfl) ?_
  conv => whnf
  obtain ⟨s, hy, h2⟩ := obind.elim h; clear h; have h := h2; clear h2
  refine sumK.introF [] (sumRun_of (aqs := [.string ⟨⟨l ++ payload⟩⟩, .int .i64 16, .int .i64 2, .int .u64 (wI .u64 xo)]) (ws := []) (n := 0) (m := 0) (t' := 3) (ra_cons rfl rfl (ra_cons rfl rfl (ra_cons rfl rfl (ra_cons rfl rfl ra_nil)))) rfl (by rfl) (r65_eq hy) rfl rfl rfl rfl wb_nil an_nil rfl) ?_
  conv => whnf
  all_goals (cases h)
  all_goals exact Res.of [] rfl nw_0 (by decide) js_0 wr_0
theorem ok48 (check_Of : (List UInt8) → Option Int) (check_Set : (List UInt8) → Int → Int → Int → Option (List UInt8)) (ipfour_Pseudo : api_Addr → api_Addr → Int → Int → Option (List UInt8)) (tcp_Head_laid : tcp_Head → Option (List UInt8)) (tcp_Head_may : tcp_Head → Option Bool) (hS : SumsOK Try.prog (aget (sums48 check_Of check_Set ipfour_Pseudo tcp_Head_laid tcp_Head_may))) : SumOK Try.prog 48 (s48 (tcp_PutF check_Of check_Set ipfour_Pseudo tcp_Head_laid tcp_Head_may)) := by
  refine SumOK.of_leads tab_ok (fun ar os r ha hr => ?_) ⟨Try.f48, rfl, by decide, rfl⟩
  replace hr : r48 (tcp_PutF check_Of check_Set ipfour_Pseudo tcp_Head_laid tcp_Head_may) ar (conts os) = some r := hr
  unfold r48 at hr
  generalize hc : conts os = C at hr
  have hq := dV.elim hr; clear hr; obtain ⟨v0, l1, y0, rfl, e0, hr⟩ := hq; obtain rfl := uvtcp_Head_eq _ _ e0
  have hq := dV.elim hr; clear hr; obtain ⟨v1, l2, y1, rfl, e1, hr⟩ := hq; obtain rfl := uvapi_Addr_eq _ _ e1
  have hq := dV.elim hr; clear hr; obtain ⟨v2, l3, y2, rfl, e2, hr⟩ := hq; obtain rfl := uvapi_Addr_eq _ _ e2
  have hq := dV.elim hr; clear hr; obtain ⟨v3, l4, y3, rfl, e3, hr⟩ := hq; obtain rfl := asS_eq _ _ e3
  have hq := dEnd.elim hr; clear hr; obtain ⟨rfl, rfl, hr⟩ := hq
  have hq := ofG.elim hr; clear hr; obtain ⟨x, h, rfl⟩ := hq
  obtain rfl := kinds_nil hc
  exact ⟨_, rfl, leads48 check_Of check_Set ipfour_Pseudo tcp_Head_laid tcp_Head_may hS _ _ _ _ x h⟩
def tcp_Put : tcp_Head → api_Addr → api_Addr → (List UInt8) → Option ((List UInt8) × Int) := tcp_PutF check_Of check_Set ipfour_Pseudo tcp_Head_laid tcp_Head_may
theorem lift48 : SumOK Try.prog 48 (s48 tcp_Put) := ok48 check_Of check_Set ipfour_Pseudo tcp_Head_laid tcp_Head_may (SumsOK.of_tab ⟨lift64, lift65, lift27, lift107, lift106, trivial⟩)
end Go.Vm.Code

namespace Go.Vm.Code
open Go Go.Vm Go.Proofs
set_option maxRecDepth 100000
set_option maxHeartbeats 4000000
set_option linter.unusedVariables false

/-! cloakroom/tcp.parsed -/
def tcp_parsedF (octet_New : (List UInt8) → Option octet_Reader) (octet_Reader_Num : octet_Reader → Int → Option (Int × octet_Reader)) (octet_Reader_Text : octet_Reader → Int → Option ((List UInt8) × octet_Reader)) (s : List UInt8) (size : Int) : Option tcp_Head :=
  (octet_New s).bind fun n =>
  (octet_Reader_Num n 2).bind fun n1 =>
  (octet_Reader_Num n1.2 2).bind fun n2 =>
  (octet_Reader_Num n2.2 4).bind fun n3 =>
  (octet_Reader_Num n3.2 4).bind fun n4 =>
  (octet_Reader_Num n4.2 2).bind fun n5 =>
  (octet_Reader_Num n5.2 2).bind fun n6 =>
  (octet_Reader_Num n6.2 2).bind fun n7 =>
  (octet_Reader_Num n7.2 2).bind fun n8 =>
  (octet_Reader_Text n8.2 (wI .i64 (size - 20))).bind fun t =>
  some (tcp_Head.mk n1.1 n2.1 (wI .u32 n3.1) (wI .u32 n4.1) (andI .i64 n5.1 255) n6.1 n8.1 t.1)
def rx110 (x : tcp_Head) : SRes := ⟨.agg ⟨[.int .i64 x.SPort, .int .i64 x.DPort, .int .u32 x.Seq, .int .u32 x.Ack, .int .i64 x.Flags, .int .i64 x.Window, .int .i64 x.Urgent, .string ⟨⟨x.Options⟩⟩]⟩, [], []⟩
def r110 (g : (List UInt8) → Int → Option tcp_Head) : Dec := dV asS fun (y0 : List UInt8) => dV (asI .i64) fun (y1 : Int) => dEnd (ofG (g y0 y1) rx110)
theorem r110_c {g : (List UInt8) → Int → Option tcp_Head} {y0 : List UInt8} {y1 : Int} {x : tcp_Head} (hx : g y0 y1 = some x) : r110 g [.string ⟨⟨y0⟩⟩, .int .i64 y1] [] = some (rx110 x) := (dV_eq (asS_c)).trans ((dV_eq (asI_c _)).trans (ofG_eq hx))
def s110 (g : (List UInt8) → Int → Option tcp_Head) : Summ := ⟨[.v, .v], r110 g⟩
theorem r110_eq {g : (List UInt8) → Int → Option tcp_Head} {y0 : List UInt8} {y1 : Int} {x : tcp_Head} (hx : g y0 y1 = some x) : (s110 g).run [.string ⟨⟨y0⟩⟩, .int .i64 y1] [] = some (rx110 x) := r110_c hx
abbrev sums110 (octet_New : (List UInt8) → Option octet_Reader) (octet_Reader_Num : octet_Reader → Int → Option (Int × octet_Reader)) (octet_Reader_Text : octet_Reader → Int → Option ((List UInt8) × octet_Reader)) : List (Nat × Summ) := [(70, s70 octet_New), (71, s71 octet_Reader_Num), (83, s83 octet_Reader_Text)]
theorem leads110 (octet_New : (List UInt8) → Option octet_Reader) (octet_Reader_Num : octet_Reader → Int → Option (Int × octet_Reader)) (octet_Reader_Text : octet_Reader → Int → Option ((List UInt8) × octet_Reader)) (hS : SumsOK Try.prog (aget (sums110 octet_New octet_Reader_Num octet_Reader_Text))) (s : List UInt8) (size : Int) (res : tcp_Head) (h : tcp_parsedF octet_New octet_Reader_Num octet_Reader_Text s size = some res) :
    Leads Try.prog 110 0 ⟨⟨110, 38, [(0, .string ⟨⟨s⟩⟩), (1, .int .i64 size)], [.code k110_17], [], false, none⟩, [], [], 0⟩ (fun v H _ => Res 0 (rx110 res) v H) := by
  unfold tcp_parsedF at h
  refine ev_ok tab_ok hS true 3000 ?_
  conv => whnf
  obtain ⟨n, hy, h2⟩ := obind.elim h; clear h; have h := h2; clear h2
  refine sumK.introF [1] (sumRun_of (aqs := [.string ⟨⟨s⟩⟩]) (ws := []) (n := 1) (m := 0) (t' := 2) (ra_cons rfl rfl ra_nil) rfl (by rfl) (r70_eq hy) rfl rfl rfl rfl wb_nil (an_cons (rfl) an_nil) rfl) ?_
  conv => whnf
  obtain ⟨n1, hy, h2⟩ := obind.elim h; clear h; have h := h2; clear h2
  refine sumK.introF [1] (sumRun_of (aqs := [.pointer (some ⟨0, 0, none⟩), .int .i64 2]) (ws := [.win 1 0 3 true]) (n := 0) (m := 0) (t' := 2) (ra_cons rfl rfl (ra_cons rfl rfl ra_nil)) rfl (by rfl) (r71_eq hy) rfl rfl rfl rfl (wb_win rfl rfl rfl ⟨rfl, Nat.le_of_ble_eq_true rfl⟩ rfl rfl wb_nil) an_nil rfl) ?_
  conv => whnf
  obtain ⟨n2, hy, h2⟩ := obind.elim h; clear h; have h := h2; clear h2
  refine sumK.introF [1] (sumRun_of (aqs := [.pointer (some ⟨0, 0, none⟩), .int .i64 2]) (ws := [.win 1 0 3 true]) (n := 0) (m := 0) (t' := 2) (ra_cons rfl rfl (ra_cons rfl rfl ra_nil)) rfl (by rfl) (r71_eq hy) rfl rfl rfl rfl (wb_win rfl rfl rfl ⟨rfl, Nat.le_of_ble_eq_true rfl⟩ rfl rfl wb_nil) an_nil rfl) ?_
  conv => whnf
  obtain ⟨n3, hy, h2⟩ := obind.elim h; clear h; have h := h2; clear h2
  refine sumK.introF [1] (sumRun_of (aqs := [.pointer (some ⟨0, 0, none⟩), .int .i64 4]) (ws := [.win 1 0 3 true]) (n := 0) (m := 0) (t' := 2) (ra_cons rfl rfl (ra_cons rfl rfl ra_nil)) rfl (by rfl) (r71_eq hy) rfl rfl rfl rfl (wb_win rfl rfl rfl ⟨rfl, Nat.le_of_ble_eq_true rfl⟩ rfl rfl wb_nil) an_nil rfl) ?_
  conv => whnf
  obtain ⟨n4, hy, h2⟩ := obind.elim h; clear h; have h := h2; clear h2
  refine sumK.introF [1] (sumRun_of (aqs := [.pointer (some ⟨0, 0, none⟩), .int .i64 4]) (ws := [.win 1 0 3 true]) (n := 0) (m := 0) (t' := 2) (ra_cons rfl rfl (ra_cons rfl rfl ra_nil)) rfl (by rfl) (r71_eq hy) rfl rfl rfl rfl (wb_win rfl rfl rfl ⟨rfl, Nat.le_of_ble_eq_true rfl⟩ rfl rfl wb_nil) an_nil rfl) ?_
  conv => whnf
  obtain ⟨n5, hy, h2⟩ := obind.elim h; clear h; have h := h2; clear h2
  refine sumK.introF [1] (sumRun_of (aqs := [.pointer (some ⟨0, 0, none⟩), .int .i64 2]) (ws := [.win 1 0 3 true]) (n := 0) (m := 0) (t' := 3) (ra_cons rfl rfl (ra_cons rfl rfl ra_nil)) rfl (by rfl) (r71_eq hy) rfl rfl rfl rfl (wb_win rfl rfl rfl ⟨rfl, Nat.le_of_ble_eq_true rfl⟩ rfl rfl wb_nil) an_nil rfl) ?_
  conv => whnf
  obtain ⟨n6, hy, h2⟩ := obind.elim h; clear h; have h := h2; clear h2
  refine sumK.introF [1] (sumRun_of (aqs := [.pointer (some ⟨0, 0, none⟩), .int .i64 2]) (ws := [.win 1 0 3 true]) (n := 0) (m := 0) (t' := 3) (ra_cons rfl rfl (ra_cons rfl rfl ra_nil)) rfl (by rfl) (r71_eq hy) rfl rfl rfl rfl (wb_win rfl rfl rfl ⟨rfl, Nat.le_of_ble_eq_true rfl⟩ rfl rfl wb_nil) an_nil rfl) ?_
  conv => whnf
  obtain ⟨n7, hy, h2⟩ := obind.elim h; clear h; have h := h2; clear h2
  refine sumK.introF [1] (sumRun_of (aqs := [.pointer (some ⟨0, 0, none⟩), .int .i64 2]) (ws := [.win 1 0 3 true]) (n := 0) (m := 0) (t' := 3) (ra_cons rfl rfl (ra_cons rfl rfl ra_nil)) rfl (by rfl) (r71_eq hy) rfl rfl rfl rfl (wb_win rfl rfl rfl ⟨rfl, Nat.le_of_ble_eq_true rfl⟩ rfl rfl wb_nil) an_nil rfl) ?_
  conv => whnf
  obtain ⟨n8, hy, h2⟩ := obind.elim h; clear h; have h := h2; clear h2
  refine sumK.introF [1] (sumRun_of (aqs := [.pointer (some ⟨0, 0, none⟩), .int .i64 2]) (ws := [.win 1 0 3 true]) (n := 0) (m := 0) (t' := 3) (ra_cons rfl rfl (ra_cons rfl rfl ra_nil)) rfl (by rfl) (r71_eq hy) rfl rfl rfl rfl (wb_win rfl rfl rfl ⟨rfl, Nat.le_of_ble_eq_true rfl⟩ rfl rfl wb_nil) an_nil rfl) ?_
  conv => whnf
  obtain ⟨t, hy, h2⟩ := obind.elim h; clear h; have h := h2; clear h2
  refine sumK.introF [1] (sumRun_of (aqs := [.pointer (some ⟨0, 0, none⟩), .int .i64 (wI .i64 (size - 20))]) (ws := [.win 1 0 3 true]) (n := 0) (m := 0) (t' := 3) (ra_cons rfl rfl (ra_cons rfl rfl ra_nil)) rfl (by rfl) (r83_eq hy) rfl rfl rfl rfl (wb_win rfl rfl rfl ⟨rfl, Nat.le_of_ble_eq_true rfl⟩ rfl rfl wb_nil) an_nil rfl) ?_
  conv => whnf
  all_goals (cases h)
  all_goals exact Res.of [] rfl nw_0 (by decide) js_0 wr_0
theorem ok110 (octet_New : (List UInt8) → Option octet_Reader) (octet_Reader_Num : octet_Reader → Int → Option (Int × octet_Reader)) (octet_Reader_Text : octet_Reader → Int → Option ((List UInt8) × octet_Reader)) (hS : SumsOK Try.prog (aget (sums110 octet_New octet_Reader_Num octet_Reader_Text))) : SumOK Try.prog 110 (s110 (tcp_parsedF octet_New octet_Reader_Num octet_Reader_Text)) := by
  refine SumOK.of_leads tab_ok (fun ar os r ha hr => ?_) ⟨Try.f110, rfl, by decide, rfl⟩
  replace hr : r110 (tcp_parsedF octet_New octet_Reader_Num octet_Reader_Text) ar (conts os) = some r := hr
  unfold r110 at hr
  generalize hc : conts os = C at hr
  have hq := dV.elim hr; clear hr; obtain ⟨v0, l1, y0, rfl, e0, hr⟩ := hq; obtain rfl := asS_eq _ _ e0
  have hq := dV.elim hr; clear hr; obtain ⟨v1, l2, y1, rfl, e1, hr⟩ := hq; obtain rfl := asI_eq _ _ _ e1
  have hq := dEnd.elim hr; clear hr; obtain ⟨rfl, rfl, hr⟩ := hq
  have hq := ofG.elim hr; clear hr; obtain ⟨x, h, rfl⟩ := hq
  obtain rfl := kinds_nil hc
  exact ⟨_, rfl, leads110 octet_New octet_Reader_Num octet_Reader_Text hS _ _ x h⟩
def tcp_parsed : (List UInt8) → Int → Option tcp_Head := tcp_parsedF octet_New octet_Reader_Num octet_Reader_Text
theorem lift110 : SumOK Try.prog 110 (s110 tcp_parsed) := ok110 octet_New octet_Reader_Num octet_Reader_Text (SumsOK.of_tab ⟨lift70, lift71, lift83, trivial⟩)
end Go.Vm.Code

namespace Go.Vm.Code
open Go Go.Vm Go.Proofs
set_option maxRecDepth 100000
set_option maxHeartbeats 4000000
set_option linter.unusedVariables false

/-! cloakroom/tcp.Get -/
def tcp_GetF (check_Right : (List UInt8) → Option Bool) (ipfour_Pseudo : api_Addr → api_Addr → Int → Int → Option (List UInt8)) (tcp_List : (List UInt8) → Option ((List tcp_Opt) × Int)) (tcp_parsed : (List UInt8) → Int → Option tcp_Head) (s : List UInt8) (src : api_Addr) (dst : api_Addr) : Option (tcp_Head × (List UInt8) × Int) :=
  cond (decide ((s.length : Int) < 20))
    (
    some ((tcp_Head.mk 0 0 0 0 0 0 0 [], [], 2)))
    (
    (s[12]?).bind fun (b : UInt8) =>
    (s[12]?).bind fun (b1 : UInt8) =>
    let t := wI .i64 (4 * (wI .i64 ((b.toNat : Int).fdiv (2 ^ 4))))
    cond (decide (t < 20))
      (
      some ((tcp_Head.mk 0 0 0 0 0 0 0 [], [], 3)))
      (
      cond ((andI .u8 (b1.toNat : Int) 15) != 0)
        (
        some ((tcp_Head.mk 0 0 0 0 0 0 0 [], [], 3)))
        (
        cond (decide (t > (s.length : Int)))
          (
          some ((tcp_Head.mk 0 0 0 0 0 0 0 [], [], 2)))
          (
          (ipfour_Pseudo src dst 6 (s.length : Int)).bind fun p =>
          cond (p == [])
            (
            some ((tcp_Head.mk 0 0 0 0 0 0 0 [], [], 1)))
            (
            oreq (decide (p.length + s.length < 2 ^ 63)) <|
            (check_Right (p ++ s)).bind fun xr =>
            cond (!xr)
              (
              some ((tcp_Head.mk 0 0 0 0 0 0 0 [], [], 4)))
              (
              (tcp_parsed s t).bind fun p1 =>
              (tcp_List p1.Options).bind fun l =>
              cond (l.2 != 0)
                (
                some ((tcp_Head.mk 0 0 0 0 0 0 0 [], [], l.2)))
                (
                oreq (decide ((0 : Int) ≤ t ∧ t ≤ (s.length : Int))) <|
                let t1 := (s.drop t.toNat).take (s.length - t.toNat)
                some ((p1, t1, 0)))))))))
def rx51 (x : tcp_Head × (List UInt8) × Int) : SRes := ⟨.tuple ⟨[.agg ⟨[.int .i64 x.1.SPort, .int .i64 x.1.DPort, .int .u32 x.1.Seq, .int .u32 x.1.Ack, .int .i64 x.1.Flags, .int .i64 x.1.Window, .int .i64 x.1.Urgent, .string ⟨⟨x.1.Options⟩⟩]⟩, .string ⟨⟨x.2.1⟩⟩, .int .i64 x.2.2]⟩, [], []⟩
def r51 (g : (List UInt8) → api_Addr → api_Addr → Option (tcp_Head × (List UInt8) × Int)) : Dec := dV asS fun (y0 : List UInt8) => dV uvapi_Addr fun (y1 : api_Addr) => dV uvapi_Addr fun (y2 : api_Addr) => dEnd (ofG (g y0 y1 y2) rx51)
theorem r51_c {g : (List UInt8) → api_Addr → api_Addr → Option (tcp_Head × (List UInt8) × Int)} {y0 : List UInt8} {y1 : api_Addr} {y2 : api_Addr} {x : tcp_Head × (List UInt8) × Int} (hx : g y0 y1 y2 = some x) : r51 g [.string ⟨⟨y0⟩⟩, .agg ⟨[.bool y1.V6, .int .u64 y1.Hi, .int .u64 y1.Lo]⟩, .agg ⟨[.bool y2.V6, .int .u64 y2.Hi, .int .u64 y2.Lo]⟩] [] = some (rx51 x) := (dV_eq (asS_c)).trans ((dV_eq (uvapi_Addr_c _)).trans ((dV_eq (uvapi_Addr_c _)).trans (ofG_eq hx)))
def s51 (g : (List UInt8) → api_Addr → api_Addr → Option (tcp_Head × (List UInt8) × Int)) : Summ := ⟨[.v, .v, .v], r51 g⟩
theorem r51_eq {g : (List UInt8) → api_Addr → api_Addr → Option (tcp_Head × (List UInt8) × Int)} {y0 : List UInt8} {y1 : api_Addr} {y2 : api_Addr} {x : tcp_Head × (List UInt8) × Int} (hx : g y0 y1 y2 = some x) : (s51 g).run [.string ⟨⟨y0⟩⟩, .agg ⟨[.bool y1.V6, .int .u64 y1.Hi, .int .u64 y1.Lo]⟩, .agg ⟨[.bool y2.V6, .int .u64 y2.Hi, .int .u64 y2.Lo]⟩] [] = some (rx51 x) := r51_c hx
abbrev sums51 (check_Right : (List UInt8) → Option Bool) (ipfour_Pseudo : api_Addr → api_Addr → Int → Int → Option (List UInt8)) (tcp_List : (List UInt8) → Option ((List tcp_Opt) × Int)) (tcp_parsed : (List UInt8) → Int → Option tcp_Head) : List (Nat × Summ) := [(73, s73 check_Right), (27, s27 ipfour_Pseudo), (54, s54 tcp_List), (110, s110 tcp_parsed)]
theorem leads51 (check_Right : (List UInt8) → Option Bool) (ipfour_Pseudo : api_Addr → api_Addr → Int → Int → Option (List UInt8)) (tcp_List : (List UInt8) → Option ((List tcp_Opt) × Int)) (tcp_parsed : (List UInt8) → Int → Option tcp_Head) (hS : SumsOK Try.prog (aget (sums51 check_Right ipfour_Pseudo tcp_List tcp_parsed))) (s : List UInt8) (src : api_Addr) (dst : api_Addr) (res : tcp_Head × (List UInt8) × Int) (h : tcp_GetF check_Right ipfour_Pseudo tcp_List tcp_parsed s src dst = some res) :
    Leads Try.prog 51 0 ⟨⟨51, 76, [(0, .string ⟨⟨s⟩⟩), (1, .agg ⟨[.bool src.V6, .int .u64 src.Hi, .int .u64 src.Lo]⟩), (2, .agg ⟨[.bool dst.V6, .int .u64 dst.Hi, .int .u64 dst.Lo]⟩)], [.code k51_49], [], false, none⟩, [], [], 0⟩ (fun v H _ => Res 0 (rx51 res) v H) := by
  unfold tcp_GetF at h
  refine ev_ok tab_ok hS true 3000 ?_
  conv => whnf
  refine br.h h ?_ ?_ ?_
  · rfl
  · clear h; intro hb h; conv => whnf
    all_goals (cases h)
    all_goals exact Res.of [] rfl nw_0 (by decide) js_0 wr_0
  clear h; intro hb h; conv => whnf
  obtain ⟨b, hy, h2⟩ := obind.elim h; clear h; have h := h2; clear h2
  refine rdS.intro hy ?_
  conv => whnf
  obtain ⟨b1, hy, h2⟩ := obind.elim h; clear h; have h := h2; clear h2
  refine rdS.intro hy ?_
  conv => whnf
  let t : Int := wI .i64 (4 * (wI .i64 ((b.toNat : Int).fdiv (2 ^ 4))))
  refine br.h h ?_ ?_ ?_
  · rfl
  · clear h; intro hb h; conv => whnf
    all_goals (cases h)
    all_goals exact Res.of [] rfl nw_0 (by decide) js_0 wr_0
  clear h; intro hb h; conv => whnf
  refine br.h h ?_ ?_ ?_
  · rfl
  · clear h; intro hb h; conv => whnf
    all_goals (cases h)
    all_goals exact Res.of [] rfl nw_0 (by decide) js_0 wr_0
  clear h; intro hb h; conv => whnf
  refine br.h h ?_ ?_ ?_
  · rfl
  · clear h; intro hb h; conv => whnf
    all_goals (cases h)
    all_goals exact Res.of [] rfl nw_0 (by decide) js_0 wr_0
  clear h; intro hb h; conv => whnf
  obtain ⟨p, hy, h2⟩ := obind.elim h; clear h; have h := h2; clear h2
  refine sumK.introF [] (sumRun_of (aqs := [.agg ⟨[.bool src.V6, .int .u64 src.Hi, .int .u64 src.Lo]⟩, .agg ⟨[.bool dst.V6, .int .u64 dst.Hi, .int .u64 dst.Lo]⟩, .int .i64 6, .int .i64 (s.length : Int)]) (ws := []) (n := 0) (m := 0) (t' := 11) (ra_cons rfl rfl (ra_cons rfl rfl (ra_cons rfl rfl (ra_cons rfl rfl ra_nil)))) rfl (by rfl) (r27_eq hy) rfl rfl rfl rfl wb_nil an_nil rfl) ?_
  conv => whnf
  refine br.h h ?_ ?_ ?_
  · rfl
  · clear h; intro hb h; conv => whnf
    all_goals (cases h)
    all_goals exact Res.of [] rfl nw_0 (by decide) js_0 wr_0
  clear h; intro hb h; conv => whnf
  replace h := oreq.elim h; have hb := h.1; replace h := h.2
  first | (refine req.intro hb ?_; conv => whnf) | skip
  obtain ⟨xr, hy, h2⟩ := obind.elim h; clear h; have h := h2; clear h2
  refine sumK.introF [] (sumRun_of (aqs := [.string ⟨⟨p ++ s⟩⟩]) (ws := []) (n := 0) (m := 0) (t' := 11) (ra_cons rfl rfl ra_nil) rfl (by rfl) (r73_eq hy) rfl rfl rfl rfl wb_nil an_nil rfl) ?_
  conv => whnf
  refine br.h h ?_ ?_ ?_
  · rfl
  · clear h; intro hb h; conv => whnf
    all_goals (cases h)
    all_goals exact Res.of [] rfl nw_0 (by decide) js_0 wr_0
  clear h; intro hb h; conv => whnf
  obtain ⟨p1, hy, h2⟩ := obind.elim h; clear h; have h := h2; clear h2
  refine sumK.introF [] (sumRun_of (aqs := [.string ⟨⟨s⟩⟩, .int .i64 t]) (ws := []) (n := 0) (m := 0) (t' := 11) (ra_cons rfl rfl (ra_cons rfl rfl ra_nil)) rfl (by rfl) (r110_eq hy) rfl rfl rfl rfl wb_nil an_nil rfl) ?_
  conv => whnf
  obtain ⟨l, hy, h2⟩ := obind.elim h; clear h; have h := h2; clear h2
  refine sumK.introF [] (sumRun_of (aqs := [.string ⟨⟨p1.Options⟩⟩]) (ws := []) (n := 1) (m := 0) (t' := 13) (ra_cons rfl rfl ra_nil) rfl (by rfl) (r54_eq hy) rfl rfl rfl rfl wb_nil (an_cons (rn_T ctcp_Opt_flat) an_nil) rfl) ?_
  conv => whnf
  refine br.h h ?_ ?_ ?_
  · rfl
  · clear h; intro hb h; conv => whnf
    all_goals (cases h)
    all_goals exact Res.of [] rfl nw_0 (by decide) js_0 wr_0
  clear h; intro hb h; conv => whnf
  replace h := oreq.elim h; have hb := h.1; replace h := h.2
  first | (refine req.intro hb ?_; conv => whnf) | skip
  let t1 : List UInt8 := (s.drop t.toNat).take (s.length - t.toNat)
  all_goals (cases h)
  all_goals exact Res.of [] rfl nw_0 (by decide) js_0 wr_0
theorem ok51 (check_Right : (List UInt8) → Option Bool) (ipfour_Pseudo : api_Addr → api_Addr → Int → Int → Option (List UInt8)) (tcp_List : (List UInt8) → Option ((List tcp_Opt) × Int)) (tcp_parsed : (List UInt8) → Int → Option tcp_Head) (hS : SumsOK Try.prog (aget (sums51 check_Right ipfour_Pseudo tcp_List tcp_parsed))) : SumOK Try.prog 51 (s51 (tcp_GetF check_Right ipfour_Pseudo tcp_List tcp_parsed)) := by
  refine SumOK.of_leads tab_ok (fun ar os r ha hr => ?_) ⟨Try.f51, rfl, by decide, rfl⟩
  replace hr : r51 (tcp_GetF check_Right ipfour_Pseudo tcp_List tcp_parsed) ar (conts os) = some r := hr
  unfold r51 at hr
  generalize hc : conts os = C at hr
  have hq := dV.elim hr; clear hr; obtain ⟨v0, l1, y0, rfl, e0, hr⟩ := hq; obtain rfl := asS_eq _ _ e0
  have hq := dV.elim hr; clear hr; obtain ⟨v1, l2, y1, rfl, e1, hr⟩ := hq; obtain rfl := uvapi_Addr_eq _ _ e1
  have hq := dV.elim hr; clear hr; obtain ⟨v2, l3, y2, rfl, e2, hr⟩ := hq; obtain rfl := uvapi_Addr_eq _ _ e2
  have hq := dEnd.elim hr; clear hr; obtain ⟨rfl, rfl, hr⟩ := hq
  have hq := ofG.elim hr; clear hr; obtain ⟨x, h, rfl⟩ := hq
  obtain rfl := kinds_nil hc
  exact ⟨_, rfl, leads51 check_Right ipfour_Pseudo tcp_List tcp_parsed hS _ _ _ x h⟩
def tcp_Get : (List UInt8) → api_Addr → api_Addr → Option (tcp_Head × (List UInt8) × Int) := tcp_GetF check_Right ipfour_Pseudo tcp_List tcp_parsed
theorem lift51 : SumOK Try.prog 51 (s51 tcp_Get) := ok51 check_Right ipfour_Pseudo tcp_List tcp_parsed (SumsOK.of_tab ⟨lift73, lift27, lift54, lift110, trivial⟩)
end Go.Vm.Code

namespace Go.Vm.Code
open Go Go.Vm Go.Proofs
set_option maxRecDepth 100000
set_option maxHeartbeats 4000000
set_option linter.unusedVariables false

/-! cloakroom/cloakroomref07.in -/
def R07_inF (n : Int) (most : Int) : Option Bool :=
  cond (decide (n ≥ 0))
    (
    some (decide (n ≤ most)))
    (
    some (false))
def rx127 (x : Bool) : SRes := ⟨.bool x, [], []⟩
def r127 (g : Int → Int → Option Bool) : Dec := dV (asI .i64) fun (y0 : Int) => dV (asI .i64) fun (y1 : Int) => dEnd (ofG (g y0 y1) rx127)
theorem r127_c {g : Int → Int → Option Bool} {y0 : Int} {y1 : Int} {x : Bool} (hx : g y0 y1 = some x) : r127 g [.int .i64 y0, .int .i64 y1] [] = some (rx127 x) := (dV_eq (asI_c _)).trans ((dV_eq (asI_c _)).trans (ofG_eq hx))
def s127 (g : Int → Int → Option Bool) : Summ := ⟨[.v, .v], r127 g⟩
theorem r127_eq {g : Int → Int → Option Bool} {y0 : Int} {y1 : Int} {x : Bool} (hx : g y0 y1 = some x) : (s127 g).run [.int .i64 y0, .int .i64 y1] [] = some (rx127 x) := r127_c hx
abbrev sums127 : List (Nat × Summ) := []
theorem leads127 (hS : SumsOK Try.prog (aget (sums127))) (n : Int) (most : Int) (res : Bool) (h : R07_inF n most = some res) :
    Leads Try.prog 127 0 ⟨⟨127, 12, [(0, .int .i64 n), (1, .int .i64 most)], [.code k127_3], [], false, none⟩, [], [], 0⟩ (fun v H _ => Res 0 (rx127 res) v H) := by
  unfold R07_inF at h
  refine ev_ok tab_ok hS true 3000 ?_
  conv => whnf
  refine br.h h ?_ ?_ ?_
  · rfl
  · clear h; intro hb h; conv => whnf
    all_goals (cases h)
    all_goals exact Res.of [] rfl nw_0 (by decide) js_0 wr_0
  clear h; intro hb h; conv => whnf
  all_goals (cases h)
  all_goals exact Res.of [] rfl nw_0 (by decide) js_0 wr_0
theorem ok127 (hS : SumsOK Try.prog (aget (sums127))) : SumOK Try.prog 127 (s127 (R07_inF)) := by
  refine SumOK.of_leads tab_ok (fun ar os r ha hr => ?_) ⟨Try.f127, rfl, by decide, rfl⟩
  replace hr : r127 (R07_inF) ar (conts os) = some r := hr
  unfold r127 at hr
  generalize hc : conts os = C at hr
  have hq := dV.elim hr; clear hr; obtain ⟨v0, l1, y0, rfl, e0, hr⟩ := hq; obtain rfl := asI_eq _ _ _ e0
  have hq := dV.elim hr; clear hr; obtain ⟨v1, l2, y1, rfl, e1, hr⟩ := hq; obtain rfl := asI_eq _ _ _ e1
  have hq := dEnd.elim hr; clear hr; obtain ⟨rfl, rfl, hr⟩ := hq
  have hq := ofG.elim hr; clear hr; obtain ⟨x, h, rfl⟩ := hq
  obtain rfl := kinds_nil hc
  exact ⟨_, rfl, leads127 hS _ _ x h⟩
def R07_in : Int → Int → Option Bool := R07_inF
theorem lift127 : SumOK Try.prog 127 (s127 R07_in) := ok127 (SumsOK.of_tab trivial)
end Go.Vm.Code

namespace Go.Vm.Code
open Go Go.Vm Go.Proofs
set_option maxRecDepth 100000
set_option maxHeartbeats 4000000
set_option linter.unusedVariables false

/-! cloakroom/cloakroomref07.Right -/
def R07_RightF (R07_in : Int → Int → Option Bool) (ha0 : tcp_Head) : Option Bool :=
  (R07_in ha0.SPort 65535).bind fun i =>
  cond (i)
    (
    (R07_in ha0.DPort 65535).bind fun i1 =>
    cond (i1)
      (
      (R07_in ha0.Flags 255).bind fun i2 =>
      cond (i2)
        (
        (R07_in ha0.Window 65535).bind fun i3 =>
        cond (i3)
          (
          (R07_in ha0.Urgent 65535).bind fun i4 =>
          cond (i4)
            (
            cond (decide ((ha0.Options.length : Int) ≤ 40))
              (
              some (((ha0.Options.length : Int).tmod 4) == 0))
              (
              some (false)))
            (
            some (false)))
          (
          some (false)))
        (
        some (false)))
      (
      some (false)))
    (
    some (false))
def rx108 (x : Bool) : SRes := ⟨.bool x, [], []⟩
def r108 (g : tcp_Head → Option Bool) : Dec := dV uvtcp_Head fun (y0 : tcp_Head) => dEnd (ofG (g y0) rx108)
theorem r108_c {g : tcp_Head → Option Bool} {y0 : tcp_Head} {x : Bool} (hx : g y0 = some x) : r108 g [.agg ⟨[.int .i64 y0.SPort, .int .i64 y0.DPort, .int .u32 y0.Seq, .int .u32 y0.Ack, .int .i64 y0.Flags, .int .i64 y0.Window, .int .i64 y0.Urgent, .string ⟨⟨y0.Options⟩⟩]⟩] [] = some (rx108 x) := (dV_eq (uvtcp_Head_c _)).trans (ofG_eq hx)
def s108 (g : tcp_Head → Option Bool) : Summ := ⟨[.v], r108 g⟩
theorem r108_eq {g : tcp_Head → Option Bool} {y0 : tcp_Head} {x : Bool} (hx : g y0 = some x) : (s108 g).run [.agg ⟨[.int .i64 y0.SPort, .int .i64 y0.DPort, .int .u32 y0.Seq, .int .u32 y0.Ack, .int .i64 y0.Flags, .int .i64 y0.Window, .int .i64 y0.Urgent, .string ⟨⟨y0.Options⟩⟩]⟩] [] = some (rx108 x) := r108_c hx
abbrev sums108 (R07_in : Int → Int → Option Bool) : List (Nat × Summ) := [(127, s127 R07_in)]
theorem leads108 (R07_in : Int → Int → Option Bool) (hS : SumsOK Try.prog (aget (sums108 R07_in))) (ha0 : tcp_Head) (res : Bool) (h : R07_RightF R07_in ha0 = some res) :
    Leads Try.prog 108 0 ⟨⟨108, 39, [(0, .agg ⟨[.int .i64 ha0.SPort, .int .i64 ha0.DPort, .int .u32 ha0.Seq, .int .u32 ha0.Ack, .int .i64 ha0.Flags, .int .i64 ha0.Window, .int .i64 ha0.Urgent, .string ⟨⟨ha0.Options⟩⟩]⟩)], [.code k108_3], [], false, none⟩, [], [], 0⟩ (fun v H _ => Res 0 (rx108 res) v H) := by
  unfold R07_RightF at h
  refine ev_ok tab_ok hS true 3000 ?_
  conv => whnf
  obtain ⟨i, hy, h2⟩ := obind.elim h; clear h; have h := h2; clear h2
  refine sumK.introF [] (sumRun_of (aqs := [.int .i64 ha0.SPort, .int .i64 65535]) (ws := []) (n := 0) (m := 0) (t' := 1) (ra_cons rfl rfl (ra_cons rfl rfl ra_nil)) rfl (by rfl) (r127_eq hy) rfl rfl rfl rfl wb_nil an_nil rfl) ?_
  conv => whnf
  refine br.h2 h ?_ ?_ ?_
  · rfl
  · clear h; intro hb h; conv => whnf
    all_goals (cases h)
    all_goals exact Res.of [] rfl nw_0 (by decide) js_0 wr_0
  clear h; intro hb h; conv => whnf
  obtain ⟨i1, hy, h2⟩ := obind.elim h; clear h; have h := h2; clear h2
  refine sumK.introF [] (sumRun_of (aqs := [.int .i64 ha0.DPort, .int .i64 65535]) (ws := []) (n := 0) (m := 0) (t' := 1) (ra_cons rfl rfl (ra_cons rfl rfl ra_nil)) rfl (by rfl) (r127_eq hy) rfl rfl rfl rfl wb_nil an_nil rfl) ?_
  conv => whnf
  refine br.h2 h ?_ ?_ ?_
  · rfl
  · clear h; intro hb h; conv => whnf
    all_goals (cases h)
    all_goals exact Res.of [] rfl nw_0 (by decide) js_0 wr_0
  clear h; intro hb h; conv => whnf
  obtain ⟨i2, hy, h2⟩ := obind.elim h; clear h; have h := h2; clear h2
  refine sumK.introF [] (sumRun_of (aqs := [.int .i64 ha0.Flags, .int .i64 255]) (ws := []) (n := 0) (m := 0) (t' := 1) (ra_cons rfl rfl (ra_cons rfl rfl ra_nil)) rfl (by rfl) (r127_eq hy) rfl rfl rfl rfl wb_nil an_nil rfl) ?_
  conv => whnf
  refine br.h2 h ?_ ?_ ?_
  · rfl
  · clear h; intro hb h; conv => whnf
    all_goals (cases h)
    all_goals exact Res.of [] rfl nw_0 (by decide) js_0 wr_0
  clear h; intro hb h; conv => whnf
  obtain ⟨i3, hy, h2⟩ := obind.elim h; clear h; have h := h2; clear h2
  refine sumK.introF [] (sumRun_of (aqs := [.int .i64 ha0.Window, .int .i64 65535]) (ws := []) (n := 0) (m := 0) (t' := 1) (ra_cons rfl rfl (ra_cons rfl rfl ra_nil)) rfl (by rfl) (r127_eq hy) rfl rfl rfl rfl wb_nil an_nil rfl) ?_
  conv => whnf
  refine br.h2 h ?_ ?_ ?_
  · rfl
  · clear h; intro hb h; conv => whnf
    all_goals (cases h)
    all_goals exact Res.of [] rfl nw_0 (by decide) js_0 wr_0
  clear h; intro hb h; conv => whnf
  obtain ⟨i4, hy, h2⟩ := obind.elim h; clear h; have h := h2; clear h2
  refine sumK.introF [] (sumRun_of (aqs := [.int .i64 ha0.Urgent, .int .i64 65535]) (ws := []) (n := 0) (m := 0) (t' := 1) (ra_cons rfl rfl (ra_cons rfl rfl ra_nil)) rfl (by rfl) (r127_eq hy) rfl rfl rfl rfl wb_nil an_nil rfl) ?_
  conv => whnf
  refine br.h2 h ?_ ?_ ?_
  · rfl
  · clear h; intro hb h; conv => whnf
    all_goals (cases h)
    all_goals exact Res.of [] rfl nw_0 (by decide) js_0 wr_0
  clear h; intro hb h; conv => whnf
  refine br.h h ?_ ?_ ?_
  · rfl
  · clear h; intro hb h; conv => whnf
    all_goals (cases h)
    all_goals exact Res.of [] rfl nw_0 (by decide) js_0 wr_0
  clear h; intro hb h; conv => whnf
  all_goals (cases h)
  all_goals exact Res.of [] rfl nw_0 (by decide) js_0 wr_0
theorem ok108 (R07_in : Int → Int → Option Bool) (hS : SumsOK Try.prog (aget (sums108 R07_in))) : SumOK Try.prog 108 (s108 (R07_RightF R07_in)) := by
  refine SumOK.of_leads tab_ok (fun ar os r ha hr => ?_) ⟨Try.f108, rfl, by decide, rfl⟩
  replace hr : r108 (R07_RightF R07_in) ar (conts os) = some r := hr
  unfold r108 at hr
  generalize hc : conts os = C at hr
  have hq := dV.elim hr; clear hr; obtain ⟨v0, l1, y0, rfl, e0, hr⟩ := hq; obtain rfl := uvtcp_Head_eq _ _ e0
  have hq := dEnd.elim hr; clear hr; obtain ⟨rfl, rfl, hr⟩ := hq
  have hq := ofG.elim hr; clear hr; obtain ⟨x, h, rfl⟩ := hq
  obtain rfl := kinds_nil hc
  exact ⟨_, rfl, leads108 R07_in hS _ x h⟩
def R07_Right : tcp_Head → Option Bool := R07_RightF R07_in
theorem lift108 : SumOK Try.prog 108 (s108 R07_Right) := ok108 R07_in (SumsOK.of_tab ⟨lift127, trivial⟩)
end Go.Vm.Code

namespace Go.Vm.Code
open Go Go.Vm Go.Proofs
set_option maxRecDepth 100000
set_option maxHeartbeats 4000000
set_option linter.unusedVariables false

/-! cloakroom/cloakroomref07.num -/
def R07_numF (R02_Put : Int → Int → Option (List UInt8)) (n : Int) (k : Int) : Option (List UInt8) :=
  (R02_Put (wI .u64 n) k).bind fun p =>
  some (p)
def rx109 (x : List UInt8) : SRes := ⟨.string ⟨⟨x⟩⟩, [], []⟩
def r109 (g : Int → Int → Option (List UInt8)) : Dec := dV (asI .i64) fun (y0 : Int) => dV (asI .i64) fun (y1 : Int) => dEnd (ofG (g y0 y1) rx109)
theorem r109_c {g : Int → Int → Option (List UInt8)} {y0 : Int} {y1 : Int} {x : List UInt8} (hx : g y0 y1 = some x) : r109 g [.int .i64 y0, .int .i64 y1] [] = some (rx109 x) := (dV_eq (asI_c _)).trans ((dV_eq (asI_c _)).trans (ofG_eq hx))
def s109 (g : Int → Int → Option (List UInt8)) : Summ := ⟨[.v, .v], r109 g⟩
theorem r109_eq {g : Int → Int → Option (List UInt8)} {y0 : Int} {y1 : Int} {x : List UInt8} (hx : g y0 y1 = some x) : (s109 g).run [.int .i64 y0, .int .i64 y1] [] = some (rx109 x) := r109_c hx
abbrev sums109 (R02_Put : Int → Int → Option (List UInt8)) : List (Nat × Summ) := [(67, s67 R02_Put)]
theorem leads109 (R02_Put : Int → Int → Option (List UInt8)) (hS : SumsOK Try.prog (aget (sums109 R02_Put))) (n : Int) (k : Int) (res : List UInt8) (h : R07_numF R02_Put n k = some res) :
    Leads Try.prog 109 0 ⟨⟨109, 9, [(0, .int .i64 n), (1, .int .i64 k)], [.code k109_3], [], false, none⟩, [], [], 0⟩ (fun v H _ => Res 0 (rx109 res) v H) := by
  unfold R07_numF at h
  refine ev_ok tab_ok hS true 3000 ?_
  conv => whnf
  obtain ⟨p, hy, h2⟩ := obind.elim h; clear h; have h := h2; clear h2
  refine sumK.introF [] (sumRun_of (aqs := [.int .u64 (wI .u64 n), .int .i64 k]) (ws := []) (n := 0) (m := 0) (t' := 0) (ra_cons rfl rfl (ra_cons rfl rfl ra_nil)) rfl (by rfl) (r67_eq hy) rfl rfl rfl rfl wb_nil an_nil rfl) ?_
  conv => whnf
  all_goals (cases h)
  all_goals exact Res.of [] rfl nw_0 (by decide) js_0 wr_0
theorem ok109 (R02_Put : Int → Int → Option (List UInt8)) (hS : SumsOK Try.prog (aget (sums109 R02_Put))) : SumOK Try.prog 109 (s109 (R07_numF R02_Put)) := by
  refine SumOK.of_leads tab_ok (fun ar os r ha hr => ?_) ⟨Try.f109, rfl, by decide, rfl⟩
  replace hr : r109 (R07_numF R02_Put) ar (conts os) = some r := hr
  unfold r109 at hr
  generalize hc : conts os = C at hr
  have hq := dV.elim hr; clear hr; obtain ⟨v0, l1, y0, rfl, e0, hr⟩ := hq; obtain rfl := asI_eq _ _ _ e0
  have hq := dV.elim hr; clear hr; obtain ⟨v1, l2, y1, rfl, e1, hr⟩ := hq; obtain rfl := asI_eq _ _ _ e1
  have hq := dEnd.elim hr; clear hr; obtain ⟨rfl, rfl, hr⟩ := hq
  have hq := ofG.elim hr; clear hr; obtain ⟨x, h, rfl⟩ := hq
  obtain rfl := kinds_nil hc
  exact ⟨_, rfl, leads109 R02_Put hS _ _ x h⟩
def R07_num : Int → Int → Option (List UInt8) := R07_numF R02_Put
theorem lift109 : SumOK Try.prog 109 (s109 R07_num) := ok109 R02_Put (SumsOK.of_tab ⟨lift67, trivial⟩)
end Go.Vm.Code

namespace Go.Vm.Code
open Go Go.Vm Go.Proofs
set_option maxRecDepth 100000
set_option maxHeartbeats 4000000
set_option linter.unusedVariables false

/-! cloakroom/cloakroomref07.Put -/
def R07_PutF (R03_Of : (List UInt8) → Option Int) (R03_Set : (List UInt8) → Int → Int → Int → Option (List UInt8)) (R05_Pseudo : api_Addr → api_Addr → Int → Int → Option (List UInt8)) (R07_Right : tcp_Head → Option Bool) (R07_num : Int → Int → Option (List UInt8)) (ha0 : tcp_Head) (src : api_Addr) (dst : api_Addr) (payload : List UInt8) : Option ((List UInt8) × Int) :=
  let t := wI .i64 (20 + (ha0.Options.length : Int))
  (R05_Pseudo src dst 6 (wI .i64 (t + (payload.length : Int)))).bind fun p =>
  (R07_Right ha0).bind fun xr =>
  cond (!xr)
    (
    some (([], 1)))
    (
    cond (p == [])
      (
      some (([], 1)))
      (
      let t1 := decide ((payload.length : Int) > (wI .i64 (65535 - t)))
      cond (t1)
        (
        some (([], 5)))
        (
        (R07_num ha0.SPort 2).bind fun n =>
        (R07_num ha0.DPort 2).bind fun n1 =>
        oreq (decide (n.length + n1.length < 2 ^ 63)) <|
        (R07_num (wI .i64 ha0.Seq) 4).bind fun n2 =>
        oreq (decide ((n ++ n1).length + n2.length < 2 ^ 63)) <|
        (R07_num (wI .i64 ha0.Ack) 4).bind fun n3 =>
        oreq (decide (((n ++ n1) ++ n2).length + n3.length < 2 ^ 63)) <|
        (R07_num (wI .i64 (4 * t)) 1).bind fun n4 =>
        oreq (decide ((((n ++ n1) ++ n2) ++ n3).length + n4.length < 2 ^ 63)) <|
        (R07_num ha0.Flags 1).bind fun n5 =>
        oreq (decide (((((n ++ n1) ++ n2) ++ n3) ++ n4).length + n5.length < 2 ^ 63)) <|
        (R07_num ha0.Window 2).bind fun n6 =>
        oreq (decide ((((((n ++ n1) ++ n2) ++ n3) ++ n4) ++ n5).length + n6.length < 2 ^ 63)) <|
        let t2 := (((((n ++ n1) ++ n2) ++ n3) ++ n4) ++ n5) ++ n6
        (R07_num 0 2).bind fun n7 =>
        oreq (decide (t2.length + n7.length < 2 ^ 63)) <|
        (R07_num ha0.Urgent 2).bind fun n8 =>
        oreq (decide ((t2 ++ n7).length + n8.length < 2 ^ 63)) <|
        oreq (decide (((t2 ++ n7) ++ n8).length + ha0.Options.length < 2 ^ 63)) <|
        oreq (decide ((((t2 ++ n7) ++ n8) ++ ha0.Options).length + payload.length < 2 ^ 63)) <|
        let t3 := (((t2 ++ n7) ++ n8) ++ ha0.Options) ++ payload
        oreq (decide (p.length + t3.length < 2 ^ 63)) <|
        (R03_Of (p ++ t3)).bind fun xo =>
        (R03_Set t3 16 2 (wI .u64 xo)).bind fun s =>
        some ((s, 0)))))
def rx50 (x : (List UInt8) × Int) : SRes := ⟨.tuple ⟨[.string ⟨⟨x.1⟩⟩, .int .i64 x.2]⟩, [], []⟩
def r50 (g : tcp_Head → api_Addr → api_Addr → (List UInt8) → Option ((List UInt8) × Int)) : Dec := dV uvtcp_Head fun (y0 : tcp_Head) => dV uvapi_Addr fun (y1 : api_Addr) => dV uvapi_Addr fun (y2 : api_Addr) => dV asS fun (y3 : List UInt8) => dEnd (ofG (g y0 y1 y2 y3) rx50)
theorem r50_c {g : tcp_Head → api_Addr → api_Addr → (List UInt8) → Option ((List UInt8) × Int)} {y0 : tcp_Head} {y1 : api_Addr} {y2 : api_Addr} {y3 : List UInt8} {x : (List UInt8) × Int} (hx : g y0 y1 y2 y3 = some x) : r50 g [.agg ⟨[.int .i64 y0.SPort, .int .i64 y0.DPort, .int .u32 y0.Seq, .int .u32 y0.Ack, .int .i64 y0.Flags, .int .i64 y0.Window, .int .i64 y0.Urgent, .string ⟨⟨y0.Options⟩⟩]⟩, .agg ⟨[.bool y1.V6, .int .u64 y1.Hi, .int .u64 y1.Lo]⟩, .agg ⟨[.bool y2.V6, .int .u64 y2.Hi, .int .u64 y2.Lo]⟩, .string ⟨⟨y3⟩⟩] [] = some (rx50 x) := (dV_eq (uvtcp_Head_c _)).trans ((dV_eq (uvapi_Addr_c _)).trans ((dV_eq (uvapi_Addr_c _)).trans ((dV_eq (asS_c)).trans (ofG_eq hx))))
def s50 (g : tcp_Head → api_Addr → api_Addr → (List UInt8) → Option ((List UInt8) × Int)) : Summ := ⟨[.v, .v, .v, .v], r50 g⟩
theorem r50_eq {g : tcp_Head → api_Addr → api_Addr → (List UInt8) → Option ((List UInt8) × Int)} {y0 : tcp_Head} {y1 : api_Addr} {y2 : api_Addr} {y3 : List UInt8} {x : (List UInt8) × Int} (hx : g y0 y1 y2 y3 = some x) : (s50 g).run [.agg ⟨[.int .i64 y0.SPort, .int .i64 y0.DPort, .int .u32 y0.Seq, .int .u32 y0.Ack, .int .i64 y0.Flags, .int .i64 y0.Window, .int .i64 y0.Urgent, .string ⟨⟨y0.Options⟩⟩]⟩, .agg ⟨[.bool y1.V6, .int .u64 y1.Hi, .int .u64 y1.Lo]⟩, .agg ⟨[.bool y2.V6, .int .u64 y2.Hi, .int .u64 y2.Lo]⟩, .string ⟨⟨y3⟩⟩] [] = some (rx50 x) := r50_c hx
abbrev sums50 (R03_Of : (List UInt8) → Option Int) (R03_Set : (List UInt8) → Int → Int → Int → Option (List UInt8)) (R05_Pseudo : api_Addr → api_Addr → Int → Int → Option (List UInt8)) (R07_Right : tcp_Head → Option Bool) (R07_num : Int → Int → Option (List UInt8)) : List (Nat × Summ) := [(68, s68 R03_Of), (69, s69 R03_Set), (28, s28 R05_Pseudo), (108, s108 R07_Right), (109, s109 R07_num)]
theorem leads50 (R03_Of : (List UInt8) → Option Int) (R03_Set : (List UInt8) → Int → Int → Int → Option (List UInt8)) (R05_Pseudo : api_Addr → api_Addr → Int → Int → Option (List UInt8)) (R07_Right : tcp_Head → Option Bool) (R07_num : Int → Int → Option (List UInt8)) (hS : SumsOK Try.prog (aget (sums50 R03_Of R03_Set R05_Pseudo R07_Right R07_num))) (ha0 : tcp_Head) (src : api_Addr) (dst : api_Addr) (payload : List UInt8) (res : (List UInt8) × Int) (h : R07_PutF R03_Of R03_Set R05_Pseudo R07_Right R07_num ha0 src dst payload = some res) :
    Leads Try.prog 50 0 ⟨⟨50, 83, [(0, .agg ⟨[.int .i64 ha0.SPort, .int .i64 ha0.DPort, .int .u32 ha0.Seq, .int .u32 ha0.Ack, .int .i64 ha0.Flags, .int .i64 ha0.Window, .int .i64 ha0.Urgent, .string ⟨⟨ha0.Options⟩⟩]⟩), (1, .agg ⟨[.bool src.V6, .int .u64 src.Hi, .int .u64 src.Lo]⟩), (2, .agg ⟨[.bool dst.V6, .int .u64 dst.Hi, .int .u64 dst.Lo]⟩), (3, .string ⟨⟨payload⟩⟩)], [.code k50_21], [], false, none⟩, [], [], 0⟩ (fun v H _ => Res 0 (rx50 res) v H) := by
  unfold R07_PutF at h
  refine ev_ok tab_ok hS true 3000 ?_
  conv => whnf
  let t : Int := wI .i64 (20 + (ha0.Options.length : Int))
  obtain ⟨p, hy, h2⟩ := obind.elim h; clear h; have h := h2; clear h2
  refine sumK.introF [] (sumRun_of (aqs := [.agg ⟨[.bool src.V6, .int .u64 src.Hi, .int .u64 src.Lo]⟩, .agg ⟨[.bool dst.V6, .int .u64 dst.Hi, .int .u64 dst.Lo]⟩, .int .i64 6, .int .i64 (wI .i64 (t + (payload.length : Int)))]) (ws := []) (n := 0) (m := 0) (t' := 3) (ra_cons rfl rfl (ra_cons rfl rfl (ra_cons rfl rfl (ra_cons rfl rfl ra_nil)))) rfl (by rfl) (r28_eq hy) rfl rfl rfl rfl wb_nil an_nil rfl) ?_
  conv => whnf
  obtain ⟨xr, hy, h2⟩ := obind.elim h; clear h; have h := h2; clear h2
  refine sumK.introF [] (sumRun_of (aqs := [.agg ⟨[.int .i64 ha0.SPort, .int .i64 ha0.DPort, .int .u32 ha0.Seq, .int .u32 ha0.Ack, .int .i64 ha0.Flags, .int .i64 ha0.Window, .int .i64 ha0.Urgent, .string ⟨⟨ha0.Options⟩⟩]⟩]) (ws := []) (n := 0) (m := 0) (t' := 3) (ra_cons rfl rfl ra_nil) rfl (by rfl) (r108_eq hy) rfl rfl rfl rfl wb_nil an_nil rfl) ?_
  conv => whnf
  refine br.h h ?_ ?_ ?_
  · rfl
  · clear h; intro hb h; conv => whnf
    all_goals (cases h)
    all_goals exact Res.of [] rfl nw_0 (by decide) js_0 wr_0
  clear h; intro hb h; conv => whnf
  refine br.h h ?_ ?_ ?_
  · rfl
  · clear h; intro hb h; conv => whnf
    all_goals (cases h)
    all_goals exact Res.of [] rfl nw_0 (by decide) js_0 wr_0
  clear h; intro hb h; conv => whnf
  let t1 : Bool := decide ((payload.length : Int) > (wI .i64 (65535 - t)))
  refine br.h h ?_ ?_ ?_
  · rfl
  · clear h; intro hb h; conv => whnf
    all_goals (cases h)
    all_goals exact Res.of [] rfl nw_0 (by decide) js_0 wr_0
  clear h; intro hb h; conv => whnf
  obtain ⟨n, hy, h2⟩ := obind.elim h; clear h; have h := h2; clear h2
  refine sumK.introF [] (sumRun_of (aqs := [.int .i64 ha0.SPort, .int .i64 2]) (ws := []) (n := 0) (m := 0) (t' := 5) (ra_cons rfl rfl (ra_cons rfl rfl ra_nil)) rfl (by rfl) (r109_eq hy) rfl rfl rfl rfl wb_nil an_nil rfl) ?_
  conv => whnf
  obtain ⟨n1, hy, h2⟩ := obind.elim h; clear h; have h := h2; clear h2
  refine sumK.introF [] (sumRun_of (aqs := [.int .i64 ha0.DPort, .int .i64 2]) (ws := []) (n := 0) (m := 0) (t' := 8) (ra_cons rfl rfl (ra_cons rfl rfl ra_nil)) rfl (by rfl) (r109_eq hy) rfl rfl rfl rfl wb_nil an_nil rfl) ?_
  conv => whnf
  replace h := oreq.elim h; have hb := h.1; replace h := h.2
  first | (refine req.intro hb ?_; conv => whnf) | skip
  obtain ⟨n2, hy, h2⟩ := obind.elim h; clear h; have h := h2; clear h2
  refine sumK.introF [] (sumRun_of (aqs := [.int .i64 (wI .i64 ha0.Seq), .int .i64 4]) (ws := []) (n := 0) (m := 0) (t' := 13) (ra_cons rfl rfl (ra_cons rfl rfl ra_nil)) rfl (by rfl) (r109_eq hy) rfl rfl rfl rfl wb_nil an_nil rfl) ?_
  conv => whnf
  replace h := oreq.elim h; have hb := h.1; replace h := h.2
  first | (refine req.intro hb ?_; conv => whnf) | skip
  obtain ⟨n3, hy, h2⟩ := obind.elim h; clear h; have h := h2; clear h2
  refine sumK.introF [] (sumRun_of (aqs := [.int .i64 (wI .i64 ha0.Ack), .int .i64 4]) (ws := []) (n := 0) (m := 0) (t' := 18) (ra_cons rfl rfl (ra_cons rfl rfl ra_nil)) rfl (by rfl) (r109_eq hy) rfl rfl rfl rfl wb_nil an_nil rfl) ?_
  conv => whnf
  replace h := oreq.elim h; have hb := h.1; replace h := h.2
  first | (refine req.intro hb ?_; conv => whnf) | skip
  obtain ⟨n4, hy, h2⟩ := obind.elim h; clear h; have h := h2; clear h2
  refine sumK.introF [] (sumRun_of (aqs := [.int .i64 (wI .i64 (4 * t)), .int .i64 1]) (ws := []) (n := 0) (m := 0) (t' := 22) (ra_cons rfl rfl (ra_cons rfl rfl ra_nil)) rfl (by rfl) (r109_eq hy) rfl rfl rfl rfl wb_nil an_nil rfl) ?_
  conv => whnf
  replace h := oreq.elim h; have hb := h.1; replace h := h.2
  first | (refine req.intro hb ?_; conv => whnf) | skip
  obtain ⟨n5, hy, h2⟩ := obind.elim h; clear h; have h := h2; clear h2
  refine sumK.introF [] (sumRun_of (aqs := [.int .i64 ha0.Flags, .int .i64 1]) (ws := []) (n := 0) (m := 0) (t' := 26) (ra_cons rfl rfl (ra_cons rfl rfl ra_nil)) rfl (by rfl) (r109_eq hy) rfl rfl rfl rfl wb_nil an_nil rfl) ?_
  conv => whnf
  replace h := oreq.elim h; have hb := h.1; replace h := h.2
  first | (refine req.intro hb ?_; conv => whnf) | skip
  obtain ⟨n6, hy, h2⟩ := obind.elim h; clear h; have h := h2; clear h2
  refine sumK.introF [] (sumRun_of (aqs := [.int .i64 ha0.Window, .int .i64 2]) (ws := []) (n := 0) (m := 0) (t' := 30) (ra_cons rfl rfl (ra_cons rfl rfl ra_nil)) rfl (by rfl) (r109_eq hy) rfl rfl rfl rfl wb_nil an_nil rfl) ?_
  conv => whnf
  replace h := oreq.elim h; have hb := h.1; replace h := h.2
  first | (refine req.intro hb ?_; conv => whnf) | skip
  let t2 : List UInt8 := (((((n ++ n1) ++ n2) ++ n3) ++ n4) ++ n5) ++ n6
  obtain ⟨n7, hy, h2⟩ := obind.elim h; clear h; have h := h2; clear h2
  refine sumK.introF [] (sumRun_of (aqs := [.int .i64 0, .int .i64 2]) (ws := []) (n := 0) (m := 0) (t' := 32) (ra_cons rfl rfl (ra_cons rfl rfl ra_nil)) rfl (by rfl) (r109_eq hy) rfl rfl rfl rfl wb_nil an_nil rfl) ?_
  conv => whnf
  replace h := oreq.elim h; have hb := h.1; replace h := h.2
  first | (refine req.intro hb ?_; conv => whnf) | skip
  obtain ⟨n8, hy, h2⟩ := obind.elim h; clear h; have h := h2; clear h2
  refine sumK.introF [] (sumRun_of (aqs := [.int .i64 ha0.Urgent, .int .i64 2]) (ws := []) (n := 0) (m := 0) (t' := 36) (ra_cons rfl rfl (ra_cons rfl rfl ra_nil)) rfl (by rfl) (r109_eq hy) rfl rfl rfl rfl wb_nil an_nil rfl) ?_
  conv => whnf
  replace h := oreq.elim h; have hb := h.1; replace h := h.2
  first | (refine req.intro hb ?_; conv => whnf) | skip
  replace h := oreq.elim h; have hb := h.1; replace h := h.2
  first | (refine req.intro hb ?_; conv => whnf) | skip
  replace h := oreq.elim h; have hb := h.1; replace h := h.2
  first | (refine req.intro hb ?_; conv => whnf) | skip
  let t3 : List UInt8 := (((t2 ++ n7) ++ n8) ++ ha0.Options) ++ payload
  replace h := oreq.elim h; have hb := h.1; replace h := h.2
  first | (refine req.intro hb ?_; conv => whnf) | skip
  obtain ⟨xo, hy, h2⟩ := obind.elim h; clear h; have h := h2; clear h2
  refine sumK.introF [] (sumRun_of (aqs := [.string ⟨⟨p ++ t3⟩⟩]) (ws := []) (n := 0) (m := 0) (t' := 42) (ra_cons rfl rfl ra_nil) rfl (by rfl) (r68_eq hy) rfl rfl rfl rfl wb_nil an_nil rfl) ?_
  conv => whnf
  obtain ⟨s, hy, h2⟩ := obind.elim h; clear h; have h := h2; clear h2
  refine sumK.introF [] (sumRun_of (aqs := [.string ⟨⟨t3⟩⟩, .int .i64 16, .int .i64 2, .int .u64 (wI .u64 xo)]) (ws := []) (n := 0) (m := 0) (t' := 42) (ra_cons rfl rfl (ra_cons rfl rfl (ra_cons rfl rfl (ra_cons rfl rfl ra_nil)))) rfl (by rfl) (r69_eq hy) rfl rfl rfl rfl wb_nil an_nil rfl) ?_
  conv => whnf
  all_goals (cases h)
  all_goals exact Res.of [] rfl nw_0 (by decide) js_0 wr_0
theorem ok50 (R03_Of : (List UInt8) → Option Int) (R03_Set : (List UInt8) → Int → Int → Int → Option (List UInt8)) (R05_Pseudo : api_Addr → api_Addr → Int → Int → Option (List UInt8)) (R07_Right : tcp_Head → Option Bool) (R07_num : Int → Int → Option (List UInt8)) (hS : SumsOK Try.prog (aget (sums50 R03_Of R03_Set R05_Pseudo R07_Right R07_num))) : SumOK Try.prog 50 (s50 (R07_PutF R03_Of R03_Set R05_Pseudo R07_Right R07_num)) := by
  refine SumOK.of_leads tab_ok (fun ar os r ha hr => ?_) ⟨Try.f50, rfl, by decide, rfl⟩
  replace hr : r50 (R07_PutF R03_Of R03_Set R05_Pseudo R07_Right R07_num) ar (conts os) = some r := hr
  unfold r50 at hr
  generalize hc : conts os = C at hr
  have hq := dV.elim hr; clear hr; obtain ⟨v0, l1, y0, rfl, e0, hr⟩ := hq; obtain rfl := uvtcp_Head_eq _ _ e0
  have hq := dV.elim hr; clear hr; obtain ⟨v1, l2, y1, rfl, e1, hr⟩ := hq; obtain rfl := uvapi_Addr_eq _ _ e1
  have hq := dV.elim hr; clear hr; obtain ⟨v2, l3, y2, rfl, e2, hr⟩ := hq; obtain rfl := uvapi_Addr_eq _ _ e2
  have hq := dV.elim hr; clear hr; obtain ⟨v3, l4, y3, rfl, e3, hr⟩ := hq; obtain rfl := asS_eq _ _ e3
  have hq := dEnd.elim hr; clear hr; obtain ⟨rfl, rfl, hr⟩ := hq
  have hq := ofG.elim hr; clear hr; obtain ⟨x, h, rfl⟩ := hq
  obtain rfl := kinds_nil hc
  exact ⟨_, rfl, leads50 R03_Of R03_Set R05_Pseudo R07_Right R07_num hS _ _ _ _ x h⟩
def R07_Put : tcp_Head → api_Addr → api_Addr → (List UInt8) → Option ((List UInt8) × Int) := R07_PutF R03_Of R03_Set R05_Pseudo R07_Right R07_num
theorem lift50 : SumOK Try.prog 50 (s50 R07_Put) := ok50 R03_Of R03_Set R05_Pseudo R07_Right R07_num (SumsOK.of_tab ⟨lift68, lift69, lift28, lift108, lift109, trivial⟩)
end Go.Vm.Code

namespace Go.Vm.Code
open Go Go.Vm Go.Proofs
set_option maxRecDepth 100000
set_option maxHeartbeats 4000000
set_option linter.unusedVariables false

/-! cloakroom/cloakroomref07.Get -/
def R07_GetF (R02_Must : (List UInt8) → Int → Int → Option Int) (R03_Sum : (List UInt8) → Option Int) (R05_Pseudo : api_Addr → api_Addr → Int → Int → Option (List UInt8)) (R07_List : (List UInt8) → Option ((List R07_Opt) × Int)) (s : List UInt8) (src : api_Addr) (dst : api_Addr) : Option (tcp_Head × (List UInt8) × Int) :=
  cond (decide ((s.length : Int) < 20))
    (
    some ((tcp_Head.mk 0 0 0 0 0 0 0 [], [], 2)))
    (
    (s[12]?).bind fun (b : UInt8) =>
    let t := wI .i64 (wI .u8 ((b.toNat : Int).tdiv 16))
    cond (decide ((wI .i64 (4 * t)) < 20))
      (
      some ((tcp_Head.mk 0 0 0 0 0 0 0 [], [], 3)))
      (
      (s[12]?).bind fun (b1 : UInt8) =>
      cond (((b1.toNat : Int).tmod 16) != 0)
        (
        some ((tcp_Head.mk 0 0 0 0 0 0 0 [], [], 3)))
        (
        let t1 := decide ((s.length : Int) < (wI .i64 (4 * t)))
        cond (t1)
          (
          some ((tcp_Head.mk 0 0 0 0 0 0 0 [], [], 2)))
          (
          (R05_Pseudo src dst 6 (s.length : Int)).bind fun p =>
          cond (p == [])
            (
            some ((tcp_Head.mk 0 0 0 0 0 0 0 [], [], 1)))
            (
            oreq (decide (p.length + s.length < 2 ^ 63)) <|
            (R03_Sum (p ++ s)).bind fun s1 =>
            cond (s1 != 65535)
              (
              some ((tcp_Head.mk 0 0 0 0 0 0 0 [], [], 4)))
              (
              oreq (decide ((0 : Int) ≤ (wI .i64 (4 * t)) ∧ (wI .i64 (4 * t)) ≤ (s.length : Int) ∧ (0 : Int) ≤ (20 : Int) ∧ (20 : Int) ≤ ((wI .i64 (4 * t)).toNat : Int))) <|
              let t2 := (s.drop 20).take ((wI .i64 (4 * t)).toNat - 20)
              (R07_List t2).bind fun l =>
              cond (l.2 != 0)
                (
                some ((tcp_Head.mk 0 0 0 0 0 0 0 [], [], l.2)))
                (
                (R02_Must s 0 2).bind fun m =>
                (R02_Must s 2 2).bind fun m1 =>
                (R02_Must s 4 4).bind fun m2 =>
                (R02_Must s 8 4).bind fun m3 =>
                (s[13]?).bind fun (b2 : UInt8) =>
                (R02_Must s 14 2).bind fun m4 =>
                (R02_Must s 18 2).bind fun m5 =>
                oreq (decide ((0 : Int) ≤ (wI .i64 (4 * t)) ∧ (wI .i64 (4 * t)) ≤ (s.length : Int) ∧ (0 : Int) ≤ (20 : Int) ∧ (20 : Int) ≤ ((wI .i64 (4 * t)).toNat : Int))) <|
                let t3 := (s.drop 20).take ((wI .i64 (4 * t)).toNat - 20)
                oreq (decide ((0 : Int) ≤ (wI .i64 (4 * t)) ∧ (wI .i64 (4 * t)) ≤ (s.length : Int))) <|
                let t4 := (s.drop (wI .i64 (4 * t)).toNat).take (s.length - (wI .i64 (4 * t)).toNat)
                some ((tcp_Head.mk m m1 (wI .u32 m2) (wI .u32 m3) (wI .i64 (b2.toNat : Int)) m4 m5 t3, t4, 0)))))))))
def rx52 (x : tcp_Head × (List UInt8) × Int) : SRes := ⟨.tuple ⟨[.agg ⟨[.int .i64 x.1.SPort, .int .i64 x.1.DPort, .int .u32 x.1.Seq, .int .u32 x.1.Ack, .int .i64 x.1.Flags, .int .i64 x.1.Window, .int .i64 x.1.Urgent, .string ⟨⟨x.1.Options⟩⟩]⟩, .string ⟨⟨x.2.1⟩⟩, .int .i64 x.2.2]⟩, [], []⟩
def r52 (g : (List UInt8) → api_Addr → api_Addr → Option (tcp_Head × (List UInt8) × Int)) : Dec := dV asS fun (y0 : List UInt8) => dV uvapi_Addr fun (y1 : api_Addr) => dV uvapi_Addr fun (y2 : api_Addr) => dEnd (ofG (g y0 y1 y2) rx52)
theorem r52_c {g : (List UInt8) → api_Addr → api_Addr → Option (tcp_Head × (List UInt8) × Int)} {y0 : List UInt8} {y1 : api_Addr} {y2 : api_Addr} {x : tcp_Head × (List UInt8) × Int} (hx : g y0 y1 y2 = some x) : r52 g [.string ⟨⟨y0⟩⟩, .agg ⟨[.bool y1.V6, .int .u64 y1.Hi, .int .u64 y1.Lo]⟩, .agg ⟨[.bool y2.V6, .int .u64 y2.Hi, .int .u64 y2.Lo]⟩] [] = some (rx52 x) := (dV_eq (asS_c)).trans ((dV_eq (uvapi_Addr_c _)).trans ((dV_eq (uvapi_Addr_c _)).trans (ofG_eq hx)))
def s52 (g : (List UInt8) → api_Addr → api_Addr → Option (tcp_Head × (List UInt8) × Int)) : Summ := ⟨[.v, .v, .v], r52 g⟩
theorem r52_eq {g : (List UInt8) → api_Addr → api_Addr → Option (tcp_Head × (List UInt8) × Int)} {y0 : List UInt8} {y1 : api_Addr} {y2 : api_Addr} {x : tcp_Head × (List UInt8) × Int} (hx : g y0 y1 y2 = some x) : (s52 g).run [.string ⟨⟨y0⟩⟩, .agg ⟨[.bool y1.V6, .int .u64 y1.Hi, .int .u64 y1.Lo]⟩, .agg ⟨[.bool y2.V6, .int .u64 y2.Hi, .int .u64 y2.Lo]⟩] [] = some (rx52 x) := r52_c hx
abbrev sums52 (R02_Must : (List UInt8) → Int → Int → Option Int) (R03_Sum : (List UInt8) → Option Int) (R05_Pseudo : api_Addr → api_Addr → Int → Int → Option (List UInt8)) (R07_List : (List UInt8) → Option ((List R07_Opt) × Int)) : List (Nat × Summ) := [(74, s74 R02_Must), (75, s75 R03_Sum), (28, s28 R05_Pseudo), (55, s55 R07_List)]
theorem leads52 (R02_Must : (List UInt8) → Int → Int → Option Int) (R03_Sum : (List UInt8) → Option Int) (R05_Pseudo : api_Addr → api_Addr → Int → Int → Option (List UInt8)) (R07_List : (List UInt8) → Option ((List R07_Opt) × Int)) (hS : SumsOK Try.prog (aget (sums52 R02_Must R03_Sum R05_Pseudo R07_List))) (s : List UInt8) (src : api_Addr) (dst : api_Addr) (res : tcp_Head × (List UInt8) × Int) (h : R07_GetF R02_Must R03_Sum R05_Pseudo R07_List s src dst = some res) :
    Leads Try.prog 52 0 ⟨⟨52, 85, [(0, .string ⟨⟨s⟩⟩), (1, .agg ⟨[.bool src.V6, .int .u64 src.Hi, .int .u64 src.Lo]⟩), (2, .agg ⟨[.bool dst.V6, .int .u64 dst.Hi, .int .u64 dst.Lo]⟩)], [.code k52_45], [], false, none⟩, [], [], 0⟩ (fun v H _ => Res 0 (rx52 res) v H) := by
  unfold R07_GetF at h
  refine ev_ok tab_ok hS true 3000 ?_
  conv => whnf
  refine br.h h ?_ ?_ ?_
  · rfl
  · clear h; intro hb h; conv => whnf
    all_goals (cases h)
    all_goals exact Res.of [] rfl nw_0 (by decide) js_0 wr_0
  clear h; intro hb h; conv => whnf
  obtain ⟨b, hy, h2⟩ := obind.elim h; clear h; have h := h2; clear h2
  refine rdS.intro hy ?_
  conv => whnf
  let t : Int := wI .i64 (wI .u8 ((b.toNat : Int).tdiv 16))
  refine br.h h ?_ ?_ ?_
  · rfl
  · clear h; intro hb h; conv => whnf
    all_goals (cases h)
    all_goals exact Res.of [] rfl nw_0 (by decide) js_0 wr_0
  clear h; intro hb h; conv => whnf
  obtain ⟨b1, hy, h2⟩ := obind.elim h; clear h; have h := h2; clear h2
  refine rdS.intro hy ?_
  conv => whnf
  refine br.h h ?_ ?_ ?_
  · rfl
  · clear h; intro hb h; conv => whnf
    all_goals (cases h)
    all_goals exact Res.of [] rfl nw_0 (by decide) js_0 wr_0
  clear h; intro hb h; conv => whnf
  let t1 : Bool := decide ((s.length : Int) < (wI .i64 (4 * t)))
  refine br.h h ?_ ?_ ?_
  · rfl
  · clear h; intro hb h; conv => whnf
    all_goals (cases h)
    all_goals exact Res.of [] rfl nw_0 (by decide) js_0 wr_0
  clear h; intro hb h; conv => whnf
  obtain ⟨p, hy, h2⟩ := obind.elim h; clear h; have h := h2; clear h2
  refine sumK.introF [] (sumRun_of (aqs := [.agg ⟨[.bool src.V6, .int .u64 src.Hi, .int .u64 src.Lo]⟩, .agg ⟨[.bool dst.V6, .int .u64 dst.Hi, .int .u64 dst.Lo]⟩, .int .i64 6, .int .i64 (s.length : Int)]) (ws := []) (n := 0) (m := 0) (t' := 3) (ra_cons rfl rfl (ra_cons rfl rfl (ra_cons rfl rfl (ra_cons rfl rfl ra_nil)))) rfl (by rfl) (r28_eq hy) rfl rfl rfl rfl wb_nil an_nil rfl) ?_
  conv => whnf
  refine br.h h ?_ ?_ ?_
  · rfl
  · clear h; intro hb h; conv => whnf
    all_goals (cases h)
    all_goals exact Res.of [] rfl nw_0 (by decide) js_0 wr_0
  clear h; intro hb h; conv => whnf
  replace h := oreq.elim h; have hb := h.1; replace h := h.2
  first | (refine req.intro hb ?_; conv => whnf) | skip
  obtain ⟨s1, hy, h2⟩ := obind.elim h; clear h; have h := h2; clear h2
  refine sumK.introF [] (sumRun_of (aqs := [.string ⟨⟨p ++ s⟩⟩]) (ws := []) (n := 0) (m := 0) (t' := 3) (ra_cons rfl rfl ra_nil) rfl (by rfl) (r75_eq hy) rfl rfl rfl rfl wb_nil an_nil rfl) ?_
  conv => whnf
  refine br.h h ?_ ?_ ?_
  · rfl
  · clear h; intro hb h; conv => whnf
    all_goals (cases h)
    all_goals exact Res.of [] rfl nw_0 (by decide) js_0 wr_0
  clear h; intro hb h; conv => whnf
  replace h := oreq.elim h; have hb := h.1; replace h := h.2
  first | (refine req.intro hb ?_; conv => whnf) | skip
  let t2 : List UInt8 := (s.drop 20).take ((wI .i64 (4 * t)).toNat - 20)
  obtain ⟨l, hy, h2⟩ := obind.elim h; clear h; have h := h2; clear h2
  refine sumK.introF [] (sumRun_of (aqs := [.string ⟨⟨t2⟩⟩]) (ws := []) (n := 1) (m := 0) (t' := 4) (ra_cons rfl rfl ra_nil) rfl (by rfl) (r55_eq hy) rfl rfl rfl rfl wb_nil (an_cons (rn_T cR07_Opt_flat) an_nil) rfl) ?_
  conv => whnf
  refine br.h h ?_ ?_ ?_
  · rfl
  · clear h; intro hb h; conv => whnf
    all_goals (cases h)
    all_goals exact Res.of [] rfl nw_0 (by decide) js_0 wr_0
  clear h; intro hb h; conv => whnf
  obtain ⟨m, hy, h2⟩ := obind.elim h; clear h; have h := h2; clear h2
  refine sumK.introF [] (sumRun_of (aqs := [.string ⟨⟨s⟩⟩, .int .i64 0, .int .i64 2]) (ws := []) (n := 0) (m := 0) (t' := 5) (ra_cons rfl rfl (ra_cons rfl rfl (ra_cons rfl rfl ra_nil))) rfl (by rfl) (r74_eq hy) rfl rfl rfl rfl wb_nil an_nil rfl) ?_
  conv => whnf
  obtain ⟨m1, hy, h2⟩ := obind.elim h; clear h; have h := h2; clear h2
  refine sumK.introF [] (sumRun_of (aqs := [.string ⟨⟨s⟩⟩, .int .i64 2, .int .i64 2]) (ws := []) (n := 0) (m := 0) (t' := 7) (ra_cons rfl rfl (ra_cons rfl rfl (ra_cons rfl rfl ra_nil))) rfl (by rfl) (r74_eq hy) rfl rfl rfl rfl wb_nil an_nil rfl) ?_
  conv => whnf
  obtain ⟨m2, hy, h2⟩ := obind.elim h; clear h; have h := h2; clear h2
  refine sumK.introF [] (sumRun_of (aqs := [.string ⟨⟨s⟩⟩, .int .i64 4, .int .i64 4]) (ws := []) (n := 0) (m := 0) (t' := 9) (ra_cons rfl rfl (ra_cons rfl rfl (ra_cons rfl rfl ra_nil))) rfl (by rfl) (r74_eq hy) rfl rfl rfl rfl wb_nil an_nil rfl) ?_
  conv => whnf
  obtain ⟨m3, hy, h2⟩ := obind.elim h; clear h; have h := h2; clear h2
  refine sumK.introF [] (sumRun_of (aqs := [.string ⟨⟨s⟩⟩, .int .i64 8, .int .i64 4]) (ws := []) (n := 0) (m := 0) (t' := 12) (ra_cons rfl rfl (ra_cons rfl rfl (ra_cons rfl rfl ra_nil))) rfl (by rfl) (r74_eq hy) rfl rfl rfl rfl wb_nil an_nil rfl) ?_
  conv => whnf
  obtain ⟨b2, hy, h2⟩ := obind.elim h; clear h; have h := h2; clear h2
  refine rdS.intro hy ?_
  conv => whnf
  obtain ⟨m4, hy, h2⟩ := obind.elim h; clear h; have h := h2; clear h2
  refine sumK.introF [] (sumRun_of (aqs := [.string ⟨⟨s⟩⟩, .int .i64 14, .int .i64 2]) (ws := []) (n := 0) (m := 0) (t' := 18) (ra_cons rfl rfl (ra_cons rfl rfl (ra_cons rfl rfl ra_nil))) rfl (by rfl) (r74_eq hy) rfl rfl rfl rfl wb_nil an_nil rfl) ?_
  conv => whnf
  obtain ⟨m5, hy, h2⟩ := obind.elim h; clear h; have h := h2; clear h2
  refine sumK.introF [] (sumRun_of (aqs := [.string ⟨⟨s⟩⟩, .int .i64 18, .int .i64 2]) (ws := []) (n := 0) (m := 0) (t' := 20) (ra_cons rfl rfl (ra_cons rfl rfl (ra_cons rfl rfl ra_nil))) rfl (by rfl) (r74_eq hy) rfl rfl rfl rfl wb_nil an_nil rfl) ?_
  conv => whnf
  replace h := oreq.elim h; have hb := h.1; replace h := h.2
  first | (refine req.intro hb ?_; conv => whnf) | skip
  let t3 : List UInt8 := (s.drop 20).take ((wI .i64 (4 * t)).toNat - 20)
  replace h := oreq.elim h; have hb := h.1; replace h := h.2
  first | (refine req.intro hb ?_; conv => whnf) | skip
  let t4 : List UInt8 := (s.drop (wI .i64 (4 * t)).toNat).take (s.length - (wI .i64 (4 * t)).toNat)
  all_goals (cases h)
  all_goals exact Res.of [] rfl nw_0 (by decide) js_0 wr_0
theorem ok52 (R02_Must : (List UInt8) → Int → Int → Option Int) (R03_Sum : (List UInt8) → Option Int) (R05_Pseudo : api_Addr → api_Addr → Int → Int → Option (List UInt8)) (R07_List : (List UInt8) → Option ((List R07_Opt) × Int)) (hS : SumsOK Try.prog (aget (sums52 R02_Must R03_Sum R05_Pseudo R07_List))) : SumOK Try.prog 52 (s52 (R07_GetF R02_Must R03_Sum R05_Pseudo R07_List)) := by
  refine SumOK.of_leads tab_ok (fun ar os r ha hr => ?_) ⟨Try.f52, rfl, by decide, rfl⟩
  replace hr : r52 (R07_GetF R02_Must R03_Sum R05_Pseudo R07_List) ar (conts os) = some r := hr
  unfold r52 at hr
  generalize hc : conts os = C at hr
  have hq := dV.elim hr; clear hr; obtain ⟨v0, l1, y0, rfl, e0, hr⟩ := hq; obtain rfl := asS_eq _ _ e0
  have hq := dV.elim hr; clear hr; obtain ⟨v1, l2, y1, rfl, e1, hr⟩ := hq; obtain rfl := uvapi_Addr_eq _ _ e1
  have hq := dV.elim hr; clear hr; obtain ⟨v2, l3, y2, rfl, e2, hr⟩ := hq; obtain rfl := uvapi_Addr_eq _ _ e2
  have hq := dEnd.elim hr; clear hr; obtain ⟨rfl, rfl, hr⟩ := hq
  have hq := ofG.elim hr; clear hr; obtain ⟨x, h, rfl⟩ := hq
  obtain rfl := kinds_nil hc
  exact ⟨_, rfl, leads52 R02_Must R03_Sum R05_Pseudo R07_List hS _ _ _ x h⟩
def R07_Get : (List UInt8) → api_Addr → api_Addr → Option (tcp_Head × (List UInt8) × Int) := R07_GetF R02_Must R03_Sum R05_Pseudo R07_List
theorem lift52 : SumOK Try.prog 52 (s52 R07_Get) := ok52 R02_Must R03_Sum R05_Pseudo R07_List (SumsOK.of_tab ⟨lift74, lift75, lift28, lift55, trivial⟩)
end Go.Vm.Code

/- Chapter 7 in plain words: a segment written, a segment read. -/
namespace Go.Vm.Code
open Go Go.Vm

def H7 (h : tcp_Head) : Bool := inR h.SPort 65535 && inR h.DPort 65535 && inR h.Window 65535 && inR h.Urgent 65535 && inR h.Flags 255 && decide (h.Options.length % 4 = 0) && decide (h.Options.length ≤ 40)
theorem H7_inv {h : tcp_Head} (hh : H7 h = true) : (0 ≤ h.SPort ∧ h.SPort ≤ 65535) ∧ (0 ≤ h.DPort ∧ h.DPort ≤ 65535) ∧ (0 ≤ h.Window ∧ h.Window ≤ 65535) ∧ (0 ≤ h.Urgent ∧ h.Urgent ≤ 65535) ∧ (0 ≤ h.Flags ∧ h.Flags ≤ 255) ∧ h.Options.length % 4 = 0 ∧ h.Options.length ≤ 40 := by
  unfold H7 at hh
  simp only [Bool.and_eq_true, inR_iff, decide_eq_true_eq] at hh
  obtain ⟨⟨⟨⟨⟨⟨a, b⟩, c⟩, d⟩, e⟩, f⟩, g⟩ := hh
  exact ⟨a, b, c, d, e, f, g⟩
/-- numbers in their types -/
def W7 (h : tcp_Head) : Prop := (0 ≤ h.Seq ∧ h.Seq < 4294967296) ∧ 0 ≤ h.Ack ∧ h.Ack < 4294967296
/-- a head's bytes ahead of the check, and behind it -/
def ha7 (h : tcp_Head) : List UInt8 := be h.SPort.toNat 2 ++ be h.DPort.toNat 2 ++ be h.Seq.toNat 4 ++ be h.Ack.toNat 4 ++ be (4 * (20 + h.Options.length)) 1 ++ be h.Flags.toNat 1 ++ be h.Window.toNat 2
def hc7 (h : tcp_Head) (c : Nat) : List UInt8 := ha7 h ++ (be c 2 ++ (be h.Urgent.toNat 2 ++ h.Options))
theorem ha7_len (h : tcp_Head) : (ha7 h).length = 16 := by simp [ha7]
theorem hc7_len (h : tcp_Head) (c : Nat) : (hc7 h c).length = 20 + h.Options.length := by simp [hc7, ha7_len]; omega
theorem hc7_app (h : tcp_Head) (c : Nat) (l : List UInt8) : hc7 h c ++ l = ha7 h ++ (be c 2 ++ (be h.Urgent.toNat 2 ++ (h.Options ++ l))) := by simp only [hc7, List.append_assoc]
/-- the check -/
def ck7 (p : List UInt8) (h : tcp_Head) (l : List UInt8) : Nat := ckN (wsum (p ++ (hc7 h 0 ++ l)))
theorem ck7_sum {p : List UInt8} (hp : p.length % 2 = 0) (h : tcp_Head) (l : List UInt8) {c : Nat} (hc : c < 65536) : wsum (p ++ (hc7 h c ++ l)) = wsum (p ++ (hc7 h 0 ++ l)) + c := by
  have e : ∀ x, p ++ (hc7 h x ++ l) = (p ++ ha7 h) ++ (be x 2 ++ (be h.Urgent.toNat 2 ++ (h.Options ++ l))) := fun x => by rw [hc7_app, List.append_assoc]
  rw [e, e, wsum_mid (by rw [List.length_append, ha7_len]; omega) hc]
theorem ck7_ok {p : List UInt8} (hp : p.length % 2 = 0) (h : tcp_Head) (l : List UInt8) : ck7 p h l ≤ 65535 ∧ wsum (p ++ (hc7 h (ck7 p h l) ++ l)) % 65535 = 0 ∧ wsum (p ++ (hc7 h (ck7 p h l) ++ l)) ≠ 0 := by
  have := ckN_ok (wsum (p ++ (hc7 h 0 ++ l)))
  rw [ck7_sum hp h l (by unfold ck7; omega)]
  exact this
def put7 (h : tcp_Head) (src dst : api_Addr) (l : List UInt8) : List UInt8 × Int :=
  if H7 h = false then ([], 1) else if pseu src dst 6 (20 + h.Options.length + l.length) = [] then ([], 1) else if 65535 - (20 + (h.Options.length : Int)) < l.length then ([], 5) else
    (hc7 h (ck7 (pseu src dst 6 (20 + h.Options.length + l.length)) h l) ++ l, 0)
def zero7 : tcp_Head := ⟨0, 0, 0, 0, 0, 0, 0, []⟩
def get7 (s : List UInt8) (src dst : api_Addr) : tcp_Head × List UInt8 × Int :=
  if s.length < 20 then (zero7, [], 2) else if 4 * (vK s 12 1 / 16) < 20 then (zero7, [], 3) else if vK s 12 1 % 16 ≠ 0 then (zero7, [], 3) else if (s.length : Int) < 4 * (vK s 12 1 / 16) then (zero7, [], 2) else
    if pseu src dst 6 s.length = [] then (zero7, [], 1) else if norm (wsum (pseu src dst 6 s.length ++ s)) ≠ 65535 then (zero7, [], 4) else
      if (opt7 ((s.drop 20).take ((4 * (vK s 12 1 / 16)).toNat - 20))).2 ≠ 0 then (zero7, [], (opt7 ((s.drop 20).take ((4 * (vK s 12 1 / 16)).toNat - 20))).2) else
      (⟨vK s 0 2, vK s 2 2, vK s 4 4, vK s 8 4, vK s 13 1, vK s 14 2, vK s 18 2, (s.drop 20).take ((4 * (vK s 12 1 / 16)).toNat - 20)⟩, s.drop (4 * (vK s 12 1 / 16)).toNat, 0)
/-- the head as it is laid -/
theorem hd7_eq (h : tcp_Head) : putS h.SPort 2 ++ putS h.DPort 2 ++ putS h.Seq 4 ++ putS h.Ack 4 ++ putS (4 * (20 + (h.Options.length : Int))) 1 ++ putS h.Flags 1 ++ putS h.Window 2 ++ putS 0 2 ++ putS h.Urgent 2 ++ h.Options = hc7 h 0 := by
  have p4 : ∀ n : Int, putS n 4 = be n.toNat 4 := fun n => putS_be (k := 4) (by omega)
  have p2 : ∀ n : Int, putS n 2 = be n.toNat 2 := fun n => putS_be (k := 2) (by omega)
  have p1 : ∀ n : Int, putS n 1 = be n.toNat 1 := fun n => putS_be (k := 1) (by omega)
  simp only [p4, p2, p1, show (4 * (20 + (h.Options.length : Int))).toNat = 4 * (20 + h.Options.length) by omega, show (0 : Int).toNat = 0 from rfl]
  simp only [hc7, ha7, List.append_assoc]
theorem put7_fin {p t : List UInt8} {A B : List UInt8} (ht : t = A ++ (be 0 2 ++ B)) (hA : A.length = 16) (hl : p.length < 2 ^ 30) (hl2 : t.length < 2 ^ 30) : ((check_Of (p ++ t)).bind fun xo => (check_Set t 16 2 (wI .u64 xo)).bind fun s => some (s, (0 : Int))) = some (A ++ (be (ckN (wsum (p ++ t))) 2 ++ B), 0) := by
  have n := norm_le (wsum (p ++ t))
  rw [Of_eq (by rw [List.length_append]; omega), Option.bind_some, wU64 (by omega) (by omega), Set_eq (by omega) (by omega), Option.bind_some]
  have := setS_mid (A := A) (B := B) (p := 16) (c := 65535 - ((norm (wsum (p ++ t)) : Nat) : Int)) hA
  rw [← ht] at this
  rw [show ((16 : Nat) : Int) = 16 from rfl] at this
  rw [this]
  unfold ckN
  rw [show (65535 - ((norm (wsum (p ++ t)) : Nat) : Int)).toNat = 65535 - norm (wsum (p ++ t)) by omega]
theorem put7_rfin {p t : List UInt8} {A B : List UInt8} (ht : t = A ++ (be 0 2 ++ B)) (hA : A.length = 16) (hl : p.length < 2 ^ 30) (hl2 : t.length < 2 ^ 30) : ((R03_Of (p ++ t)).bind fun xo => (R03_Set t 16 2 (wI .u64 xo)).bind fun s => some (s, (0 : Int))) = some (A ++ (be (ckN (wsum (p ++ t))) 2 ++ B), 0) := by
  have n := norm_le (wsum (p ++ t))
  rw [R03_Of_eq (by rw [List.length_append]; omega), Option.bind_some, wU64 (by omega) (by omega), R03_Set_eq (by omega) (by omega) (by omega), Option.bind_some]
  have := setS_mid (A := A) (B := B) (p := 16) (c := 65535 - ((norm (wsum (p ++ t)) : Nat) : Int)) hA
  rw [← ht] at this
  rw [show ((16 : Nat) : Int) = 16 from rfl] at this
  rw [this]
  unfold ckN
  rw [show (65535 - ((norm (wsum (p ++ t)) : Nat) : Int)).toNat = 65535 - norm (wsum (p ++ t)) by omega]
theorem twithin_eq {m : Int} {l : List Int} (h : l.length < 2 ^ 20) : tcp_within m l = some (l.all fun x => inR x m) := by
  unfold tcp_within tcp_withinF
  have key := iter_eq (step := fun st => tcp_within_s1 m l st) (fun st => (l.drop st.toNat).all fun x => inR x m) (fun st => 0 ≤ st ∧ st ≤ l.length) (fun st => ((l.length : Int) - st).toNat) ?_ FUEL 0 ⟨by omega, by omega⟩ (by rw [FUEL_eq]; omega)
  · rw [key]; simp
  intro st ⟨g1, g2⟩
  obtain ⟨i, rfl⟩ := Int.eq_ofNat_of_zero_le g1
  unfold tcp_within_s1
  simp only [Int.toNat_natCast]
  by_cases hp : i < l.length
  · have ed : l.drop i = l[i] :: l.drop (i + 1) := List.drop_eq_getElem_cons hp
    rw [cond_p (by omega), oreq_p (by omega), List.getElem?_eq_getElem hp, Option.bind_some]
    by_cases hb : l[i] < 0
    · refine .inl ?_
      rw [cond_p hb, ed, List.all_cons, show inR l[i] m = false by unfold inR; simp; omega, Bool.false_and]
    by_cases hc : l[i] > m
    · refine .inl ?_
      rw [cond_n hb, cond_p hc, ed, List.all_cons, show inR l[i] m = false by unfold inR; simp; omega, Bool.false_and]
    · refine .inr ⟨((i + 1 : Nat) : Int), ?_, ⟨by omega, by omega⟩, by omega, ?_⟩
      · rw [cond_n hb, cond_n hc, wI64 (by omega) (by omega)]; rfl
      · rw [Int.toNat_natCast, ed, List.all_cons, show inR l[i] m = true by unfold inR; simp; omega, Bool.true_and]
  · refine .inl ?_
    rw [cond_n (by omega), List.drop_of_length_le (by omega)]; rfl
theorem in7_eq (n m : Int) : R07_in n m = some (inR n m) := by
  unfold R07_in R07_inF inR
  by_cases h : 0 ≤ n
  · rw [cond_p (by omega)]; simp [h]
  · rw [cond_n (by omega)]; simp [h]
theorem may7_eq (h : tcp_Head) : tcp_Head_may h = some (H7 h) := by
  unfold tcp_Head_may tcp_Head_mayF H7
  rw [twithin_eq (by simp), twithin_eq (by simp)]
  simp only [Option.bind_some, opt_mod, opt_le, List.all_cons, List.all_nil, Bool.and_true]
  cases inR h.SPort 65535 <;> cases inR h.DPort 65535 <;> cases inR h.Window 65535 <;> cases inR h.Urgent 65535 <;> cases inR h.Flags 255 <;> cases decide (h.Options.length % 4 = 0) <;> rfl
theorem right7_eq (h : tcp_Head) : R07_Right h = some (H7 h) := by
  unfold R07_Right R07_RightF H7
  simp only [in7_eq, Option.bind_some, opt_mod, opt_le]
  cases inR h.SPort 65535 <;> cases inR h.DPort 65535 <;> cases inR h.Window 65535 <;> cases inR h.Urgent 65535 <;> cases inR h.Flags 255 <;> cases decide (h.Options.length % 4 = 0) <;> cases decide (h.Options.length ≤ 40) <;> rfl
theorem num7_eq (n k : Int) : R07_num n k = some (putS (wI .u64 n) k) := by
  unfold R07_num R07_numF
  rw [R02_Put_eq (wU64_rng n).1 (wU64_rng n).2]; rfl
theorem put4 (n : Int) : putS n 4 = be n.toNat 4 := putS_be (k := 4) (by omega)
theorem put8' (n : Int) : putS n 8 = be n.toNat 8 := putS_be (k := 8) (by omega)
theorem put2' (n : Int) : putS n 2 = be n.toNat 2 := putS_be (k := 2) (by omega)
theorem put1' (n : Int) : putS n 1 = be n.toNat 1 := putS_be (k := 1) (by omega)
theorem laid7_eq {h : tcp_Head} (hh : H7 h = true) (hw : W7 h) : tcp_Head_laid h = some (hc7 h 0) := by
  obtain ⟨q1, q2, q3, q4, q5, q6, q7⟩ := H7_inv hh
  obtain ⟨w1, w2⟩ := hw
  unfold tcp_Head_laid tcp_Head_laidF
  obtain ⟨sp, hsp⟩ := Int.eq_ofNat_of_zero_le q1.1
  obtain ⟨dp, hdp⟩ := Int.eq_ofNat_of_zero_le q2.1
  obtain ⟨wi, hwi⟩ := Int.eq_ofNat_of_zero_le q3.1
  obtain ⟨ur, hur⟩ := Int.eq_ofNat_of_zero_le q4.1
  obtain ⟨fl, hfl⟩ := Int.eq_ofNat_of_zero_le q5.1
  obtain ⟨sq, hsq⟩ := Int.eq_ofNat_of_zero_le w1.1
  obtain ⟨ak, hak⟩ := Int.eq_ofNat_of_zero_le w2.1
  rw [hsp] at q1; rw [hdp] at q2; rw [hwi] at q3; rw [hur] at q4; rw [hfl] at q5; rw [hsq] at w1; rw [hak] at w2
  rw [hsp, hdp, hwi, hur, hfl, hsq, hak]
  have e1 : iorI .u64 (wI .u64 ((wI .u64 (sp : Int)) * 2 ^ 16)) (wI .u64 (dp : Int)) = ((sp * 65536 + dp : Nat) : Int) := by
    rw [wU64 (n := (sp : Int)) (by omega) (by omega), wU64 (n := (dp : Int)) (by omega) (by omega), wU64 (n := (sp : Int) * 2 ^ 16) (by omega) (by omega), iorU64_low 16 (by omega) (by omega) (by omega) (by omega) (by omega)]; omega
  have e2 : iorI .u64 (wI .u64 ((wI .u64 (sq : Int)) * 2 ^ 32)) (wI .u64 (ak : Int)) = ((sq * 4294967296 + ak : Nat) : Int) := by
    rw [wU64 (n := (sq : Int)) (by omega) (by omega), wU64 (n := (ak : Int)) (by omega) (by omega), wU64 (n := (sq : Int) * 2 ^ 32) (by omega) (by omega), iorU64_low 32 (by omega) (by omega) (by omega) (by omega) (by omega)]; omega
  have e3 : iorI .u64 (wI .u64 ((wI .u64 ((wI .u64 (wI .i64 (20 + (h.Options.length : Int)))).tdiv 4)) * 2 ^ 12)) (wI .u64 (fl : Int)) = ((4 * (20 + h.Options.length) * 256 + fl : Nat) : Int) := by
    rw [wI64 (n := 20 + (h.Options.length : Int)) (by omega) (by omega), wU64 (n := 20 + (h.Options.length : Int)) (by omega) (by omega), tdiv4, wU64 (n := (((20 + h.Options.length) / 4 : Nat) : Int)) (by omega) (by omega), wU64 (n := (fl : Int)) (by omega) (by omega), wU64 (n := (((20 + h.Options.length) / 4 : Nat) : Int) * 2 ^ 12) (by omega) (by omega), iorU64_low 12 (by omega) (by omega) (by omega) (by omega) (by omega)]; omega
  simp only [e1, e2, e3]
  have k1 : octet_Put ((sp * 65536 + dp : Nat) : Int) 4 = some (be sp 2 ++ be dp 2) := by
    rw [octet_Put_eq (by omega), put4, Int.toNat_natCast, be_two _ _ (by omega)]
  have k2 : octet_Put ((sq * 4294967296 + ak : Nat) : Int) 8 = some (be sq 4 ++ be ak 4) := by
    rw [octet_Put_eq (by omega), put8', Int.toNat_natCast, be_four _ _ (by omega)]
  have k3 : octet_Put ((4 * (20 + h.Options.length) * 256 + fl : Nat) : Int) 2 = some (be (4 * (20 + h.Options.length)) 1 ++ be fl 1) := by
    rw [octet_Put_eq (by omega), put2', Int.toNat_natCast, be_one _ _ (by omega)]
  have k4 : octet_Put (wI .u64 (wi : Int)) 2 = some (be wi 2) := by
    rw [wU64 (by omega) (by omega), octet_Put_eq (by omega), put2', Int.toNat_natCast]
  have k5 : octet_Put (wI .u64 (ur : Int)) 4 = some (be 0 2 ++ be ur 2) := by
    have := be_two 0 ur (by omega)
    rw [Nat.zero_mul, Nat.zero_add] at this
    rw [wU64 (by omega) (by omega), octet_Put_eq (by omega), put4, Int.toNat_natCast, this]
  rw [k1, Option.bind_some, k2, Option.bind_some, k3, Option.bind_some, k4, Option.bind_some, k5, Option.bind_some]
  rw [oreq_p (by simp), oreq_p (by simp), oreq_p (by simp), oreq_p (by simp), oreq_p (by simp; omega)]
  unfold hc7 ha7
  rw [hsp, hdp, hwi, hur, hfl, hsq, hak]
  simp only [Int.toNat_natCast, List.append_assoc]
theorem t7put_eq {h : tcp_Head} {src dst : api_Addr} {l : List UInt8} (hw : W7 h) (h1 : A4 src) (h2 : A4 dst) (hl : l.length < 2 ^ 20) (ho : h.Options.length < 2 ^ 20) : tcp_Put h src dst l = some (put7 h src dst l) := by
  unfold tcp_Put tcp_PutF put7
  simp only []
  rw [wI64 (n := 20 + (h.Options.length : Int)) (by omega) (by omega), wI64 (n := 20 + (h.Options.length : Int) + l.length) (by omega) (by omega), pseudo_eq h1 h2 (by omega) (by omega), Option.bind_some, may7_eq, Option.bind_some]
  have hp := pseu_len src dst 6 (20 + (h.Options.length : Int) + l.length)
  generalize pseu src dst 6 (20 + (h.Options.length : Int) + l.length) = p at *
  cases hh : H7 h
  · rfl
  rw [Bool.not_true, cond_false, if_neg (by decide)]
  by_cases e3 : p = []
  · subst e3; rfl
  rw [show (p == []) = false by simpa using e3, cond_false, if_neg e3, wI64 (n := 65535 - (20 + (h.Options.length : Int))) (by omega) (by omega)]
  by_cases h5 : (l.length : Int) > 65535 - (20 + (h.Options.length : Int))
  · rw [cond_p h5, if_pos (by omega)]
  rw [cond_n h5, if_neg (by omega), laid7_eq hh hw, Option.bind_some]
  have hlen := hc7_len h 0
  rw [oreq_p (by omega), oreq_p (by simp only [List.length_append]; omega)]
  have := put7_fin (p := p) (t := hc7 h 0 ++ l) (hc7_app h 0 l) (ha7_len h) (by omega) (by simp only [List.length_append]; omega)
  rw [this]
  unfold ck7
  rw [hc7_app h (ckN _) l]
theorem r7put_eq {h : tcp_Head} {src dst : api_Addr} {l : List UInt8} (hw : W7 h) (h1 : A4 src) (h2 : A4 dst) (hl : l.length < 2 ^ 20) (ho : h.Options.length < 2 ^ 20) : R07_Put h src dst l = some (put7 h src dst l) := by
  unfold R07_Put R07_PutF put7
  simp only []
  rw [wI64 (n := 20 + (h.Options.length : Int)) (by omega) (by omega), wI64 (n := 20 + (h.Options.length : Int) + l.length) (by omega) (by omega), pseudo5_eq h1 h2 (by omega) (by omega), Option.bind_some, right7_eq, Option.bind_some]
  have hp := pseu_len src dst 6 (20 + (h.Options.length : Int) + l.length)
  generalize pseu src dst 6 (20 + (h.Options.length : Int) + l.length) = p at *
  cases hh : H7 h
  · rfl
  rw [Bool.not_true, cond_false, if_neg (by decide)]
  by_cases e3 : p = []
  · subst e3; rfl
  rw [show (p == []) = false by simpa using e3, cond_false, if_neg e3, wI64 (n := 65535 - (20 + (h.Options.length : Int))) (by omega) (by omega)]
  by_cases h5 : (l.length : Int) > 65535 - (20 + (h.Options.length : Int))
  · rw [cond_p h5, if_pos (by omega)]
  rw [cond_n h5, if_neg (by omega)]
  obtain ⟨q1, q2, q3, q4, q5, q6, q7⟩ := H7_inv hh
  obtain ⟨w1, w2⟩ := hw
  simp only [num7_eq, Option.bind_some]
  rw [wI64 (n := h.Seq) (by omega) (by omega), wI64 (n := h.Ack) (by omega) (by omega), wI64 (n := 4 * (20 + (h.Options.length : Int))) (by omega) (by omega), wU64 q1.1 (by omega), wU64 q2.1 (by omega), wU64 w1.1 (by omega), wU64 w2.1 (by omega), wU64 (n := 4 * (20 + (h.Options.length : Int))) (by omega) (by omega), wU64 q5.1 (by omega), wU64 q3.1 (by omega), wU64 q4.1 (by omega), show wI .u64 0 = 0 from rfl]
  have hd := hd7_eq h
  have a1 := putS_len h.SPort 2
  have a2 := putS_len h.DPort 2
  have a3 := putS_len h.Seq 4
  have a4 := putS_len h.Ack 4
  have a5 := putS_len (4 * (20 + (h.Options.length : Int))) 1
  have a6 := putS_len h.Flags 1
  have a7 := putS_len h.Window 2
  have a8 := putS_len 0 2
  have a9 := putS_len h.Urgent 2
  have hlen := hc7_len h 0
  iterate 10 rw [oreq_p (by first | omega | (simp only [List.length_append]; omega))]
  rw [hd, oreq_p (by simp only [List.length_append]; omega)]
  have := put7_rfin (p := p) (t := hc7 h 0 ++ l) (hc7_app h 0 l) (ha7_len h) (by omega) (by simp only [List.length_append]; omega)
  rw [this]
  unfold ck7
  rw [hc7_app h (ckN _) l]
theorem parsed7_eq {s : List UInt8} {n : Nat} (hs : s.length < 2 ^ 38) (h20 : 20 ≤ n) (hn : n ≤ s.length) : tcp_parsed s (n : Int) = some ⟨vK s 0 2, vK s 2 2, vK s 4 4, vK s 8 4, vK s 13 1, vK s 14 2, vK s 18 2, (s.drop 20).take (n - 20)⟩ := by
  unfold tcp_parsed tcp_parsedF
  have N : ∀ (p k : Nat), 1 ≤ k → k ≤ 7 → p + k ≤ 20 → octet_Reader_Num ⟨s.drop p, true, false⟩ (k : Int) = some (vK s p k, ⟨s.drop (p + k), true, false⟩) := fun p k a b c => num_at a b (by omega) (by omega)
  have N0 : octet_Reader_Num ⟨s, true, false⟩ 2 = some (vK s 0 2, ⟨s.drop 2, true, false⟩) := N 0 2 (by omega) (by omega) (by omega)
  have N2 : octet_Reader_Num ⟨s.drop 2, true, false⟩ 2 = some (vK s 2 2, ⟨s.drop 4, true, false⟩) := N 2 2 (by omega) (by omega) (by omega)
  have N4 : octet_Reader_Num ⟨s.drop 4, true, false⟩ 4 = some (vK s 4 4, ⟨s.drop 8, true, false⟩) := N 4 4 (by omega) (by omega) (by omega)
  have N8 : octet_Reader_Num ⟨s.drop 8, true, false⟩ 4 = some (vK s 8 4, ⟨s.drop 12, true, false⟩) := N 8 4 (by omega) (by omega) (by omega)
  have N12 : octet_Reader_Num ⟨s.drop 12, true, false⟩ 2 = some (vK s 12 2, ⟨s.drop 14, true, false⟩) := N 12 2 (by omega) (by omega) (by omega)
  have N14 : octet_Reader_Num ⟨s.drop 14, true, false⟩ 2 = some (vK s 14 2, ⟨s.drop 16, true, false⟩) := N 14 2 (by omega) (by omega) (by omega)
  have N16 : octet_Reader_Num ⟨s.drop 16, true, false⟩ 2 = some (vK s 16 2, ⟨s.drop 18, true, false⟩) := N 16 2 (by omega) (by omega) (by omega)
  have N18 : octet_Reader_Num ⟨s.drop 18, true, false⟩ 2 = some (vK s 18 2, ⟨s.drop 20, true, false⟩) := N 18 2 (by omega) (by omega) (by omega)
  have r4 := vK_rng s 4 4 4294967296 (by decide)
  have r8 := vK_rng s 8 4 4294967296 (by decide)
  have r12 := vK_rng s 12 2 65536 (by decide)
  rw [rNew_eq, Option.bind_some, N0, Option.bind_some]
  simp only []
  rw [N2, Option.bind_some]
  simp only []
  rw [N4, Option.bind_some]
  simp only []
  rw [N8, Option.bind_some]
  simp only []
  rw [N12, Option.bind_some]
  simp only []
  rw [N14, Option.bind_some]
  simp only []
  rw [N16, Option.bind_some]
  simp only []
  rw [N18, Option.bind_some]
  simp only []
  rw [wI64 (n := (n : Int) - 20) (by omega) (by omega), show (n : Int) - 20 = ((n - 20 : Nat) : Int) by omega, text_at (by omega), Option.bind_some, wU32 r4.1 r4.2, wU32 r8.1 r8.2, andI64_mask 8 (by decide) (by omega) (by omega) (by omega)]
  have e12 : vK s 12 2 = (s[12].toNat * 256 + s[13].toNat : Int) := vK_two (s := s) (p := 12) (by omega)
  have e13 := vK_one (s := s) (p := 13) (by omega)
  have b13 := s[13].toNat_lt
  rw [show vK s 12 2 % 2 ^ 8 = vK s 13 1 by rw [e12, e13]; omega]
theorem and15 : ∀ x : Fin 256, andI .u8 ((x.val : Nat) : Int) 15 = ((x.val : Nat) : Int) % 16 := by decide +kernel
theorem t7get_eq {s : List UInt8} {src dst : api_Addr} (h1 : A4 src) (h2 : A4 dst) (hs : s.length < 2 ^ 19) : tcp_Get s src dst = some (get7 s src dst) := by
  unfold tcp_Get tcp_GetF get7
  have hz : (⟨0, 0, 0, 0, 0, 0, 0, []⟩ : tcp_Head) = zero7 := rfl
  rw [hz]
  by_cases h0 : s.length < 20
  · rw [cond_p (by omega), if_pos h0]
  rw [cond_n (by omega), if_neg h0, List.getElem?_eq_getElem (show 12 < s.length by omega)]
  have e12 := vK_one (s := s) (p := 12) (by omega)
  have r12 := vK_rng s 12 1 256 (by decide)
  have hb := s[12].toNat_lt
  simp only [Option.bind_some]
  rw [← e12, fdivP, show ((2 : Int) ^ 4) = 16 from rfl, wI64 (n := vK s 12 1 / 16) (by omega) (by omega), wI64 (n := 4 * (vK s 12 1 / 16)) (by omega) (by omega)]
  have ea : andI .u8 (vK s 12 1) 15 = vK s 12 1 % 16 := by
    rw [e12]; exact and15 ⟨s[12].toNat, hb⟩
  rw [ea]
  obtain ⟨t, ht⟩ := Int.eq_ofNat_of_zero_le (show 0 ≤ 4 * (vK s 12 1 / 16) by omega)
  rw [ht]
  simp only [Int.toNat_natCast]
  by_cases g2 : (t : Int) < 20
  · rw [cond_p g2, if_pos g2]
  rw [cond_n g2, if_neg g2]
  by_cases g3 : vK s 12 1 % 16 = 0
  · rw [show (vK s 12 1 % 16 != 0) = false by simpa using g3, cond_false, if_neg (by simpa using g3)]
    by_cases g4 : (s.length : Int) < t
    · rw [cond_p (by omega), if_pos g4]
    rw [cond_n (by omega), if_neg g4, pseudo_eq h1 h2 (by omega) (by omega), Option.bind_some]
    have hp := pseu_len src dst 6 (s.length : Int)
    generalize pseu src dst 6 (s.length : Int) = p at *
    by_cases e3 : p = []
    · subst e3; rfl
    rw [show (p == []) = false by simpa using e3, cond_false, if_neg e3, oreq_p (by omega), Right_eq (by simp only [List.length_append]; omega), Option.bind_some]
    by_cases g5 : norm (wsum (p ++ s)) = 65535
    · rw [if_neg (by simpa using g5), g5, show ((((65535 : Nat) : Int) == 65535)) = true from rfl, Bool.not_true, cond_false, parsed7_eq (by omega) (by omega) (by omega), Option.bind_some, t7_eq (by simp; omega), Option.bind_some]
      by_cases g6 : (opt7 ((s.drop 20).take (t - 20))).2 = 0
      · rw [if_neg (by simpa using g6)]
        simp only [g6, bne_self_eq_false, cond_false]
        rw [oreq_p (by omega), List.take_of_length_le (i := s.length - t) (by simp)]
      · rw [if_pos (by simpa using g6), show ((opt7 ((s.drop 20).take (t - 20))).2 != 0) = true by simpa using g6]; rfl
    · rw [if_pos (by simpa using g5), show ((((norm (wsum (p ++ s)) : Nat) : Int) == 65535)) = false by simp; omega]; rfl
  · rw [show (vK s 12 1 % 16 != 0) = true by simpa using g3, cond_true, if_pos (by simpa using g3)]
theorem r7get_eq {s : List UInt8} {src dst : api_Addr} (h1 : A4 src) (h2 : A4 dst) (hs : s.length < 2 ^ 19) : R07_Get s src dst = some (get7 s src dst) := by
  unfold R07_Get R07_GetF get7
  have hz : (⟨0, 0, 0, 0, 0, 0, 0, []⟩ : tcp_Head) = zero7 := rfl
  rw [hz]
  by_cases h0 : s.length < 20
  · rw [cond_p (by omega), if_pos h0]
  rw [cond_n (by omega), if_neg h0, List.getElem?_eq_getElem (show 12 < s.length by omega), List.getElem?_eq_getElem (show 13 < s.length by omega)]
  have e12 := vK_one (s := s) (p := 12) (by omega)
  have e13 := vK_one (s := s) (p := 13) (by omega)
  have r12 := vK_rng s 12 1 256 (by decide)
  have r13 := vK_rng s 13 1 256 (by decide)
  have r4 := vK_rng s 4 4 4294967296 (by decide)
  have r8 := vK_rng s 8 4 4294967296 (by decide)
  simp only [Option.bind_some]
  rw [← e12, ← e13, Int.tmod_eq_emod_of_nonneg r12.1, Int.tdiv_eq_ediv_of_nonneg r12.1, wU8 (n := vK s 12 1 / 16) (by omega) (by omega), wI64 (n := vK s 12 1 / 16) (by omega) (by omega), wI64 (n := 4 * (vK s 12 1 / 16)) (by omega) (by omega), wI64 (n := vK s 13 1) (by omega) (by omega)]
  obtain ⟨t, ht⟩ := Int.eq_ofNat_of_zero_le (show 0 ≤ 4 * (vK s 12 1 / 16) by omega)
  rw [ht]
  simp only [Int.toNat_natCast]
  by_cases g2 : (t : Int) < 20
  · rw [cond_p g2, if_pos g2]
  rw [cond_n g2, if_neg g2]
  by_cases g3 : vK s 12 1 % 16 = 0
  · rw [show (vK s 12 1 % 16 != 0) = false by simpa using g3, cond_false, if_neg (by simpa using g3)]
    by_cases g4 : (s.length : Int) < t
    · rw [cond_p (by omega), if_pos g4]
    rw [cond_n (by omega), if_neg g4, pseudo5_eq h1 h2 (by omega) (by omega), Option.bind_some]
    have hp := pseu_len src dst 6 (s.length : Int)
    generalize pseu src dst 6 (s.length : Int) = p at *
    by_cases e3 : p = []
    · subst e3; rfl
    rw [show (p == []) = false by simpa using e3, cond_false, if_neg e3, oreq_p (by omega), R03_Sum_eq (by simp only [List.length_append]; omega), Option.bind_some]
    by_cases g5 : norm (wsum (p ++ s)) = 65535
    · rw [if_neg (by simpa using g5), g5, show ((((65535 : Nat) : Int) != 65535)) = false from rfl, cond_false, oreq_p (by omega), l7_eq (by simp; omega), Option.bind_some]
      by_cases g6 : (opt7 ((s.drop 20).take (t - 20))).2 = 0
      · rw [if_neg (by simpa using g6)]
        simp only [g6, bne_self_eq_false, cond_false]
        have M : ∀ (p k : Nat), 1 ≤ k → k ≤ 7 → p + k ≤ 20 → R02_Must s (p : Int) (k : Int) = some (vK s p k) := fun p k a b c => must_at (by omega) a b (by omega)
        have M0 : R02_Must s 0 2 = some (vK s 0 2) := M 0 2 (by omega) (by omega) (by omega)
        have M2 : R02_Must s 2 2 = some (vK s 2 2) := M 2 2 (by omega) (by omega) (by omega)
        have M4 : R02_Must s 4 4 = some (vK s 4 4) := M 4 4 (by omega) (by omega) (by omega)
        have M8 : R02_Must s 8 4 = some (vK s 8 4) := M 8 4 (by omega) (by omega) (by omega)
        have M14 : R02_Must s 14 2 = some (vK s 14 2) := M 14 2 (by omega) (by omega) (by omega)
        have M18 : R02_Must s 18 2 = some (vK s 18 2) := M 18 2 (by omega) (by omega) (by omega)
        rw [M0, M2, M4, M8, M14, M18]
        simp only [Option.bind_some]
        rw [oreq_p (by omega), oreq_p (by omega), List.take_of_length_le (i := s.length - t) (by simp), wU32 r4.1 r4.2, wU32 r8.1 r8.2]
      · rw [if_pos (by simpa using g6), show ((opt7 ((s.drop 20).take (t - 20))).2 != 0) = true by simpa using g6]; rfl
    · rw [if_pos (by simpa using g5), show ((((norm (wsum (p ++ s)) : Nat) : Int) != 65535)) = true by simp; omega]; rfl
  · rw [show (vK s 12 1 % 16 != 0) = true by simpa using g3, cond_true, if_pos (by simpa using g3)]
end Go.Vm.Code

namespace Go.Vm.Code
open Go Go.Vm Go.Proofs
set_option maxRecDepth 100000
set_option maxHeartbeats 4000000
set_option linter.unusedVariables false

/-! cloakroom/cloakroomref07.Small -/
def R07_Small_s1 (l : List (List UInt8)) (most : Int) (i : Int) : Option (Sum Int Bool) :=
  cond (decide (i < (l.length : Int)))
    (
    oreq (decide ((0 : Int) ≤ i ∧ i < (l.length : Int))) <|
    (l[i.toNat]?).bind fun (e : List UInt8) =>
    cond (decide ((e.length : Int) > most))
      (
      some (.inr (false)))
      (
      some (.inl (wI .i64 (i + 1)))))
    (
    some (.inr (true)))
def R07_SmallF (l : List (List UInt8)) (most : Int) : Option Bool :=
  iter (fun st => R07_Small_s1 l most st) FUEL 0
def rx14 (x : Bool) : SRes := ⟨.bool x, [], [none]⟩
def r14 (g : (List (List UInt8)) → Int → Option Bool) : Dec := dSl 0 1 (unL asS) fun (y0 : List (List UInt8)) => dV (asI .i64) fun (y1 : Int) => dEnd (ofG (g y0 y1) rx14)
theorem r14_c {g : (List (List UInt8)) → Int → Option Bool} {y0 : List (List UInt8)} {y1 : Int} {x : Bool} (hx : g y0 y1 = some x) : r14 g [.slice (some ⟨0, 0, none⟩) y0.length 1, .int .i64 y1] [some (vS y0)] = some (rx14 x) := (dSl_eq (unS_vS _)).trans ((dV_eq (asI_c _)).trans (ofG_eq hx))
def s14 (g : (List (List UInt8)) → Int → Option Bool) : Summ := ⟨[.sl 1, .v], r14 g⟩
theorem r14_eq {g : (List (List UInt8)) → Int → Option Bool} {y0 : List (List UInt8)} {y1 : Int} {x : Bool} (hx : g y0 y1 = some x) : (s14 g).run [.slice (some ⟨0, 0, none⟩) y0.length 1, .int .i64 y1] [some (vS y0)] = some (rx14 x) := r14_c hx
abbrev sums14 : List (Nat × Summ) := []
def head14_1 (l : List (List UInt8)) (most : Int) (i : Int) : VM :=
  ⟨⟨14, 19, [(0, .slice (some ⟨0, 0, none⟩) l.length 1), (1, .int .i64 most), (5, .int .i64 i)], [.code k14_13, .inLoop k14_13, .inBlock 0, .code k14_18], [], false, none⟩, [], [(0, .row false (vS l))], 1⟩
theorem loop14_1 (hS : SumsOK Try.prog (aget (sums14))) (l : List (List UInt8)) (most : Int) (res : Bool) : ∀ fuel (st : Int) (o : Bool), iter (fun st => R07_Small_s1 l most st) fuel st = some o → (o = res) →
    Leads Try.prog 14 1 (head14_1 l most st) (fun v H _ => Res 1 (rx14 res) v H) := by
  intro fuel st o h hc
  refine iter_leads (head := fun st => head14_1 l most st) (C := fun o => (o = res)) ?_ fuel st o h hc
  clear h hc o st fuel
  intro i o h hc
  replace h : R07_Small_s1 l most i = some o := h
  show Leads Try.prog 14 1 (head14_1 l most i) (fun v H _ => Res 1 (rx14 res) v H)
  unfold R07_Small_s1 at h
  refine ev_ok tab_ok hS true 3000 ?_
  conv => whnf
  refine br.h2 h ?_ ?_ ?_
  · rfl
  · clear h; intro hb h; conv => whnf
    all_goals (cases h; cases hc)
    all_goals exact Res.of [] rfl nw_0 (by decide) js_0 (wr_n wr_0)
  clear h; intro hb h; conv => whnf
  replace h := oreq.elim h; have hb := h.1; replace h := h.2
  first | (refine req.intro hb ?_; conv => whnf) | skip
  obtain ⟨e, hy, h2⟩ := obind.elim h; clear h; have h := h2; clear h2
  refine rd.S hy (by first | rfl | (rw [Nat.zero_add, Nat.mul_one]; done) | omega) ?_
  conv => whnf
  refine br.h h ?_ ?_ ?_
  · rfl
  · clear h; intro hb h; conv => whnf
    all_goals (cases h; cases hc)
    all_goals exact Res.of [] rfl nw_0 (by decide) js_0 (wr_n wr_0)
  clear h; intro hb h; conv => whnf
  cases h; simp only [Sum.elim_inl, head14_1] at hc
  refine Leads.re hc [(0, 0)] rfl ?_ ?_ <;> (repeat' first | exact trivial | refine ⟨⟨_, rfl, rfl⟩, ?_⟩ | refine ⟨⟨_, _, rfl, rfl, .rowF (vI_flat _ _) id⟩, ?_⟩ | refine ⟨⟨_, _, rfl, rfl, .rowF (vS_flat _) id⟩, ?_⟩ | refine ⟨⟨_, _, rfl, rfl, .rowF (vB_flat _) id⟩, ?_⟩ | refine ⟨⟨_, _, rfl, rfl, .rowF (vT_flat (by first | exact ctcp_Head_flat | exact capi_Addr_flat | exact ctcp_Opt_flat | exact coctet_Reader_flat | exact cR07_Opt_flat) _) id⟩, ?_⟩ | refine ⟨⟨_, _, rfl, rfl, .tyF (vI_flat _ _)⟩, ?_⟩ | refine ⟨⟨_, _, rfl, rfl, .ty rfl⟩, ?_⟩ | refine ⟨⟨_, _, rfl, rfl, .cells rfl⟩, ?_⟩ | refine ⟨⟨_, _, rfl, rfl, .row rfl id⟩, ?_⟩ | refine ⟨⟨_, _, rfl, rfl, .cr rfl⟩, ?_⟩ | refine ⟨⟨_, _, rfl, rfl, .rc rfl⟩, ?_⟩ | refine ⟨⟨_, _, rfl, rfl, .marks⟩, ?_⟩ | refine ⟨⟨_, _, rfl, rfl, .siter _ _⟩, ?_⟩ | refine ⟨⟨_, _, rfl, rfl, .loop rfl rfl rfl rfl (by repeat' first | exact trivial | refine ⟨rfl, ?_⟩) rfl rfl rfl rfl⟩, ?_⟩)
theorem leads14 (hS : SumsOK Try.prog (aget (sums14))) (l : List (List UInt8)) (most : Int) (res : Bool) (h : R07_SmallF l most = some res) :
    Leads Try.prog 14 1 ⟨⟨14, 19, [(0, .slice (some ⟨0, 0, none⟩) l.length 1), (1, .int .i64 most)], [.code k14_20], [], false, none⟩, [], [(0, .row false (vS l))], 1⟩ (fun v H _ => Res 1 (rx14 res) v H) := by
  unfold R07_SmallF at h
  refine ev_ok tab_ok hS true 3000 ?_
  conv => whnf
  have hl := loop14_1 hS _ _ res _ _ _ h rfl; simp only [head14_1] at hl
  refine Leads.re hl [(0, 0)] rfl ?_ ?_ <;> (repeat' first | exact trivial | refine ⟨⟨_, rfl, rfl⟩, ?_⟩ | refine ⟨⟨_, _, rfl, rfl, .rowF (vI_flat _ _) id⟩, ?_⟩ | refine ⟨⟨_, _, rfl, rfl, .rowF (vS_flat _) id⟩, ?_⟩ | refine ⟨⟨_, _, rfl, rfl, .rowF (vB_flat _) id⟩, ?_⟩ | refine ⟨⟨_, _, rfl, rfl, .rowF (vT_flat (by first | exact ctcp_Head_flat | exact capi_Addr_flat | exact ctcp_Opt_flat | exact coctet_Reader_flat | exact cR07_Opt_flat) _) id⟩, ?_⟩ | refine ⟨⟨_, _, rfl, rfl, .tyF (vI_flat _ _)⟩, ?_⟩ | refine ⟨⟨_, _, rfl, rfl, .ty rfl⟩, ?_⟩ | refine ⟨⟨_, _, rfl, rfl, .cells rfl⟩, ?_⟩ | refine ⟨⟨_, _, rfl, rfl, .row rfl id⟩, ?_⟩ | refine ⟨⟨_, _, rfl, rfl, .cr rfl⟩, ?_⟩ | refine ⟨⟨_, _, rfl, rfl, .rc rfl⟩, ?_⟩ | refine ⟨⟨_, _, rfl, rfl, .marks⟩, ?_⟩ | refine ⟨⟨_, _, rfl, rfl, .siter _ _⟩, ?_⟩ | refine ⟨⟨_, _, rfl, rfl, .loop rfl rfl rfl rfl (by repeat' first | exact trivial | refine ⟨rfl, ?_⟩) rfl rfl rfl rfl⟩, ?_⟩)
theorem ok14 (hS : SumsOK Try.prog (aget (sums14))) : SumOK Try.prog 14 (s14 (R07_SmallF)) := by
  refine SumOK.of_leads tab_ok (fun ar os r ha hr => ?_) ⟨Try.f14, rfl, by decide, rfl⟩
  replace hr : r14 (R07_SmallF) ar (conts os) = some r := hr
  unfold r14 at hr
  generalize hc : conts os = C at hr
  have hq := dSl.elim hr; clear hr; obtain ⟨c0, l1, C, y0, rfl, rfl, e0, hr⟩ := hq; obtain rfl := unS_eq e0
  have hq := dV.elim hr; clear hr; obtain ⟨v1, l2, y1, rfl, e1, hr⟩ := hq; obtain rfl := asI_eq _ _ _ e1
  have hq := dEnd.elim hr; clear hr; obtain ⟨rfl, rfl, hr⟩ := hq
  have hq := ofG.elim hr; clear hr; obtain ⟨x, h, rfl⟩ := hq
  obtain ⟨os, rfl, ha, hc⟩ := kinds_some ha hc
  obtain rfl := kinds_nil hc
  exact ⟨_, rfl, leads14 hS _ _ x h⟩
def R07_Small : (List (List UInt8)) → Int → Option Bool := R07_SmallF
theorem lift14 : SumOK Try.prog 14 (s14 R07_Small) := ok14 (SumsOK.of_tab trivial)
end Go.Vm.Code

/- One byte, and small lists. -/
namespace Go.Vm.Code
open Go Go.Vm
theorem rdr_len_le (r : octet_Reader) (k : Int) : (rdr r k).s.length ≤ r.s.length := by unfold rdr; split <;> simp
/-- one byte's number -/
def b1 (s : List UInt8) (i : Nat) : Nat := valL ((s.drop i).take 1)
theorem b1_get {s : List UInt8} {i : Nat} (h : i < s.length) : b1 s i = s[i].toNat := by
  unfold b1
  rw [List.drop_eq_getElem_cons h]
  show valL [s[i]] = _
  rw [val_cons]; simp
theorem b1_lt (s : List UInt8) (i : Nat) : b1 s i < 256 := val_take_lt _ (by decide)
theorem small_eq {l : List (List UInt8)} {m : Int} (h : l.length < 2 ^ 20) : R07_Small l m = some (l.all fun x => decide ((x.length : Int) ≤ m)) := by
  unfold R07_Small R07_SmallF
  have key := iter_eq (step := fun st => R07_Small_s1 l m st) (fun st => (l.drop st.toNat).all fun x => decide ((x.length : Int) ≤ m)) (fun st => 0 ≤ st ∧ st ≤ l.length) (fun st => ((l.length : Int) - st).toNat) ?_ FUEL 0 ⟨by omega, by omega⟩ (by rw [FUEL_eq]; omega)
  · rw [key]; simp
  intro st ⟨g1, g2⟩
  obtain ⟨i, rfl⟩ := Int.eq_ofNat_of_zero_le g1
  unfold R07_Small_s1
  simp only [Int.toNat_natCast]
  by_cases hp : i < l.length
  · have ed : l.drop i = l[i] :: l.drop (i + 1) := List.drop_eq_getElem_cons hp
    rw [cond_p (by omega), oreq_p (by omega)]
    have e1 : l[i]? = some l[i] := by simp [hp]
    rw [e1, Option.bind_some]
    by_cases hb : (l[i].length : Int) > m
    · refine .inl ?_
      rw [cond_p hb, ed, List.all_cons, decide_eq_false (by omega), Bool.false_and]
    · refine .inr ⟨((i + 1 : Nat) : Int), ?_, ⟨by omega, by omega⟩, by omega, ?_⟩
      · rw [cond_n hb, wI64 (by omega) (by omega)]; rfl
      · rw [Int.toNat_natCast, ed, List.all_cons, decide_eq_true (by omega), Bool.true_and]
  · refine .inl ?_
    rw [cond_n (by omega), List.drop_of_length_le (by omega)]; rfl
end Go.Vm.Code

namespace Go.Vm.Code
open Go Go.Vm Go.Proofs
set_option maxRecDepth 100000
set_option maxHeartbeats 4000000
set_option linter.unusedVariables false

/-! cloakroom/tcp.Stamp -/
def tcp_Stamp_s1 (octet_Get : (List UInt8) → Int → Int → Option (Int × Bool)) (text : List UInt8) (i : Int) : Option (Sum Int (Int × Int × Int)) :=
  cond (decide (i < (text.length : Int)))
    (
    oreq (decide (0 ≤ i)) <|
    (text[i.toNat]?).bind fun (b : UInt8) =>
    cond ((b.toNat : Int) == 0)
      (
      some (.inr ((0, 0, (-1)))))
      (
      cond ((b.toNat : Int) == 1)
        (
        some (.inl (wI .i64 (i + 1))))
        (
        let t := decide ((wI .i64 (i + 1)) < (text.length : Int))
        cond (t)
          (
          oreq (decide (0 ≤ (wI .i64 (i + 1)))) <|
          (text[(wI .i64 (i + 1)).toNat]?).bind fun (b1 : UInt8) =>
          cond (decide ((wI .i64 (b1.toNat : Int)) < 2))
            (
            some (.inr ((0, 0, (-1)))))
            (
            let t1 := decide ((wI .i64 (b1.toNat : Int)) > (wI .i64 ((text.length : Int) - i)))
            cond (t1)
              (
              some (.inr ((0, 0, (-1)))))
              (
              oreq (decide (0 ≤ i)) <|
              (text[i.toNat]?).bind fun (b2 : UInt8) =>
              oreq (decide ((0 : Int) ≤ (wI .i64 (i + (wI .i64 (b1.toNat : Int)))) ∧ (wI .i64 (i + (wI .i64 (b1.toNat : Int)))) ≤ (text.length : Int) ∧ (0 : Int) ≤ (wI .i64 (i + 2)) ∧ (wI .i64 (i + 2)) ≤ ((wI .i64 (i + (wI .i64 (b1.toNat : Int)))).toNat : Int))) <|
              let t2 := (text.drop (wI .i64 (i + 2)).toNat).take ((wI .i64 (i + (wI .i64 (b1.toNat : Int)))).toNat - (wI .i64 (i + 2)).toNat)
              cond ((wI .i64 (b2.toNat : Int)) != 8)
                (
                some (.inl (wI .i64 (i + (wI .i64 (b1.toNat : Int))))))
                (
                (octet_Get t2 0 8).bind fun xg =>
                cond (xg.2)
                  (
                  cond ((t2.length : Int) == 8)
                    (
                    some (.inr ((wI .u32 (xg.1.fdiv (2 ^ 32)), wI .u32 xg.1, wI .i64 (i + 2)))))
                    (
                    some (.inr ((0, 0, (-1))))))
                  (
                  some (.inr ((0, 0, (-1)))))))))
          (
          some (.inr ((0, 0, (-1))))))))
    (
    some (.inr ((0, 0, (-1)))))
def tcp_StampF (octet_Get : (List UInt8) → Int → Int → Option (Int × Bool)) (tcp_List : (List UInt8) → Option ((List tcp_Opt) × Int)) (text : List UInt8) : Option (Int × Int × Int) :=
  (tcp_List text).bind fun l =>
  cond (l.2 != 0)
    (
    some ((0, 0, (-1))))
    (
    iter (fun st => tcp_Stamp_s1 octet_Get text st) FUEL 0)
def rx56 (x : Int × Int × Int) : SRes := ⟨.tuple ⟨[.int .u32 x.1, .int .u32 x.2.1, .int .i64 x.2.2]⟩, [], []⟩
def r56 (g : (List UInt8) → Option (Int × Int × Int)) : Dec := dV asS fun (y0 : List UInt8) => dEnd (ofG (g y0) rx56)
theorem r56_c {g : (List UInt8) → Option (Int × Int × Int)} {y0 : List UInt8} {x : Int × Int × Int} (hx : g y0 = some x) : r56 g [.string ⟨⟨y0⟩⟩] [] = some (rx56 x) := (dV_eq (asS_c)).trans (ofG_eq hx)
def s56 (g : (List UInt8) → Option (Int × Int × Int)) : Summ := ⟨[.v], r56 g⟩
theorem r56_eq {g : (List UInt8) → Option (Int × Int × Int)} {y0 : List UInt8} {x : Int × Int × Int} (hx : g y0 = some x) : (s56 g).run [.string ⟨⟨y0⟩⟩] [] = some (rx56 x) := r56_c hx
abbrev sums56 (octet_Get : (List UInt8) → Int → Int → Option (Int × Bool)) (tcp_List : (List UInt8) → Option ((List tcp_Opt) × Int)) : List (Nat × Summ) := [(101, s101 octet_Get), (54, s54 tcp_List)]
def head56_1 (text : List UInt8) (i : Int) : VM :=
  ⟨⟨128, 62, [(0, .func (.yield 6) #[] #[]), (1, .pointer (some ⟨4, 0, none⟩)), (3, .int .i64 i)], [.code k128_35, .inLoop k128_35, .inBlock 0], [], false, none⟩, [⟨56, 46, [(2, .pointer (some ⟨0, 0, none⟩)), (3, .pointer (some ⟨1, 0, none⟩)), (4, .pointer (some ⟨2, 0, none⟩))], [.inRangeFunc 6, .inBlock 0, .code k56_27], [5], false, none⟩], [(0, .cells [.int .u32 0]), (1, .cells [.int .u32 0]), (2, .cells [.int .i64 0]), (4, .cells [.string ⟨⟨text⟩⟩]), (5, .marks), (6, .loop ⟨.ready, none, 56, 46, [(2, .pointer (some ⟨0, 0, none⟩)), (3, .pointer (some ⟨1, 0, none⟩)), (4, .pointer (some ⟨2, 0, none⟩))], [19], k56_9, k56_22, 5⟩)], 7⟩
theorem loop56_1 (octet_Get : (List UInt8) → Int → Int → Option (Int × Bool)) (tcp_List : (List UInt8) → Option ((List tcp_Opt) × Int)) (hS : SumsOK Try.prog (aget (sums56 octet_Get tcp_List))) (text : List UInt8) (res : Int × Int × Int) : ∀ fuel (st : Int) (o : Int × Int × Int), iter (fun st => tcp_Stamp_s1 octet_Get text st) fuel st = some o → (o = res) →
    Leads Try.prog 56 0 (head56_1 text st) (fun v H _ => Res 0 (rx56 res) v H) := by
  intro fuel st o h hc
  refine iter_leads (head := fun st => head56_1 text st) (C := fun o => (o = res)) ?_ fuel st o h hc
  clear h hc o st fuel
  intro i o h hc
  replace h : tcp_Stamp_s1 octet_Get text i = some o := h
  show Leads Try.prog 56 0 (head56_1 text i) (fun v H _ => Res 0 (rx56 res) v H)
  unfold tcp_Stamp_s1 at h
  refine ev_ok tab_ok hS true 3000 ?_
  conv => whnf
  refine br.h2 h ?_ ?_ ?_
  · rfl
  · clear h; intro hb h; conv => whnf
    all_goals (cases h; cases hc)
    all_goals exact Res.of [] rfl nw_0 (by decide) js_0 wr_0
  clear h; intro hb h; conv => whnf
  replace h := oreq.elim h; have hb := h.1; replace h := h.2
  first | (refine req.intro hb ?_; conv => whnf) | skip
  obtain ⟨b, hy, h2⟩ := obind.elim h; clear h; have h := h2; clear h2
  refine rdS.intro hy ?_
  conv => whnf
  refine br.h h ?_ ?_ ?_
  · rfl
  · clear h; intro hb h; conv => whnf
    all_goals (cases h; cases hc)
    all_goals exact Res.of [] rfl nw_0 (by decide) js_0 wr_0
  clear h; intro hb h; conv => whnf
  refine br.h h ?_ ?_ ?_
  · rfl
  · clear h; intro hb h; conv => whnf
    cases h; simp only [Sum.elim_inl, head56_1] at hc
    refine Leads.re hc [(0, 0), (1, 1), (2, 2), (4, 4), (5, 5), (6, 6)] rfl ?_ ?_ (hu := by repeat' first | exact trivial | refine ⟨⟨rfl, rfl, rfl, rfl, rfl, ?_, rfl, rfl⟩, ?_⟩ | refine ⟨⟨_, rfl, rfl⟩, ?_⟩) <;> (repeat' first | exact trivial | refine ⟨⟨_, rfl, rfl⟩, ?_⟩ | refine ⟨⟨_, _, rfl, rfl, .rowF (vI_flat _ _) id⟩, ?_⟩ | refine ⟨⟨_, _, rfl, rfl, .rowF (vS_flat _) id⟩, ?_⟩ | refine ⟨⟨_, _, rfl, rfl, .rowF (vB_flat _) id⟩, ?_⟩ | refine ⟨⟨_, _, rfl, rfl, .rowF (vT_flat (by first | exact ctcp_Head_flat | exact capi_Addr_flat | exact ctcp_Opt_flat | exact coctet_Reader_flat | exact cR07_Opt_flat) _) id⟩, ?_⟩ | refine ⟨⟨_, _, rfl, rfl, .tyF (vI_flat _ _)⟩, ?_⟩ | refine ⟨⟨_, _, rfl, rfl, .ty rfl⟩, ?_⟩ | refine ⟨⟨_, _, rfl, rfl, .cells rfl⟩, ?_⟩ | refine ⟨⟨_, _, rfl, rfl, .row rfl id⟩, ?_⟩ | refine ⟨⟨_, _, rfl, rfl, .cr rfl⟩, ?_⟩ | refine ⟨⟨_, _, rfl, rfl, .rc rfl⟩, ?_⟩ | refine ⟨⟨_, _, rfl, rfl, .marks⟩, ?_⟩ | refine ⟨⟨_, _, rfl, rfl, .siter _ _⟩, ?_⟩ | refine ⟨⟨_, _, rfl, rfl, .loop rfl rfl rfl rfl (by repeat' first | exact trivial | refine ⟨rfl, ?_⟩) rfl rfl rfl rfl⟩, ?_⟩)
  clear h; intro hb h; conv => whnf
  let t : Bool := decide ((wI .i64 (i + 1)) < (text.length : Int))
  refine br.h2 h ?_ ?_ ?_
  · rfl
  · clear h; intro hb h; conv => whnf
    all_goals (cases h; cases hc)
    all_goals exact Res.of [] rfl nw_0 (by decide) js_0 wr_0
  clear h; intro hb h; conv => whnf
  replace h := oreq.elim h; have hb := h.1; replace h := h.2
  first | (refine req.intro hb ?_; conv => whnf) | skip
  obtain ⟨b1, hy, h2⟩ := obind.elim h; clear h; have h := h2; clear h2
  refine rdS.intro hy ?_
  conv => whnf
  refine br.h h ?_ ?_ ?_
  · rfl
  · clear h; intro hb h; conv => whnf
    all_goals (cases h; cases hc)
    all_goals exact Res.of [] rfl nw_0 (by decide) js_0 wr_0
  clear h; intro hb h; conv => whnf
  let t1 : Bool := decide ((wI .i64 (b1.toNat : Int)) > (wI .i64 ((text.length : Int) - i)))
  refine br.h h ?_ ?_ ?_
  · rfl
  · clear h; intro hb h; conv => whnf
    all_goals (cases h; cases hc)
    all_goals exact Res.of [] rfl nw_0 (by decide) js_0 wr_0
  clear h; intro hb h; conv => whnf
  replace h := oreq.elim h; have hb := h.1; replace h := h.2
  first | (refine req.intro hb ?_; conv => whnf) | skip
  obtain ⟨b2, hy, h2⟩ := obind.elim h; clear h; have h := h2; clear h2
  refine rdS.intro hy ?_
  conv => whnf
  replace h := oreq.elim h; have hb := h.1; replace h := h.2
  first | (refine req.intro hb ?_; conv => whnf) | skip
  let t2 : List UInt8 := (text.drop (wI .i64 (i + 2)).toNat).take ((wI .i64 (i + (wI .i64 (b1.toNat : Int)))).toNat - (wI .i64 (i + 2)).toNat)
  refine br.h h ?_ ?_ ?_
  · rfl
  · clear h; intro hb h; conv => whnf
    cases h; simp only [Sum.elim_inl, head56_1] at hc
    refine Leads.re hc [(0, 0), (1, 1), (2, 2), (4, 4), (5, 5), (6, 6)] rfl ?_ ?_ (hu := by repeat' first | exact trivial | refine ⟨⟨rfl, rfl, rfl, rfl, rfl, ?_, rfl, rfl⟩, ?_⟩ | refine ⟨⟨_, rfl, rfl⟩, ?_⟩) <;> (repeat' first | exact trivial | refine ⟨⟨_, rfl, rfl⟩, ?_⟩ | refine ⟨⟨_, _, rfl, rfl, .rowF (vI_flat _ _) id⟩, ?_⟩ | refine ⟨⟨_, _, rfl, rfl, .rowF (vS_flat _) id⟩, ?_⟩ | refine ⟨⟨_, _, rfl, rfl, .rowF (vB_flat _) id⟩, ?_⟩ | refine ⟨⟨_, _, rfl, rfl, .rowF (vT_flat (by first | exact ctcp_Head_flat | exact capi_Addr_flat | exact ctcp_Opt_flat | exact coctet_Reader_flat | exact cR07_Opt_flat) _) id⟩, ?_⟩ | refine ⟨⟨_, _, rfl, rfl, .tyF (vI_flat _ _)⟩, ?_⟩ | refine ⟨⟨_, _, rfl, rfl, .ty rfl⟩, ?_⟩ | refine ⟨⟨_, _, rfl, rfl, .cells rfl⟩, ?_⟩ | refine ⟨⟨_, _, rfl, rfl, .row rfl id⟩, ?_⟩ | refine ⟨⟨_, _, rfl, rfl, .cr rfl⟩, ?_⟩ | refine ⟨⟨_, _, rfl, rfl, .rc rfl⟩, ?_⟩ | refine ⟨⟨_, _, rfl, rfl, .marks⟩, ?_⟩ | refine ⟨⟨_, _, rfl, rfl, .siter _ _⟩, ?_⟩ | refine ⟨⟨_, _, rfl, rfl, .loop rfl rfl rfl rfl (by repeat' first | exact trivial | refine ⟨rfl, ?_⟩) rfl rfl rfl rfl⟩, ?_⟩)
  clear h; intro hb h; conv => whnf
  obtain ⟨xg, hy, h2⟩ := obind.elim h; clear h; have h := h2; clear h2
  refine sumK.introF [] (sumRun_of (aqs := [.string ⟨⟨t2⟩⟩, .int .i64 0, .int .i64 8]) (ws := []) (n := 0) (m := 0) (t' := 24) (ra_cons rfl rfl (ra_cons rfl rfl (ra_cons rfl rfl ra_nil))) rfl (by rfl) (r101_eq hy) rfl rfl rfl rfl wb_nil an_nil rfl) ?_
  conv => whnf
  refine br.h2 h ?_ ?_ ?_
  · rfl
  · clear h; intro hb h; conv => whnf
    all_goals (cases h; cases hc)
    all_goals exact Res.of [] rfl nw_0 (by decide) js_0 wr_0
  clear h; intro hb h; conv => whnf
  refine br.h h ?_ ?_ ?_
  · rfl
  · clear h; intro hb h; conv => whnf
    all_goals (cases h; cases hc)
    all_goals exact Res.of [] rfl nw_0 (by decide) js_0 wr_0
  clear h; intro hb h; conv => whnf
  all_goals (cases h; cases hc)
  all_goals exact Res.of [] rfl nw_0 (by decide) js_0 wr_0
theorem leads56 (octet_Get : (List UInt8) → Int → Int → Option (Int × Bool)) (tcp_List : (List UInt8) → Option ((List tcp_Opt) × Int)) (hS : SumsOK Try.prog (aget (sums56 octet_Get tcp_List))) (text : List UInt8) (res : Int × Int × Int) (h : tcp_StampF octet_Get tcp_List text = some res) :
    Leads Try.prog 56 0 ⟨⟨56, 46, [(0, .string ⟨⟨text⟩⟩)], [.code k56_30], [], false, none⟩, [], [], 0⟩ (fun v H _ => Res 0 (rx56 res) v H) := by
  unfold tcp_StampF at h
  refine ev_ok tab_ok hS true 3000 ?_
  conv => whnf
  obtain ⟨l, hy, h2⟩ := obind.elim h; clear h; have h := h2; clear h2
  refine sumK.introF [] (sumRun_of (aqs := [.string ⟨⟨text⟩⟩]) (ws := []) (n := 1) (m := 0) (t' := 4) (ra_cons rfl rfl ra_nil) rfl (by rfl) (r54_eq hy) rfl rfl rfl rfl wb_nil (an_cons (rn_T ctcp_Opt_flat) an_nil) rfl) ?_
  conv => whnf
  refine br.h h ?_ ?_ ?_
  · rfl
  · clear h; intro hb h; conv => whnf
    all_goals (cases h)
    all_goals exact Res.of [] rfl nw_0 (by decide) js_0 wr_0
  clear h; intro hb h; conv => whnf
  have hl := loop56_1 octet_Get tcp_List hS _ res _ _ _ h rfl; simp only [head56_1] at hl
  refine Leads.re hl [(0, 0), (1, 1), (2, 2), (4, 4), (5, 5), (6, 6)] rfl ?_ ?_ (hu := by repeat' first | exact trivial | refine ⟨⟨rfl, rfl, rfl, rfl, rfl, ?_, rfl, rfl⟩, ?_⟩ | refine ⟨⟨_, rfl, rfl⟩, ?_⟩) <;> (repeat' first | exact trivial | refine ⟨⟨_, rfl, rfl⟩, ?_⟩ | refine ⟨⟨_, _, rfl, rfl, .rowF (vI_flat _ _) id⟩, ?_⟩ | refine ⟨⟨_, _, rfl, rfl, .rowF (vS_flat _) id⟩, ?_⟩ | refine ⟨⟨_, _, rfl, rfl, .rowF (vB_flat _) id⟩, ?_⟩ | refine ⟨⟨_, _, rfl, rfl, .rowF (vT_flat (by first | exact ctcp_Head_flat | exact capi_Addr_flat | exact ctcp_Opt_flat | exact coctet_Reader_flat | exact cR07_Opt_flat) _) id⟩, ?_⟩ | refine ⟨⟨_, _, rfl, rfl, .tyF (vI_flat _ _)⟩, ?_⟩ | refine ⟨⟨_, _, rfl, rfl, .ty rfl⟩, ?_⟩ | refine ⟨⟨_, _, rfl, rfl, .cells rfl⟩, ?_⟩ | refine ⟨⟨_, _, rfl, rfl, .row rfl id⟩, ?_⟩ | refine ⟨⟨_, _, rfl, rfl, .cr rfl⟩, ?_⟩ | refine ⟨⟨_, _, rfl, rfl, .rc rfl⟩, ?_⟩ | refine ⟨⟨_, _, rfl, rfl, .marks⟩, ?_⟩ | refine ⟨⟨_, _, rfl, rfl, .siter _ _⟩, ?_⟩ | refine ⟨⟨_, _, rfl, rfl, .loop rfl rfl rfl rfl (by repeat' first | exact trivial | refine ⟨rfl, ?_⟩) rfl rfl rfl rfl⟩, ?_⟩)
theorem ok56 (octet_Get : (List UInt8) → Int → Int → Option (Int × Bool)) (tcp_List : (List UInt8) → Option ((List tcp_Opt) × Int)) (hS : SumsOK Try.prog (aget (sums56 octet_Get tcp_List))) : SumOK Try.prog 56 (s56 (tcp_StampF octet_Get tcp_List)) := by
  refine SumOK.of_leads tab_ok (fun ar os r ha hr => ?_) ⟨Try.f56, rfl, by decide, rfl⟩
  replace hr : r56 (tcp_StampF octet_Get tcp_List) ar (conts os) = some r := hr
  unfold r56 at hr
  generalize hc : conts os = C at hr
  have hq := dV.elim hr; clear hr; obtain ⟨v0, l1, y0, rfl, e0, hr⟩ := hq; obtain rfl := asS_eq _ _ e0
  have hq := dEnd.elim hr; clear hr; obtain ⟨rfl, rfl, hr⟩ := hq
  have hq := ofG.elim hr; clear hr; obtain ⟨x, h, rfl⟩ := hq
  obtain rfl := kinds_nil hc
  exact ⟨_, rfl, leads56 octet_Get tcp_List hS _ x h⟩
def tcp_Stamp : (List UInt8) → Option (Int × Int × Int) := tcp_StampF octet_Get tcp_List
theorem lift56 : SumOK Try.prog 56 (s56 tcp_Stamp) := ok56 octet_Get tcp_List (SumsOK.of_tab ⟨lift101, lift54, trivial⟩)
end Go.Vm.Code

namespace Go.Vm.Code
open Go Go.Vm Go.Proofs
set_option maxRecDepth 100000
set_option maxHeartbeats 4000000
set_option linter.unusedVariables false

/-! cloakroom/tcp.Stamped -/
def tcp_StampedF (octet_Put : Int → Int → Option (List UInt8)) (val : Int) (echo : Int) : Option (List UInt8) :=
  (octet_Put 16844810 4).bind fun p =>
  let t := iorI .u64 (wI .u64 ((wI .u64 val) * 2 ^ 32)) (wI .u64 echo)
  (octet_Put t 8).bind fun p1 =>
  oreq (decide (p.length + p1.length < 2 ^ 63)) <|
  some (p ++ p1)
def rx58 (x : List UInt8) : SRes := ⟨.string ⟨⟨x⟩⟩, [], []⟩
def r58 (g : Int → Int → Option (List UInt8)) : Dec := dV (asI .u32) fun (y0 : Int) => dV (asI .u32) fun (y1 : Int) => dEnd (ofG (g y0 y1) rx58)
theorem r58_c {g : Int → Int → Option (List UInt8)} {y0 : Int} {y1 : Int} {x : List UInt8} (hx : g y0 y1 = some x) : r58 g [.int .u32 y0, .int .u32 y1] [] = some (rx58 x) := (dV_eq (asI_c _)).trans ((dV_eq (asI_c _)).trans (ofG_eq hx))
def s58 (g : Int → Int → Option (List UInt8)) : Summ := ⟨[.v, .v], r58 g⟩
theorem r58_eq {g : Int → Int → Option (List UInt8)} {y0 : Int} {y1 : Int} {x : List UInt8} (hx : g y0 y1 = some x) : (s58 g).run [.int .u32 y0, .int .u32 y1] [] = some (rx58 x) := r58_c hx
abbrev sums58 (octet_Put : Int → Int → Option (List UInt8)) : List (Nat × Summ) := [(62, s62 octet_Put)]
theorem leads58 (octet_Put : Int → Int → Option (List UInt8)) (hS : SumsOK Try.prog (aget (sums58 octet_Put))) (val : Int) (echo : Int) (res : List UInt8) (h : tcp_StampedF octet_Put val echo = some res) :
    Leads Try.prog 58 0 ⟨⟨58, 14, [(0, .int .u32 val), (1, .int .u32 echo)], [.code k58_3], [], false, none⟩, [], [], 0⟩ (fun v H _ => Res 0 (rx58 res) v H) := by
  unfold tcp_StampedF at h
  refine ev_ok tab_ok hS true 3000 ?_
  conv => whnf
  obtain ⟨p, hy, h2⟩ := obind.elim h; clear h; have h := h2; clear h2
  refine sumK.introF [] (sumRun_of (aqs := [.int .u64 16844810, .int .i64 4]) (ws := []) (n := 0) (m := 0) (t' := 0) (ra_cons rfl rfl (ra_cons rfl rfl ra_nil)) rfl (by rfl) (r62_eq hy) rfl rfl rfl rfl wb_nil an_nil rfl) ?_
  conv => whnf
  let t : Int := iorI .u64 (wI .u64 ((wI .u64 val) * 2 ^ 32)) (wI .u64 echo)
  obtain ⟨p1, hy, h2⟩ := obind.elim h; clear h; have h := h2; clear h2
  refine sumK.introF [] (sumRun_of (aqs := [.int .u64 t, .int .i64 8]) (ws := []) (n := 0) (m := 0) (t' := 0) (ra_cons rfl rfl (ra_cons rfl rfl ra_nil)) rfl (by rfl) (r62_eq hy) rfl rfl rfl rfl wb_nil an_nil rfl) ?_
  conv => whnf
  replace h := oreq.elim h; have hb := h.1; replace h := h.2
  first | (refine req.intro hb ?_; conv => whnf) | skip
  all_goals (cases h)
  all_goals exact Res.of [] rfl nw_0 (by decide) js_0 wr_0
theorem ok58 (octet_Put : Int → Int → Option (List UInt8)) (hS : SumsOK Try.prog (aget (sums58 octet_Put))) : SumOK Try.prog 58 (s58 (tcp_StampedF octet_Put)) := by
  refine SumOK.of_leads tab_ok (fun ar os r ha hr => ?_) ⟨Try.f58, rfl, by decide, rfl⟩
  replace hr : r58 (tcp_StampedF octet_Put) ar (conts os) = some r := hr
  unfold r58 at hr
  generalize hc : conts os = C at hr
  have hq := dV.elim hr; clear hr; obtain ⟨v0, l1, y0, rfl, e0, hr⟩ := hq; obtain rfl := asI_eq _ _ _ e0
  have hq := dV.elim hr; clear hr; obtain ⟨v1, l2, y1, rfl, e1, hr⟩ := hq; obtain rfl := asI_eq _ _ _ e1
  have hq := dEnd.elim hr; clear hr; obtain ⟨rfl, rfl, hr⟩ := hq
  have hq := ofG.elim hr; clear hr; obtain ⟨x, h, rfl⟩ := hq
  obtain rfl := kinds_nil hc
  exact ⟨_, rfl, leads58 octet_Put hS _ _ x h⟩
def tcp_Stamped : Int → Int → Option (List UInt8) := tcp_StampedF octet_Put
theorem lift58 : SumOK Try.prog 58 (s58 tcp_Stamped) := ok58 octet_Put (SumsOK.of_tab ⟨lift62, trivial⟩)
end Go.Vm.Code

namespace Go.Vm.Code
open Go Go.Vm Go.Proofs
set_option maxRecDepth 100000
set_option maxHeartbeats 4000000
set_option linter.unusedVariables false

/-! cloakroom/cloakroomlaw07.awake -/
def law07_awakeF (tcp_Get : (List UInt8) → api_Addr → api_Addr → Option (tcp_Head × (List UInt8) × Int)) (tcp_List : (List UInt8) → Option ((List tcp_Opt) × Int)) (tcp_Put : tcp_Head → api_Addr → api_Addr → (List UInt8) → Option ((List UInt8) × Int)) (tcp_Stamp : (List UInt8) → Option (Int × Int × Int)) (tcp_Stamped : Int → Int → Option (List UInt8)) : Option Bool :=
  (tcp_Stamped 5 6).bind fun s =>
  (tcp_Stamp s).bind fun s1 =>
  (tcp_Put (tcp_Head.mk 1 2 0 0 0 0 0 []) (api_Addr.mk false 0 1) (api_Addr.mk false 0 2) [97]).bind fun p =>
  (tcp_Get p.1 (api_Addr.mk false 0 1) (api_Addr.mk false 0 2)).bind fun xg =>
  (tcp_List [5]).bind fun l =>
  cond (s1.1 == 5)
    (
    cond (s1.2.1 == 6)
      (
      cond (s1.2.2 == 4)
        (
        cond (p.2 == 0)
          (
          cond ((p.1.length : Int) == 21)
            (
            cond (xg.2.2 == 0)
              (
              cond (xg.2.1 == [97])
                (
                some (l.2 == 3))
                (
                some (false)))
              (
              some (false)))
            (
            some (false)))
          (
          some (false)))
        (
        some (false)))
      (
      some (false)))
    (
    some (false))
def rx47 (x : Bool) : SRes := ⟨.bool x, [], []⟩
def r47 (g : Option Bool) : Dec := dEnd (ofG (g) rx47)
theorem r47_c {g : Option Bool} {x : Bool} (hx : g = some x) : r47 g [] [] = some (rx47 x) := ofG_eq hx
def s47 (g : Option Bool) : Summ := ⟨[], r47 g⟩
theorem r47_eq {g : Option Bool} {x : Bool} (hx : g = some x) : (s47 g).run [] [] = some (rx47 x) := r47_c hx
abbrev sums47 (tcp_Get : (List UInt8) → api_Addr → api_Addr → Option (tcp_Head × (List UInt8) × Int)) (tcp_List : (List UInt8) → Option ((List tcp_Opt) × Int)) (tcp_Put : tcp_Head → api_Addr → api_Addr → (List UInt8) → Option ((List UInt8) × Int)) (tcp_Stamp : (List UInt8) → Option (Int × Int × Int)) (tcp_Stamped : Int → Int → Option (List UInt8)) : List (Nat × Summ) := [(51, s51 tcp_Get), (54, s54 tcp_List), (48, s48 tcp_Put), (56, s56 tcp_Stamp), (58, s58 tcp_Stamped)]
theorem leads47 (tcp_Get : (List UInt8) → api_Addr → api_Addr → Option (tcp_Head × (List UInt8) × Int)) (tcp_List : (List UInt8) → Option ((List tcp_Opt) × Int)) (tcp_Put : tcp_Head → api_Addr → api_Addr → (List UInt8) → Option ((List UInt8) × Int)) (tcp_Stamp : (List UInt8) → Option (Int × Int × Int)) (tcp_Stamped : Int → Int → Option (List UInt8)) (hS : SumsOK Try.prog (aget (sums47 tcp_Get tcp_List tcp_Put tcp_Stamp tcp_Stamped))) (res : Bool) (h : law07_awakeF tcp_Get tcp_List tcp_Put tcp_Stamp tcp_Stamped = some res) :
    Leads Try.prog 47 0 ⟨⟨47, 67, [], [.code k47_11], [], false, none⟩, [], [], 0⟩ (fun v H _ => Res 0 (rx47 res) v H) := by
  unfold law07_awakeF at h
  refine ev_ok tab_ok hS true 3000 ?_
  conv => whnf
  obtain ⟨s, hy, h2⟩ := obind.elim h; clear h; have h := h2; clear h2
  refine sumK.introF [] (sumRun_of (aqs := [.int .u32 5, .int .u32 6]) (ws := []) (n := 0) (m := 0) (t' := 0) (ra_cons rfl rfl (ra_cons rfl rfl ra_nil)) rfl (by rfl) (r58_eq hy) rfl rfl rfl rfl wb_nil an_nil rfl) ?_
  conv => whnf
  obtain ⟨s1, hy, h2⟩ := obind.elim h; clear h; have h := h2; clear h2
  refine sumK.introF [] (sumRun_of (aqs := [.string ⟨⟨s⟩⟩]) (ws := []) (n := 0) (m := 0) (t' := 0) (ra_cons rfl rfl ra_nil) rfl (by rfl) (r56_eq hy) rfl rfl rfl rfl wb_nil an_nil rfl) ?_
  conv => whnf
  obtain ⟨p, hy, h2⟩ := obind.elim h; clear h; have h := h2; clear h2
  refine sumK.introF [] (sumRun_of (aqs := [.agg ⟨[.int .i64 1, .int .i64 2, .int .u32 0, .int .u32 0, .int .i64 0, .int .i64 0, .int .i64 0, .string ⟨⟨[]⟩⟩]⟩, .agg ⟨[.bool false, .int .u64 0, .int .u64 1]⟩, .agg ⟨[.bool false, .int .u64 0, .int .u64 2]⟩, .string ⟨⟨[97]⟩⟩]) (ws := []) (n := 0) (m := 0) (t' := 0) (ra_cons rfl rfl (ra_cons rfl rfl (ra_cons rfl rfl (ra_cons rfl rfl ra_nil)))) rfl (by rfl) (r48_eq hy) rfl rfl rfl rfl wb_nil an_nil rfl) ?_
  conv => whnf
  obtain ⟨xg, hy, h2⟩ := obind.elim h; clear h; have h := h2; clear h2
  refine sumK.introF [] (sumRun_of (aqs := [.string ⟨⟨p.1⟩⟩, .agg ⟨[.bool false, .int .u64 0, .int .u64 1]⟩, .agg ⟨[.bool false, .int .u64 0, .int .u64 2]⟩]) (ws := []) (n := 0) (m := 0) (t' := 0) (ra_cons rfl rfl (ra_cons rfl rfl (ra_cons rfl rfl ra_nil))) rfl (by rfl) (r51_eq hy) rfl rfl rfl rfl wb_nil an_nil rfl) ?_
  conv => whnf
  obtain ⟨l, hy, h2⟩ := obind.elim h; clear h; have h := h2; clear h2
  refine sumK.introF [] (sumRun_of (aqs := [.string ⟨⟨[5]⟩⟩]) (ws := []) (n := 1) (m := 0) (t' := 2) (ra_cons rfl rfl ra_nil) rfl (by rfl) (r54_eq hy) rfl rfl rfl rfl wb_nil (an_cons (rn_T ctcp_Opt_flat) an_nil) rfl) ?_
  conv => whnf
  refine br.h2 h ?_ ?_ ?_
  · rfl
  · clear h; intro hb h; conv => whnf
    all_goals (cases h)
    all_goals exact Res.of [] rfl nw_0 (by decide) js_0 wr_0
  clear h; intro hb h; conv => whnf
  refine br.h2 h ?_ ?_ ?_
  · rfl
  · clear h; intro hb h; conv => whnf
    all_goals (cases h)
    all_goals exact Res.of [] rfl nw_0 (by decide) js_0 wr_0
  clear h; intro hb h; conv => whnf
  refine br.h2 h ?_ ?_ ?_
  · rfl
  · clear h; intro hb h; conv => whnf
    all_goals (cases h)
    all_goals exact Res.of [] rfl nw_0 (by decide) js_0 wr_0
  clear h; intro hb h; conv => whnf
  refine br.h2 h ?_ ?_ ?_
  · rfl
  · clear h; intro hb h; conv => whnf
    all_goals (cases h)
    all_goals exact Res.of [] rfl nw_0 (by decide) js_0 wr_0
  clear h; intro hb h; conv => whnf
  refine br.h2 h ?_ ?_ ?_
  · rfl
  · clear h; intro hb h; conv => whnf
    all_goals (cases h)
    all_goals exact Res.of [] rfl nw_0 (by decide) js_0 wr_0
  clear h; intro hb h; conv => whnf
  refine br.h2 h ?_ ?_ ?_
  · rfl
  · clear h; intro hb h; conv => whnf
    all_goals (cases h)
    all_goals exact Res.of [] rfl nw_0 (by decide) js_0 wr_0
  clear h; intro hb h; conv => whnf
  refine br.h h ?_ ?_ ?_
  · rfl
  · clear h; intro hb h; conv => whnf
    all_goals (cases h)
    all_goals exact Res.of [] rfl nw_0 (by decide) js_0 wr_0
  clear h; intro hb h; conv => whnf
  all_goals (cases h)
  all_goals exact Res.of [] rfl nw_0 (by decide) js_0 wr_0
theorem ok47 (tcp_Get : (List UInt8) → api_Addr → api_Addr → Option (tcp_Head × (List UInt8) × Int)) (tcp_List : (List UInt8) → Option ((List tcp_Opt) × Int)) (tcp_Put : tcp_Head → api_Addr → api_Addr → (List UInt8) → Option ((List UInt8) × Int)) (tcp_Stamp : (List UInt8) → Option (Int × Int × Int)) (tcp_Stamped : Int → Int → Option (List UInt8)) (hS : SumsOK Try.prog (aget (sums47 tcp_Get tcp_List tcp_Put tcp_Stamp tcp_Stamped))) : SumOK Try.prog 47 (s47 (law07_awakeF tcp_Get tcp_List tcp_Put tcp_Stamp tcp_Stamped)) := by
  refine SumOK.of_leads tab_ok (fun ar os r ha hr => ?_) ⟨Try.f47, rfl, by decide, rfl⟩
  replace hr : r47 (law07_awakeF tcp_Get tcp_List tcp_Put tcp_Stamp tcp_Stamped) ar (conts os) = some r := hr
  unfold r47 at hr
  generalize hc : conts os = C at hr
  have hq := dEnd.elim hr; clear hr; obtain ⟨rfl, rfl, hr⟩ := hq
  have hq := ofG.elim hr; clear hr; obtain ⟨x, h, rfl⟩ := hq
  obtain rfl := kinds_nil hc
  exact ⟨_, rfl, leads47 tcp_Get tcp_List tcp_Put tcp_Stamp tcp_Stamped hS x h⟩
def law07_awake : Option Bool := law07_awakeF tcp_Get tcp_List tcp_Put tcp_Stamp tcp_Stamped
theorem lift47 : SumOK Try.prog 47 (s47 law07_awake) := ok47 tcp_Get tcp_List tcp_Put tcp_Stamp tcp_Stamped (SumsOK.of_tab ⟨lift51, lift54, lift48, lift56, lift58, trivial⟩)
end Go.Vm.Code

namespace Go.Vm.Code
open Go Go.Vm Go.Proofs
set_option maxRecDepth 100000
set_option maxHeartbeats 4000000
set_option linter.unusedVariables false

/-! cloakroom/cloakroomlaw07.of -/
def law07_ofF (ha0 : tcp_Head) : Option tcp_Head :=
  some (ha0)
def rx49 (x : tcp_Head) : SRes := ⟨.agg ⟨[.int .i64 x.SPort, .int .i64 x.DPort, .int .u32 x.Seq, .int .u32 x.Ack, .int .i64 x.Flags, .int .i64 x.Window, .int .i64 x.Urgent, .string ⟨⟨x.Options⟩⟩]⟩, [], []⟩
def r49 (g : tcp_Head → Option tcp_Head) : Dec := dV uvtcp_Head fun (y0 : tcp_Head) => dEnd (ofG (g y0) rx49)
theorem r49_c {g : tcp_Head → Option tcp_Head} {y0 : tcp_Head} {x : tcp_Head} (hx : g y0 = some x) : r49 g [.agg ⟨[.int .i64 y0.SPort, .int .i64 y0.DPort, .int .u32 y0.Seq, .int .u32 y0.Ack, .int .i64 y0.Flags, .int .i64 y0.Window, .int .i64 y0.Urgent, .string ⟨⟨y0.Options⟩⟩]⟩] [] = some (rx49 x) := (dV_eq (uvtcp_Head_c _)).trans (ofG_eq hx)
def s49 (g : tcp_Head → Option tcp_Head) : Summ := ⟨[.v], r49 g⟩
theorem r49_eq {g : tcp_Head → Option tcp_Head} {y0 : tcp_Head} {x : tcp_Head} (hx : g y0 = some x) : (s49 g).run [.agg ⟨[.int .i64 y0.SPort, .int .i64 y0.DPort, .int .u32 y0.Seq, .int .u32 y0.Ack, .int .i64 y0.Flags, .int .i64 y0.Window, .int .i64 y0.Urgent, .string ⟨⟨y0.Options⟩⟩]⟩] [] = some (rx49 x) := r49_c hx
abbrev sums49 : List (Nat × Summ) := []
theorem leads49 (hS : SumsOK Try.prog (aget (sums49))) (ha0 : tcp_Head) (res : tcp_Head) (h : law07_ofF ha0 = some res) :
    Leads Try.prog 49 0 ⟨⟨49, 20, [(0, .agg ⟨[.int .i64 ha0.SPort, .int .i64 ha0.DPort, .int .u32 ha0.Seq, .int .u32 ha0.Ack, .int .i64 ha0.Flags, .int .i64 ha0.Window, .int .i64 ha0.Urgent, .string ⟨⟨ha0.Options⟩⟩]⟩)], [.code k49_3], [], false, none⟩, [], [], 0⟩ (fun v H _ => Res 0 (rx49 res) v H) := by
  unfold law07_ofF at h
  refine ev_ok tab_ok hS true 3000 ?_
  conv => whnf
  all_goals (cases h)
  all_goals exact Res.of [] rfl nw_0 (by decide) js_0 wr_0
theorem ok49 (hS : SumsOK Try.prog (aget (sums49))) : SumOK Try.prog 49 (s49 (law07_ofF)) := by
  refine SumOK.of_leads tab_ok (fun ar os r ha hr => ?_) ⟨Try.f49, rfl, by decide, rfl⟩
  replace hr : r49 (law07_ofF) ar (conts os) = some r := hr
  unfold r49 at hr
  generalize hc : conts os = C at hr
  have hq := dV.elim hr; clear hr; obtain ⟨v0, l1, y0, rfl, e0, hr⟩ := hq; obtain rfl := uvtcp_Head_eq _ _ e0
  have hq := dEnd.elim hr; clear hr; obtain ⟨rfl, rfl, hr⟩ := hq
  have hq := ofG.elim hr; clear hr; obtain ⟨x, h, rfl⟩ := hq
  obtain rfl := kinds_nil hc
  exact ⟨_, rfl, leads49 hS _ x h⟩
def law07_of : tcp_Head → Option tcp_Head := law07_ofF
theorem lift49 : SumOK Try.prog 49 (s49 law07_of) := ok49 (SumsOK.of_tab trivial)
end Go.Vm.Code

namespace Go.Vm.Code
open Go Go.Vm Go.Proofs
set_option maxRecDepth 100000
set_option maxHeartbeats 4000000
set_option linter.unusedVariables false

/-! cloakroom/cloakroomlaw07.back -/
def law07_backF (ha0 : tcp_Head) : Option tcp_Head :=
  some (ha0)
def rx53 (x : tcp_Head) : SRes := ⟨.agg ⟨[.int .i64 x.SPort, .int .i64 x.DPort, .int .u32 x.Seq, .int .u32 x.Ack, .int .i64 x.Flags, .int .i64 x.Window, .int .i64 x.Urgent, .string ⟨⟨x.Options⟩⟩]⟩, [], []⟩
def r53 (g : tcp_Head → Option tcp_Head) : Dec := dV uvtcp_Head fun (y0 : tcp_Head) => dEnd (ofG (g y0) rx53)
theorem r53_c {g : tcp_Head → Option tcp_Head} {y0 : tcp_Head} {x : tcp_Head} (hx : g y0 = some x) : r53 g [.agg ⟨[.int .i64 y0.SPort, .int .i64 y0.DPort, .int .u32 y0.Seq, .int .u32 y0.Ack, .int .i64 y0.Flags, .int .i64 y0.Window, .int .i64 y0.Urgent, .string ⟨⟨y0.Options⟩⟩]⟩] [] = some (rx53 x) := (dV_eq (uvtcp_Head_c _)).trans (ofG_eq hx)
def s53 (g : tcp_Head → Option tcp_Head) : Summ := ⟨[.v], r53 g⟩
theorem r53_eq {g : tcp_Head → Option tcp_Head} {y0 : tcp_Head} {x : tcp_Head} (hx : g y0 = some x) : (s53 g).run [.agg ⟨[.int .i64 y0.SPort, .int .i64 y0.DPort, .int .u32 y0.Seq, .int .u32 y0.Ack, .int .i64 y0.Flags, .int .i64 y0.Window, .int .i64 y0.Urgent, .string ⟨⟨y0.Options⟩⟩]⟩] [] = some (rx53 x) := r53_c hx
abbrev sums53 : List (Nat × Summ) := []
theorem leads53 (hS : SumsOK Try.prog (aget (sums53))) (ha0 : tcp_Head) (res : tcp_Head) (h : law07_backF ha0 = some res) :
    Leads Try.prog 53 0 ⟨⟨53, 20, [(0, .agg ⟨[.int .i64 ha0.SPort, .int .i64 ha0.DPort, .int .u32 ha0.Seq, .int .u32 ha0.Ack, .int .i64 ha0.Flags, .int .i64 ha0.Window, .int .i64 ha0.Urgent, .string ⟨⟨ha0.Options⟩⟩]⟩)], [.code k53_3], [], false, none⟩, [], [], 0⟩ (fun v H _ => Res 0 (rx53 res) v H) := by
  unfold law07_backF at h
  refine ev_ok tab_ok hS true 3000 ?_
  conv => whnf
  all_goals (cases h)
  all_goals exact Res.of [] rfl nw_0 (by decide) js_0 wr_0
theorem ok53 (hS : SumsOK Try.prog (aget (sums53))) : SumOK Try.prog 53 (s53 (law07_backF)) := by
  refine SumOK.of_leads tab_ok (fun ar os r ha hr => ?_) ⟨Try.f53, rfl, by decide, rfl⟩
  replace hr : r53 (law07_backF) ar (conts os) = some r := hr
  unfold r53 at hr
  generalize hc : conts os = C at hr
  have hq := dV.elim hr; clear hr; obtain ⟨v0, l1, y0, rfl, e0, hr⟩ := hq; obtain rfl := uvtcp_Head_eq _ _ e0
  have hq := dEnd.elim hr; clear hr; obtain ⟨rfl, rfl, hr⟩ := hq
  have hq := ofG.elim hr; clear hr; obtain ⟨x, h, rfl⟩ := hq
  obtain rfl := kinds_nil hc
  exact ⟨_, rfl, leads53 hS _ x h⟩
def law07_back : tcp_Head → Option tcp_Head := law07_backF
theorem lift53 : SumOK Try.prog 53 (s53 law07_back) := ok53 (SumsOK.of_tab trivial)
end Go.Vm.Code

namespace Go.Vm.Code
open Go Go.Vm Go.Proofs
set_option maxRecDepth 100000
set_option maxHeartbeats 4000000
set_option linter.unusedVariables false

/-! cloakroom/cloakroomlaw07.TcpTells -/
def law07_TcpTellsF (R07_Get : (List UInt8) → api_Addr → api_Addr → Option (tcp_Head × (List UInt8) × Int)) (R07_Put : tcp_Head → api_Addr → api_Addr → (List UInt8) → Option ((List UInt8) × Int)) (R07_Small : (List (List UInt8)) → Int → Option Bool) (law07_awake : Option Bool) (law07_back : tcp_Head → Option tcp_Head) (law07_of : tcp_Head → Option tcp_Head) (tcp_Get : (List UInt8) → api_Addr → api_Addr → Option (tcp_Head × (List UInt8) × Int)) (tcp_Put : tcp_Head → api_Addr → api_Addr → (List UInt8) → Option ((List UInt8) × Int)) (ha0 : tcp_Head) (src : api_Addr) (dst : api_Addr) (payload : List UInt8) (s : List UInt8) : Option Bool :=
  (R07_Small [ha0.Options, payload, s] 200).bind fun s1 =>
  cond (!s1)
    (
    (law07_awake).bind fun a =>
    some (a))
    (
    (law07_of ha0).bind fun xo =>
    (tcp_Put xo src dst payload).bind fun p =>
    (R07_Put ha0 src dst payload).bind fun p1 =>
    (tcp_Get s src dst).bind fun xg =>
    (R07_Get s src dst).bind fun xg1 =>
    cond (p.1 == p1.1)
      (
      cond (p.2 == p1.2)
        (
        (law07_back xg.1).bind fun b =>
        let t := (b.SPort == xg1.1.SPort) && ((b.DPort == xg1.1.DPort) && ((b.Seq == xg1.1.Seq) && ((b.Ack == xg1.1.Ack) && ((b.Flags == xg1.1.Flags) && ((b.Window == xg1.1.Window) && ((b.Urgent == xg1.1.Urgent) && ((b.Options == xg1.1.Options) && true)))))))
        cond (t)
          (
          cond (xg.2.1 == xg1.2.1)
            (
            cond (xg.2.2 == xg1.2.2)
              (
              (law07_awake).bind fun a1 =>
              some (a1))
              (
              some (false)))
            (
            some (false)))
          (
          some (false)))
        (
        some (false)))
      (
      some (false)))
def rx11 (x : Bool) : SRes := ⟨.bool x, [], []⟩
def r11 (g : tcp_Head → api_Addr → api_Addr → (List UInt8) → (List UInt8) → Option Bool) : Dec := dV uvtcp_Head fun (y0 : tcp_Head) => dV uvapi_Addr fun (y1 : api_Addr) => dV uvapi_Addr fun (y2 : api_Addr) => dV asS fun (y3 : List UInt8) => dV asS fun (y4 : List UInt8) => dEnd (ofG (g y0 y1 y2 y3 y4) rx11)
theorem r11_c {g : tcp_Head → api_Addr → api_Addr → (List UInt8) → (List UInt8) → Option Bool} {y0 : tcp_Head} {y1 : api_Addr} {y2 : api_Addr} {y3 : List UInt8} {y4 : List UInt8} {x : Bool} (hx : g y0 y1 y2 y3 y4 = some x) : r11 g [.agg ⟨[.int .i64 y0.SPort, .int .i64 y0.DPort, .int .u32 y0.Seq, .int .u32 y0.Ack, .int .i64 y0.Flags, .int .i64 y0.Window, .int .i64 y0.Urgent, .string ⟨⟨y0.Options⟩⟩]⟩, .agg ⟨[.bool y1.V6, .int .u64 y1.Hi, .int .u64 y1.Lo]⟩, .agg ⟨[.bool y2.V6, .int .u64 y2.Hi, .int .u64 y2.Lo]⟩, .string ⟨⟨y3⟩⟩, .string ⟨⟨y4⟩⟩] [] = some (rx11 x) := (dV_eq (uvtcp_Head_c _)).trans ((dV_eq (uvapi_Addr_c _)).trans ((dV_eq (uvapi_Addr_c _)).trans ((dV_eq (asS_c)).trans ((dV_eq (asS_c)).trans (ofG_eq hx)))))
def s11 (g : tcp_Head → api_Addr → api_Addr → (List UInt8) → (List UInt8) → Option Bool) : Summ := ⟨[.v, .v, .v, .v, .v], r11 g⟩
theorem r11_eq {g : tcp_Head → api_Addr → api_Addr → (List UInt8) → (List UInt8) → Option Bool} {y0 : tcp_Head} {y1 : api_Addr} {y2 : api_Addr} {y3 : List UInt8} {y4 : List UInt8} {x : Bool} (hx : g y0 y1 y2 y3 y4 = some x) : (s11 g).run [.agg ⟨[.int .i64 y0.SPort, .int .i64 y0.DPort, .int .u32 y0.Seq, .int .u32 y0.Ack, .int .i64 y0.Flags, .int .i64 y0.Window, .int .i64 y0.Urgent, .string ⟨⟨y0.Options⟩⟩]⟩, .agg ⟨[.bool y1.V6, .int .u64 y1.Hi, .int .u64 y1.Lo]⟩, .agg ⟨[.bool y2.V6, .int .u64 y2.Hi, .int .u64 y2.Lo]⟩, .string ⟨⟨y3⟩⟩, .string ⟨⟨y4⟩⟩] [] = some (rx11 x) := r11_c hx
abbrev sums11 (R07_Get : (List UInt8) → api_Addr → api_Addr → Option (tcp_Head × (List UInt8) × Int)) (R07_Put : tcp_Head → api_Addr → api_Addr → (List UInt8) → Option ((List UInt8) × Int)) (R07_Small : (List (List UInt8)) → Int → Option Bool) (law07_awake : Option Bool) (law07_back : tcp_Head → Option tcp_Head) (law07_of : tcp_Head → Option tcp_Head) (tcp_Get : (List UInt8) → api_Addr → api_Addr → Option (tcp_Head × (List UInt8) × Int)) (tcp_Put : tcp_Head → api_Addr → api_Addr → (List UInt8) → Option ((List UInt8) × Int)) : List (Nat × Summ) := [(52, s52 R07_Get), (50, s50 R07_Put), (14, s14 R07_Small), (47, s47 law07_awake), (53, s53 law07_back), (49, s49 law07_of), (51, s51 tcp_Get), (48, s48 tcp_Put)]
theorem leads11 (R07_Get : (List UInt8) → api_Addr → api_Addr → Option (tcp_Head × (List UInt8) × Int)) (R07_Put : tcp_Head → api_Addr → api_Addr → (List UInt8) → Option ((List UInt8) × Int)) (R07_Small : (List (List UInt8)) → Int → Option Bool) (law07_awake : Option Bool) (law07_back : tcp_Head → Option tcp_Head) (law07_of : tcp_Head → Option tcp_Head) (tcp_Get : (List UInt8) → api_Addr → api_Addr → Option (tcp_Head × (List UInt8) × Int)) (tcp_Put : tcp_Head → api_Addr → api_Addr → (List UInt8) → Option ((List UInt8) × Int)) (hS : SumsOK Try.prog (aget (sums11 R07_Get R07_Put R07_Small law07_awake law07_back law07_of tcp_Get tcp_Put))) (ha0 : tcp_Head) (src : api_Addr) (dst : api_Addr) (payload : List UInt8) (s : List UInt8) (res : Bool) (h : law07_TcpTellsF R07_Get R07_Put R07_Small law07_awake law07_back law07_of tcp_Get tcp_Put ha0 src dst payload s = some res) :
    Leads Try.prog 11 0 ⟨⟨11, 89, [(0, .agg ⟨[.int .i64 ha0.SPort, .int .i64 ha0.DPort, .int .u32 ha0.Seq, .int .u32 ha0.Ack, .int .i64 ha0.Flags, .int .i64 ha0.Window, .int .i64 ha0.Urgent, .string ⟨⟨ha0.Options⟩⟩]⟩), (1, .agg ⟨[.bool src.V6, .int .u64 src.Hi, .int .u64 src.Lo]⟩), (2, .agg ⟨[.bool dst.V6, .int .u64 dst.Hi, .int .u64 dst.Lo]⟩), (3, .string ⟨⟨payload⟩⟩), (4, .string ⟨⟨s⟩⟩)], [.code k11_17], [], false, none⟩, [], [], 0⟩ (fun v H _ => Res 0 (rx11 res) v H) := by
  unfold law07_TcpTellsF at h
  refine ev_ok tab_ok hS true 3000 ?_
  conv => whnf
  obtain ⟨s1, hy, h2⟩ := obind.elim h; clear h; have h := h2; clear h2
  refine sumK.introF [] (sumRun_of (aqs := [.slice (some ⟨0, 0, none⟩) ([ha0.Options, payload, s] : List (List UInt8)).length 1, .int .i64 200]) (ws := [.win 3 0 (3 * 1) false]) (n := 0) (m := 0) (t' := 4) (ra_cons (by first | rfl | exact ra_allS rfl rfl (by first | rfl | omega) (by first | rfl | (simp; done)) | exact ra_slS rfl rfl (by first | rfl | omega) (by first | rfl | omega) (by first | omega | (simp at *; omega))) rfl (ra_cons rfl rfl ra_nil)) rfl (by rfl) (r14_eq hy) rfl rfl rfl rfl (wb_skip rfl wb_nil) an_nil rfl) ?_
  conv => whnf
  refine br.h h ?_ ?_ ?_
  · rfl
  · clear h; intro hb h; conv => whnf
    obtain ⟨a, hy, h2⟩ := obind.elim h; clear h; have h := h2; clear h2
    refine sumK.introF [] (sumRun_of (aqs := []) (ws := []) (n := 0) (m := 0) (t' := 4) ra_nil rfl (by rfl) (r47_eq hy) rfl rfl rfl rfl wb_nil an_nil rfl) ?_
    conv => whnf
    all_goals (cases h)
    all_goals exact Res.of [] rfl nw_0 (by decide) js_0 wr_0
  clear h; intro hb h; conv => whnf
  obtain ⟨xo, hy, h2⟩ := obind.elim h; clear h; have h := h2; clear h2
  refine sumK.introF [] (sumRun_of (aqs := [.agg ⟨[.int .i64 ha0.SPort, .int .i64 ha0.DPort, .int .u32 ha0.Seq, .int .u32 ha0.Ack, .int .i64 ha0.Flags, .int .i64 ha0.Window, .int .i64 ha0.Urgent, .string ⟨⟨ha0.Options⟩⟩]⟩]) (ws := []) (n := 0) (m := 0) (t' := 5) (ra_cons rfl rfl ra_nil) rfl (by rfl) (r49_eq hy) rfl rfl rfl rfl wb_nil an_nil rfl) ?_
  conv => whnf
  obtain ⟨p, hy, h2⟩ := obind.elim h; clear h; have h := h2; clear h2
  refine sumK.introF [] (sumRun_of (aqs := [.agg ⟨[.int .i64 xo.SPort, .int .i64 xo.DPort, .int .u32 xo.Seq, .int .u32 xo.Ack, .int .i64 xo.Flags, .int .i64 xo.Window, .int .i64 xo.Urgent, .string ⟨⟨xo.Options⟩⟩]⟩, .agg ⟨[.bool src.V6, .int .u64 src.Hi, .int .u64 src.Lo]⟩, .agg ⟨[.bool dst.V6, .int .u64 dst.Hi, .int .u64 dst.Lo]⟩, .string ⟨⟨payload⟩⟩]) (ws := []) (n := 0) (m := 0) (t' := 9) (ra_cons rfl rfl (ra_cons rfl rfl (ra_cons rfl rfl (ra_cons rfl rfl ra_nil)))) rfl (by rfl) (r48_eq hy) rfl rfl rfl rfl wb_nil an_nil rfl) ?_
  conv => whnf
  obtain ⟨p1, hy, h2⟩ := obind.elim h; clear h; have h := h2; clear h2
  refine sumK.introF [] (sumRun_of (aqs := [.agg ⟨[.int .i64 ha0.SPort, .int .i64 ha0.DPort, .int .u32 ha0.Seq, .int .u32 ha0.Ack, .int .i64 ha0.Flags, .int .i64 ha0.Window, .int .i64 ha0.Urgent, .string ⟨⟨ha0.Options⟩⟩]⟩, .agg ⟨[.bool src.V6, .int .u64 src.Hi, .int .u64 src.Lo]⟩, .agg ⟨[.bool dst.V6, .int .u64 dst.Hi, .int .u64 dst.Lo]⟩, .string ⟨⟨payload⟩⟩]) (ws := []) (n := 0) (m := 0) (t' := 14) (ra_cons rfl rfl (ra_cons rfl rfl (ra_cons rfl rfl (ra_cons rfl rfl ra_nil)))) rfl (by rfl) (r50_eq hy) rfl rfl rfl rfl wb_nil an_nil rfl) ?_
  conv => whnf
  obtain ⟨xg, hy, h2⟩ := obind.elim h; clear h; have h := h2; clear h2
  refine sumK.introF [] (sumRun_of (aqs := [.string ⟨⟨s⟩⟩, .agg ⟨[.bool src.V6, .int .u64 src.Hi, .int .u64 src.Lo]⟩, .agg ⟨[.bool dst.V6, .int .u64 dst.Hi, .int .u64 dst.Lo]⟩]) (ws := []) (n := 0) (m := 0) (t' := 14) (ra_cons rfl rfl (ra_cons rfl rfl (ra_cons rfl rfl ra_nil))) rfl (by rfl) (r51_eq hy) rfl rfl rfl rfl wb_nil an_nil rfl) ?_
  conv => whnf
  obtain ⟨xg1, hy, h2⟩ := obind.elim h; clear h; have h := h2; clear h2
  refine sumK.introF [] (sumRun_of (aqs := [.string ⟨⟨s⟩⟩, .agg ⟨[.bool src.V6, .int .u64 src.Hi, .int .u64 src.Lo]⟩, .agg ⟨[.bool dst.V6, .int .u64 dst.Hi, .int .u64 dst.Lo]⟩]) (ws := []) (n := 0) (m := 0) (t' := 15) (ra_cons rfl rfl (ra_cons rfl rfl (ra_cons rfl rfl ra_nil))) rfl (by rfl) (r52_eq hy) rfl rfl rfl rfl wb_nil an_nil rfl) ?_
  conv => whnf
  refine br.h2 h ?_ ?_ ?_
  · rfl
  · clear h; intro hb h; conv => whnf
    all_goals (cases h)
    all_goals exact Res.of [] rfl nw_0 (by decide) js_0 wr_0
  clear h; intro hb h; conv => whnf
  refine br.h2 h ?_ ?_ ?_
  · rfl
  · clear h; intro hb h; conv => whnf
    all_goals (cases h)
    all_goals exact Res.of [] rfl nw_0 (by decide) js_0 wr_0
  clear h; intro hb h; conv => whnf
  obtain ⟨b, hy, h2⟩ := obind.elim h; clear h; have h := h2; clear h2
  refine sumK.introF [] (sumRun_of (aqs := [.agg ⟨[.int .i64 xg.1.SPort, .int .i64 xg.1.DPort, .int .u32 xg.1.Seq, .int .u32 xg.1.Ack, .int .i64 xg.1.Flags, .int .i64 xg.1.Window, .int .i64 xg.1.Urgent, .string ⟨⟨xg.1.Options⟩⟩]⟩]) (ws := []) (n := 0) (m := 0) (t' := 26) (ra_cons rfl rfl ra_nil) rfl (by rfl) (r53_eq hy) rfl rfl rfl rfl wb_nil an_nil rfl) ?_
  conv => whnf
  let t : Bool := (b.SPort == xg1.1.SPort) && ((b.DPort == xg1.1.DPort) && ((b.Seq == xg1.1.Seq) && ((b.Ack == xg1.1.Ack) && ((b.Flags == xg1.1.Flags) && ((b.Window == xg1.1.Window) && ((b.Urgent == xg1.1.Urgent) && ((b.Options == xg1.1.Options) && true)))))))
  refine br.h2 h ?_ ?_ ?_
  · rfl
  · clear h; intro hb h; conv => whnf
    all_goals (cases h)
    all_goals exact Res.of [] rfl nw_0 (by decide) js_0 wr_0
  clear h; intro hb h; conv => whnf
  refine br.h2 h ?_ ?_ ?_
  · rfl
  · clear h; intro hb h; conv => whnf
    all_goals (cases h)
    all_goals exact Res.of [] rfl nw_0 (by decide) js_0 wr_0
  clear h; intro hb h; conv => whnf
  refine br.h2 h ?_ ?_ ?_
  · rfl
  · clear h; intro hb h; conv => whnf
    all_goals (cases h)
    all_goals exact Res.of [] rfl nw_0 (by decide) js_0 wr_0
  clear h; intro hb h; conv => whnf
  obtain ⟨a1, hy, h2⟩ := obind.elim h; clear h; have h := h2; clear h2
  refine sumK.introF [] (sumRun_of (aqs := []) (ws := []) (n := 0) (m := 0) (t' := 38) ra_nil rfl (by rfl) (r47_eq hy) rfl rfl rfl rfl wb_nil an_nil rfl) ?_
  conv => whnf
  all_goals (cases h)
  all_goals exact Res.of [] rfl nw_0 (by decide) js_0 wr_0
theorem ok11 (R07_Get : (List UInt8) → api_Addr → api_Addr → Option (tcp_Head × (List UInt8) × Int)) (R07_Put : tcp_Head → api_Addr → api_Addr → (List UInt8) → Option ((List UInt8) × Int)) (R07_Small : (List (List UInt8)) → Int → Option Bool) (law07_awake : Option Bool) (law07_back : tcp_Head → Option tcp_Head) (law07_of : tcp_Head → Option tcp_Head) (tcp_Get : (List UInt8) → api_Addr → api_Addr → Option (tcp_Head × (List UInt8) × Int)) (tcp_Put : tcp_Head → api_Addr → api_Addr → (List UInt8) → Option ((List UInt8) × Int)) (hS : SumsOK Try.prog (aget (sums11 R07_Get R07_Put R07_Small law07_awake law07_back law07_of tcp_Get tcp_Put))) : SumOK Try.prog 11 (s11 (law07_TcpTellsF R07_Get R07_Put R07_Small law07_awake law07_back law07_of tcp_Get tcp_Put)) := by
  refine SumOK.of_leads tab_ok (fun ar os r ha hr => ?_) ⟨Try.f11, rfl, by decide, rfl⟩
  replace hr : r11 (law07_TcpTellsF R07_Get R07_Put R07_Small law07_awake law07_back law07_of tcp_Get tcp_Put) ar (conts os) = some r := hr
  unfold r11 at hr
  generalize hc : conts os = C at hr
  have hq := dV.elim hr; clear hr; obtain ⟨v0, l1, y0, rfl, e0, hr⟩ := hq; obtain rfl := uvtcp_Head_eq _ _ e0
  have hq := dV.elim hr; clear hr; obtain ⟨v1, l2, y1, rfl, e1, hr⟩ := hq; obtain rfl := uvapi_Addr_eq _ _ e1
  have hq := dV.elim hr; clear hr; obtain ⟨v2, l3, y2, rfl, e2, hr⟩ := hq; obtain rfl := uvapi_Addr_eq _ _ e2
  have hq := dV.elim hr; clear hr; obtain ⟨v3, l4, y3, rfl, e3, hr⟩ := hq; obtain rfl := asS_eq _ _ e3
  have hq := dV.elim hr; clear hr; obtain ⟨v4, l5, y4, rfl, e4, hr⟩ := hq; obtain rfl := asS_eq _ _ e4
  have hq := dEnd.elim hr; clear hr; obtain ⟨rfl, rfl, hr⟩ := hq
  have hq := ofG.elim hr; clear hr; obtain ⟨x, h, rfl⟩ := hq
  obtain rfl := kinds_nil hc
  exact ⟨_, rfl, leads11 R07_Get R07_Put R07_Small law07_awake law07_back law07_of tcp_Get tcp_Put hS _ _ _ _ _ x h⟩
def law07_TcpTells : tcp_Head → api_Addr → api_Addr → (List UInt8) → (List UInt8) → Option Bool := law07_TcpTellsF R07_Get R07_Put R07_Small law07_awake law07_back law07_of tcp_Get tcp_Put
theorem lift11 : SumOK Try.prog 11 (s11 law07_TcpTells) := ok11 R07_Get R07_Put R07_Small law07_awake law07_back law07_of tcp_Get tcp_Put (SumsOK.of_tab ⟨lift52, lift50, lift14, lift47, lift53, lift49, lift51, lift48, trivial⟩)
end Go.Vm.Code

/- TcpTells in plain words. -/
namespace Go.Vm.Code
open Go Go.Vm
theorem awake07 : law07_awake = some true := by decide +kernel
theorem of07 (h : tcp_Head) : law07_of h = some h := rfl
theorem back07 (h : tcp_Head) : law07_back h = some h := rfl
theorem tcpTells (h : tcp_Head) (src dst : api_Addr) (l s : List UInt8) (hw : W7 h) (h1 : A4 src) (h2 : A4 dst) : law07_TcpTells h src dst l s = some true := by
  unfold law07_TcpTells law07_TcpTellsF
  rw [small_eq (by simp), Option.bind_some, awake07]
  cases hc : [h.Options, l, s].all fun x => decide ((x.length : Int) ≤ 200)
  · rfl
  simp only [List.all_cons, List.all_nil, Bool.and_true, Bool.and_eq_true, decide_eq_true_eq] at hc
  rw [Bool.not_true, cond_false, of07, Option.bind_some, t7put_eq hw h1 h2 (by omega) (by omega), r7put_eq hw h1 h2 (by omega) (by omega), t7get_eq h1 h2 (by omega), r7get_eq h1 h2 (by omega)]
  simp only [Option.bind_some, beq_self_eq_true, cond_true, back07, Bool.and_self]
end Go.Vm.Code
