import Derived.Test.YtnjmakblnjibkaaMCookieTellsa
namespace Go.Vm.Code
open Go Go.Vm Go.Proofs
set_option maxRecDepth 100000
set_option maxHeartbeats 4000000
set_option linter.unusedVariables false

/-! cloakroom/cloakroomref14.Right -/
def R14_RightF (l : api_Layout) : Option Bool :=
  cond (l.Wide)
    (
    cond (decide (l.Slot ≥ 0))
      (
      cond (decide (l.Slot ≤ 12))
        (
        cond (decide (l.Gen ≥ 0))
          (
          some (decide (l.Gen ≤ (wI .i64 (63 - l.Slot)))))
          (
          some (false)))
        (
        some (false)))
      (
      some (false)))
    (
    cond (decide (l.Slot ≥ 0))
      (
      cond (decide (l.Slot ≤ 12))
        (
        cond (decide (l.Gen ≥ 0))
          (
          some (decide (l.Gen ≤ (wI .i64 (16 - l.Slot)))))
          (
          some (false)))
        (
        some (false)))
      (
      some (false)))
def post39 (x : Bool) (v : Value) (H : Hp) : Prop := v = .bool x
def r39 (g : api_Layout → Option Bool) : List SArg → Option SRes
  | [.v (.agg ⟨[.bool a0_1, .int .i64 a0_2, .int .i64 a0_3]⟩)] => match g (api_Layout.mk a0_1 a0_2 a0_3) with | some x => some ⟨.bool x, [], []⟩ | none => none
  | _ => none
def s39 (g : api_Layout → Option Bool) : Summ := ⟨[.v], r39 g⟩
theorem r39_eq {g : api_Layout → Option Bool} {a0_1 : Bool} {a0_2 : Int} {a0_3 : Int} {x : Bool} (hx : g (api_Layout.mk a0_1 a0_2 a0_3) = some x) : (s39 g).run [.v (.agg ⟨[.bool a0_1, .int .i64 a0_2, .int .i64 a0_3]⟩)] = some ⟨.bool x, [], []⟩ := by
  show r39 g [.v (.agg ⟨[.bool a0_1, .int .i64 a0_2, .int .i64 a0_3]⟩)] = _
  simp only [r39, hx]
abbrev sums39 : List (Nat × Summ) := []
theorem leads39 (hS : SumsOK Try.prog (aget (sums39))) (l : api_Layout) (res : Bool) (h : R14_RightF l = some res) :
    Leads Try.prog 39 0 ⟨⟨39, 28, [(0, .agg ⟨[.bool l.Wide, .int .i64 l.Slot, .int .i64 l.Gen]⟩)], [.code k39_10], [], false, none⟩, [], [], 0⟩ (fun v H _ => post39 res v H) := by
  unfold R14_RightF at h
  refine ev_ok tab_ok hS true 3000 ?_
  conv => whnf
  refine br.h h ?_ ?_ ?_
  · rfl
  · clear h; intro hb h; conv => whnf
    refine br.h2 h ?_ ?_ ?_
    · rfl
    · clear h; intro hb h; conv => whnf
      all_goals (cases h)
      all_goals exact rfl
    clear h; intro hb h; conv => whnf
    refine br.h2 h ?_ ?_ ?_
    · rfl
    · clear h; intro hb h; conv => whnf
      all_goals (cases h)
      all_goals exact rfl
    clear h; intro hb h; conv => whnf
    refine br.h h ?_ ?_ ?_
    · rfl
    · clear h; intro hb h; conv => whnf
      all_goals (cases h)
      all_goals exact rfl
    clear h; intro hb h; conv => whnf
    all_goals (cases h)
    all_goals exact rfl
  clear h; intro hb h; conv => whnf
  refine br.h2 h ?_ ?_ ?_
  · rfl
  · clear h; intro hb h; conv => whnf
    all_goals (cases h)
    all_goals exact rfl
  clear h; intro hb h; conv => whnf
  refine br.h2 h ?_ ?_ ?_
  · rfl
  · clear h; intro hb h; conv => whnf
    all_goals (cases h)
    all_goals exact rfl
  clear h; intro hb h; conv => whnf
  refine br.h h ?_ ?_ ?_
  · rfl
  · clear h; intro hb h; conv => whnf
    all_goals (cases h)
    all_goals exact rfl
  clear h; intro hb h; conv => whnf
  all_goals (cases h)
  all_goals exact rfl
theorem ok39 (hS : SumsOK Try.prog (aget (sums39))) : SumOK Try.prog 39 (s39 (R14_RightF)) := by
  refine SumOK.of_leads tab_ok (fun ar r ha hr => ?_) ⟨Try.f39, rfl, by decide, rfl⟩
  simp only [s39] at ha hr
  unfold r39 at hr
  split at hr <;> try (cases hr; done)
  split at hr <;> cases hr
  rename_i x h
  refine ⟨_, rfl, (leads39 hS _ x h).mono fun v H t hp => ?_⟩
  cases hp
  exact Res.val rfl trivial
def R14_Right : api_Layout → Option Bool := R14_RightF
theorem lift39 : SumOK Try.prog 39 (s39 R14_Right) := ok39 (SumsOK.of_tab trivial)
end Go.Vm.Code

namespace Go.Vm.Code
open Go Go.Vm Go.Proofs
set_option maxRecDepth 100000
set_option maxHeartbeats 4000000
set_option linter.unusedVariables false

/-! cloakroom/cloakroomref14.Pack -/
def R14_PackF (R01_Mask : Int → Option Int) (R14_Right : api_Layout → Option Bool) (l : api_Layout) (slot : Int) (gen : Int) : Option (Int × Bool) :=
  (R14_Right l).bind fun xr =>
  cond (!xr)
    (
    some ((0, false)))
    (
    cond (decide (slot < 0))
      (
      some ((0, false)))
      (
      (R01_Mask l.Slot).bind fun m =>
      cond (decide ((wI .u64 slot) > m))
        (
        some ((0, false)))
        (
        (R01_Mask l.Gen).bind fun m1 =>
        (R01_Mask l.Slot).bind fun m2 =>
        let t := wI .u64 ((andI .u64 gen m1) * (wI .u64 (m2 + 1)))
        some ((wI .u64 (t + (wI .u64 slot)), true)))))
def post31 (x : Int × Bool) (v : Value) (H : Hp) : Prop := v = .tuple ⟨[.int .u64 x.1, .bool x.2]⟩
def r31 (g : api_Layout → Int → Int → Option (Int × Bool)) : List SArg → Option SRes
  | [.v (.agg ⟨[.bool a0_1, .int .i64 a0_2, .int .i64 a0_3]⟩), .v (.int .i64 a1_1), .v (.int .u64 a2_1)] => match g (api_Layout.mk a0_1 a0_2 a0_3) a1_1 a2_1 with | some x => some ⟨.tuple ⟨[.int .u64 x.1, .bool x.2]⟩, [], []⟩ | none => none
  | _ => none
def s31 (g : api_Layout → Int → Int → Option (Int × Bool)) : Summ := ⟨[.v, .v, .v], r31 g⟩
theorem r31_eq {g : api_Layout → Int → Int → Option (Int × Bool)} {a0_1 : Bool} {a0_2 : Int} {a0_3 : Int} {a1_1 : Int} {a2_1 : Int} {x : Int × Bool} (hx : g (api_Layout.mk a0_1 a0_2 a0_3) a1_1 a2_1 = some x) : (s31 g).run [.v (.agg ⟨[.bool a0_1, .int .i64 a0_2, .int .i64 a0_3]⟩), .v (.int .i64 a1_1), .v (.int .u64 a2_1)] = some ⟨.tuple ⟨[.int .u64 x.1, .bool x.2]⟩, [], []⟩ := by
  show r31 g [.v (.agg ⟨[.bool a0_1, .int .i64 a0_2, .int .i64 a0_3]⟩), .v (.int .i64 a1_1), .v (.int .u64 a2_1)] = _
  simp only [r31, hx]
abbrev sums31 (R01_Mask : Int → Option Int) (R14_Right : api_Layout → Option Bool) : List (Nat × Summ) := [(91, s91 R01_Mask), (39, s39 R14_Right)]
theorem leads31 (R01_Mask : Int → Option Int) (R14_Right : api_Layout → Option Bool) (hS : SumsOK Try.prog (aget (sums31 R01_Mask R14_Right))) (l : api_Layout) (slot : Int) (gen : Int) (res : Int × Bool) (h : R14_PackF R01_Mask R14_Right l slot gen = some res) :
    Leads Try.prog 31 0 ⟨⟨31, 36, [(0, .agg ⟨[.bool l.Wide, .int .i64 l.Slot, .int .i64 l.Gen]⟩), (1, .int .i64 slot), (2, .int .u64 gen)], [.code k31_9], [], false, none⟩, [], [], 0⟩ (fun v H _ => post31 res v H) := by
  unfold R14_PackF at h
  refine ev_ok tab_ok hS true 3000 ?_
  conv => whnf
  obtain ⟨xr, hy, h2⟩ := obind.elim h; clear h; have h := h2; clear h2
  refine sumK.introF [] (sumRun_of (aqs := [.v (.agg ⟨[.bool l.Wide, .int .i64 l.Slot, .int .i64 l.Gen]⟩)]) (ra_cons rfl ra_nil) (r39_eq hy) rfl rfl rfl rfl) ?_
  conv => whnf
  refine br.h h ?_ ?_ ?_
  · rfl
  · clear h; intro hb h; conv => whnf
    all_goals (cases h)
    all_goals exact rfl
  clear h; intro hb h; conv => whnf
  refine br.h h ?_ ?_ ?_
  · rfl
  · clear h; intro hb h; conv => whnf
    all_goals (cases h)
    all_goals exact rfl
  clear h; intro hb h; conv => whnf
  obtain ⟨m, hy, h2⟩ := obind.elim h; clear h; have h := h2; clear h2
  refine sumK.introF [] (sumRun_of (aqs := [.v (.int .i64 l.Slot)]) (ra_cons rfl ra_nil) (r91_eq hy) rfl rfl rfl rfl) ?_
  conv => whnf
  refine br.h h ?_ ?_ ?_
  · rfl
  · clear h; intro hb h; conv => whnf
    all_goals (cases h)
    all_goals exact rfl
  clear h; intro hb h; conv => whnf
  obtain ⟨m1, hy, h2⟩ := obind.elim h; clear h; have h := h2; clear h2
  refine sumK.introF [] (sumRun_of (aqs := [.v (.int .i64 l.Gen)]) (ra_cons rfl ra_nil) (r91_eq hy) rfl rfl rfl rfl) ?_
  conv => whnf
  obtain ⟨m2, hy, h2⟩ := obind.elim h; clear h; have h := h2; clear h2
  refine sumK.introF [] (sumRun_of (aqs := [.v (.int .i64 l.Slot)]) (ra_cons rfl ra_nil) (r91_eq hy) rfl rfl rfl rfl) ?_
  conv => whnf
  let t : Int := wI .u64 ((andI .u64 gen m1) * (wI .u64 (m2 + 1)))
  all_goals (cases h)
  all_goals exact rfl
theorem ok31 (R01_Mask : Int → Option Int) (R14_Right : api_Layout → Option Bool) (hS : SumsOK Try.prog (aget (sums31 R01_Mask R14_Right))) : SumOK Try.prog 31 (s31 (R14_PackF R01_Mask R14_Right)) := by
  refine SumOK.of_leads tab_ok (fun ar r ha hr => ?_) ⟨Try.f31, rfl, by decide, rfl⟩
  simp only [s31] at ha hr
  unfold r31 at hr
  split at hr <;> try (cases hr; done)
  split at hr <;> cases hr
  rename_i x h
  refine ⟨_, rfl, (leads31 R01_Mask R14_Right hS _ _ _ x h).mono fun v H t hp => ?_⟩
  cases hp
  exact Res.val rfl trivial
def R14_Pack : api_Layout → Int → Int → Option (Int × Bool) := R14_PackF R01_Mask R14_Right
theorem lift31 : SumOK Try.prog 31 (s31 R14_Pack) := ok31 R01_Mask R14_Right (SumsOK.of_tab ⟨lift91, lift39, trivial⟩)
end Go.Vm.Code

namespace Go.Vm.Code
open Go Go.Vm Go.Proofs
set_option maxRecDepth 100000
set_option maxHeartbeats 4000000
set_option linter.unusedVariables false

/-! cloakroom/cloakroomref14.Width -/
def R14_WidthF (R14_Right : api_Layout → Option Bool) (l : api_Layout) : Option Int :=
  (R14_Right l).bind fun xr =>
  cond (!xr)
    (
    some (0))
    (
    cond (l.Wide)
      (
      some (64))
      (
      some (16)))
def post41 (x : Int) (v : Value) (H : Hp) : Prop := v = .int .i64 x
def r41 (g : api_Layout → Option Int) : List SArg → Option SRes
  | [.v (.agg ⟨[.bool a0_1, .int .i64 a0_2, .int .i64 a0_3]⟩)] => match g (api_Layout.mk a0_1 a0_2 a0_3) with | some x => some ⟨.int .i64 x, [], []⟩ | none => none
  | _ => none
def s41 (g : api_Layout → Option Int) : Summ := ⟨[.v], r41 g⟩
theorem r41_eq {g : api_Layout → Option Int} {a0_1 : Bool} {a0_2 : Int} {a0_3 : Int} {x : Int} (hx : g (api_Layout.mk a0_1 a0_2 a0_3) = some x) : (s41 g).run [.v (.agg ⟨[.bool a0_1, .int .i64 a0_2, .int .i64 a0_3]⟩)] = some ⟨.int .i64 x, [], []⟩ := by
  show r41 g [.v (.agg ⟨[.bool a0_1, .int .i64 a0_2, .int .i64 a0_3]⟩)] = _
  simp only [r41, hx]
abbrev sums41 (R14_Right : api_Layout → Option Bool) : List (Nat × Summ) := [(39, s39 R14_Right)]
theorem leads41 (R14_Right : api_Layout → Option Bool) (hS : SumsOK Try.prog (aget (sums41 R14_Right))) (l : api_Layout) (res : Int) (h : R14_WidthF R14_Right l = some res) :
    Leads Try.prog 41 0 ⟨⟨41, 8, [(0, .agg ⟨[.bool l.Wide, .int .i64 l.Slot, .int .i64 l.Gen]⟩)], [.code k41_15], [], false, none⟩, [], [], 0⟩ (fun v H _ => post41 res v H) := by
  unfold R14_WidthF at h
  refine ev_ok tab_ok hS true 3000 ?_
  conv => whnf
  obtain ⟨xr, hy, h2⟩ := obind.elim h; clear h; have h := h2; clear h2
  refine sumK.introF [] (sumRun_of (aqs := [.v (.agg ⟨[.bool l.Wide, .int .i64 l.Slot, .int .i64 l.Gen]⟩)]) (ra_cons rfl ra_nil) (r39_eq hy) rfl rfl rfl rfl) ?_
  conv => whnf
  refine br.h h ?_ ?_ ?_
  · rfl
  · clear h; intro hb h; conv => whnf
    all_goals (cases h)
    all_goals exact rfl
  clear h; intro hb h; conv => whnf
  refine br.h h ?_ ?_ ?_
  · rfl
  · clear h; intro hb h; conv => whnf
    all_goals (cases h)
    all_goals exact rfl
  clear h; intro hb h; conv => whnf
  all_goals (cases h)
  all_goals exact rfl
theorem ok41 (R14_Right : api_Layout → Option Bool) (hS : SumsOK Try.prog (aget (sums41 R14_Right))) : SumOK Try.prog 41 (s41 (R14_WidthF R14_Right)) := by
  refine SumOK.of_leads tab_ok (fun ar r ha hr => ?_) ⟨Try.f41, rfl, by decide, rfl⟩
  simp only [s41] at ha hr
  unfold r41 at hr
  split at hr <;> try (cases hr; done)
  split at hr <;> cases hr
  rename_i x h
  refine ⟨_, rfl, (leads41 R14_Right hS _ x h).mono fun v H t hp => ?_⟩
  cases hp
  exact Res.val rfl trivial
def R14_Width : api_Layout → Option Int := R14_WidthF R14_Right
theorem lift41 : SumOK Try.prog 41 (s41 R14_Width) := ok41 R14_Right (SumsOK.of_tab ⟨lift39, trivial⟩)
end Go.Vm.Code

namespace Go.Vm.Code
open Go Go.Vm Go.Proofs
set_option maxRecDepth 100000
set_option maxHeartbeats 4000000
set_option linter.unusedVariables false

/-! cloakroom/cloakroomref14.Mask -/
def R14_MaskF (R01_Mask : Int → Option Int) (R12_Hash : api_Key → (List UInt8) → Option Int) (R13_Put : api_Tuple → Option (List UInt8)) (R14_Width : api_Layout → Option Int) (l : api_Layout) (k : api_Key) (t : api_Tuple) (n : Int) : Option Int :=
  (R13_Put t).bind fun p =>
  (R12_Hash k p).bind fun xh =>
  (R14_Width l).bind fun w =>
  (R01_Mask w).bind fun m =>
  some (andI .u64 (ixorI .u64 n xh) m)
def post43 (x : Int) (v : Value) (H : Hp) : Prop := v = .int .u64 x
def r43 (g : api_Layout → api_Key → api_Tuple → Int → Option Int) : List SArg → Option SRes
  | [.v (.agg ⟨[.bool a0_1, .int .i64 a0_2, .int .i64 a0_3]⟩), .v (.agg ⟨[.int .u64 a1_1, .int .u64 a1_2]⟩), .v (.agg ⟨[.int .i64 a2_1, .bool a2_2, .int .u64 a2_3, .int .u64 a2_4, .bool a2_5, .int .u64 a2_6, .int .u64 a2_7, .int .i64 a2_8, .int .i64 a2_9]⟩), .v (.int .u64 a3_1)] => match g (api_Layout.mk a0_1 a0_2 a0_3) (api_Key.mk a1_1 a1_2) (api_Tuple.mk a2_1 (api_Addr.mk a2_2 a2_3 a2_4) (api_Addr.mk a2_5 a2_6 a2_7) a2_8 a2_9) a3_1 with | some x => some ⟨.int .u64 x, [], []⟩ | none => none
  | _ => none
def s43 (g : api_Layout → api_Key → api_Tuple → Int → Option Int) : Summ := ⟨[.v, .v, .v, .v], r43 g⟩
theorem r43_eq {g : api_Layout → api_Key → api_Tuple → Int → Option Int} {a0_1 : Bool} {a0_2 : Int} {a0_3 : Int} {a1_1 : Int} {a1_2 : Int} {a2_1 : Int} {a2_2 : Bool} {a2_3 : Int} {a2_4 : Int} {a2_5 : Bool} {a2_6 : Int} {a2_7 : Int} {a2_8 : Int} {a2_9 : Int} {a3_1 : Int} {x : Int} (hx : g (api_Layout.mk a0_1 a0_2 a0_3) (api_Key.mk a1_1 a1_2) (api_Tuple.mk a2_1 (api_Addr.mk a2_2 a2_3 a2_4) (api_Addr.mk a2_5 a2_6 a2_7) a2_8 a2_9) a3_1 = some x) : (s43 g).run [.v (.agg ⟨[.bool a0_1, .int .i64 a0_2, .int .i64 a0_3]⟩), .v (.agg ⟨[.int .u64 a1_1, .int .u64 a1_2]⟩), .v (.agg ⟨[.int .i64 a2_1, .bool a2_2, .int .u64 a2_3, .int .u64 a2_4, .bool a2_5, .int .u64 a2_6, .int .u64 a2_7, .int .i64 a2_8, .int .i64 a2_9]⟩), .v (.int .u64 a3_1)] = some ⟨.int .u64 x, [], []⟩ := by
  show r43 g [.v (.agg ⟨[.bool a0_1, .int .i64 a0_2, .int .i64 a0_3]⟩), .v (.agg ⟨[.int .u64 a1_1, .int .u64 a1_2]⟩), .v (.agg ⟨[.int .i64 a2_1, .bool a2_2, .int .u64 a2_3, .int .u64 a2_4, .bool a2_5, .int .u64 a2_6, .int .u64 a2_7, .int .i64 a2_8, .int .i64 a2_9]⟩), .v (.int .u64 a3_1)] = _
  simp only [r43, hx]
abbrev sums43 (R01_Mask : Int → Option Int) (R12_Hash : api_Key → (List UInt8) → Option Int) (R13_Put : api_Tuple → Option (List UInt8)) (R14_Width : api_Layout → Option Int) : List (Nat × Summ) := [(91, s91 R01_Mask), (98, s98 R12_Hash), (99, s99 R13_Put), (41, s41 R14_Width)]
theorem leads43 (R01_Mask : Int → Option Int) (R12_Hash : api_Key → (List UInt8) → Option Int) (R13_Put : api_Tuple → Option (List UInt8)) (R14_Width : api_Layout → Option Int) (hS : SumsOK Try.prog (aget (sums43 R01_Mask R12_Hash R13_Put R14_Width))) (l : api_Layout) (k : api_Key) (t : api_Tuple) (n : Int) (res : Int) (h : R14_MaskF R01_Mask R12_Hash R13_Put R14_Width l k t n = some res) :
    Leads Try.prog 43 0 ⟨⟨43, 19, [(0, .agg ⟨[.bool l.Wide, .int .i64 l.Slot, .int .i64 l.Gen]⟩), (1, .agg ⟨[.int .u64 k.A, .int .u64 k.B]⟩), (2, .agg ⟨[.int .i64 t.Proto, .bool t.Src.V6, .int .u64 t.Src.Hi, .int .u64 t.Src.Lo, .bool t.Dst.V6, .int .u64 t.Dst.Hi, .int .u64 t.Dst.Lo, .int .i64 t.SPort, .int .i64 t.DPort]⟩), (3, .int .u64 n)], [.code k43_3], [], false, none⟩, [], [], 0⟩ (fun v H _ => post43 res v H) := by
  unfold R14_MaskF at h
  refine ev_ok tab_ok hS true 3000 ?_
  conv => whnf
  obtain ⟨p, hy, h2⟩ := obind.elim h; clear h; have h := h2; clear h2
  refine sumK.introF [] (sumRun_of (aqs := [.v (.agg ⟨[.int .i64 t.Proto, .bool t.Src.V6, .int .u64 t.Src.Hi, .int .u64 t.Src.Lo, .bool t.Dst.V6, .int .u64 t.Dst.Hi, .int .u64 t.Dst.Lo, .int .i64 t.SPort, .int .i64 t.DPort]⟩)]) (ra_cons rfl ra_nil) (r99_eq hy) rfl rfl rfl rfl) ?_
  conv => whnf
  obtain ⟨xh, hy, h2⟩ := obind.elim h; clear h; have h := h2; clear h2
  refine sumK.introF [] (sumRun_of (aqs := [.v (.agg ⟨[.int .u64 k.A, .int .u64 k.B]⟩), .v (.string ⟨⟨p⟩⟩)]) (ra_cons rfl (ra_cons rfl ra_nil)) (r98_eq hy) rfl rfl rfl rfl) ?_
  conv => whnf
  obtain ⟨w, hy, h2⟩ := obind.elim h; clear h; have h := h2; clear h2
  refine sumK.introF [] (sumRun_of (aqs := [.v (.agg ⟨[.bool l.Wide, .int .i64 l.Slot, .int .i64 l.Gen]⟩)]) (ra_cons rfl ra_nil) (r41_eq hy) rfl rfl rfl rfl) ?_
  conv => whnf
  obtain ⟨m, hy, h2⟩ := obind.elim h; clear h; have h := h2; clear h2
  refine sumK.introF [] (sumRun_of (aqs := [.v (.int .i64 w)]) (ra_cons rfl ra_nil) (r91_eq hy) rfl rfl rfl rfl) ?_
  conv => whnf
  all_goals (cases h)
  all_goals exact rfl
theorem ok43 (R01_Mask : Int → Option Int) (R12_Hash : api_Key → (List UInt8) → Option Int) (R13_Put : api_Tuple → Option (List UInt8)) (R14_Width : api_Layout → Option Int) (hS : SumsOK Try.prog (aget (sums43 R01_Mask R12_Hash R13_Put R14_Width))) : SumOK Try.prog 43 (s43 (R14_MaskF R01_Mask R12_Hash R13_Put R14_Width)) := by
  refine SumOK.of_leads tab_ok (fun ar r ha hr => ?_) ⟨Try.f43, rfl, by decide, rfl⟩
  simp only [s43] at ha hr
  unfold r43 at hr
  split at hr <;> try (cases hr; done)
  split at hr <;> cases hr
  rename_i x h
  refine ⟨_, rfl, (leads43 R01_Mask R12_Hash R13_Put R14_Width hS _ _ _ _ x h).mono fun v H t hp => ?_⟩
  cases hp
  exact Res.val rfl trivial
def R14_Mask : api_Layout → api_Key → api_Tuple → Int → Option Int := R14_MaskF R01_Mask R12_Hash R13_Put R14_Width
theorem lift43 : SumOK Try.prog 43 (s43 R14_Mask) := ok43 R01_Mask R12_Hash R13_Put R14_Width (SumsOK.of_tab ⟨lift91, lift98, lift99, lift41, trivial⟩)
end Go.Vm.Code

namespace Go.Vm.Code
open Go Go.Vm Go.Proofs
set_option maxRecDepth 100000
set_option maxHeartbeats 4000000
set_option linter.unusedVariables false

/-! cloakroom/cloakroomref14.Make -/
def R14_MakeF (R14_Mask : api_Layout → api_Key → api_Tuple → Int → Option Int) (R14_Pack : api_Layout → Int → Int → Option (Int × Bool)) (l : api_Layout) (k : api_Key) (t : api_Tuple) (slot : Int) (gen : Int) : Option (Int × Bool) :=
  (R14_Pack l slot gen).bind fun p =>
  cond (!p.2)
    (
    some ((0, false)))
    (
    (R14_Mask l k t p.1).bind fun m =>
    some ((m, true)))
def post35 (x : Int × Bool) (v : Value) (H : Hp) : Prop := v = .tuple ⟨[.int .u64 x.1, .bool x.2]⟩
def r35 (g : api_Layout → api_Key → api_Tuple → Int → Int → Option (Int × Bool)) : List SArg → Option SRes
  | [.v (.agg ⟨[.bool a0_1, .int .i64 a0_2, .int .i64 a0_3]⟩), .v (.agg ⟨[.int .u64 a1_1, .int .u64 a1_2]⟩), .v (.agg ⟨[.int .i64 a2_1, .bool a2_2, .int .u64 a2_3, .int .u64 a2_4, .bool a2_5, .int .u64 a2_6, .int .u64 a2_7, .int .i64 a2_8, .int .i64 a2_9]⟩), .v (.int .i64 a3_1), .v (.int .u64 a4_1)] => match g (api_Layout.mk a0_1 a0_2 a0_3) (api_Key.mk a1_1 a1_2) (api_Tuple.mk a2_1 (api_Addr.mk a2_2 a2_3 a2_4) (api_Addr.mk a2_5 a2_6 a2_7) a2_8 a2_9) a3_1 a4_1 with | some x => some ⟨.tuple ⟨[.int .u64 x.1, .bool x.2]⟩, [], []⟩ | none => none
  | _ => none
def s35 (g : api_Layout → api_Key → api_Tuple → Int → Int → Option (Int × Bool)) : Summ := ⟨[.v, .v, .v, .v, .v], r35 g⟩
theorem r35_eq {g : api_Layout → api_Key → api_Tuple → Int → Int → Option (Int × Bool)} {a0_1 : Bool} {a0_2 : Int} {a0_3 : Int} {a1_1 : Int} {a1_2 : Int} {a2_1 : Int} {a2_2 : Bool} {a2_3 : Int} {a2_4 : Int} {a2_5 : Bool} {a2_6 : Int} {a2_7 : Int} {a2_8 : Int} {a2_9 : Int} {a3_1 : Int} {a4_1 : Int} {x : Int × Bool} (hx : g (api_Layout.mk a0_1 a0_2 a0_3) (api_Key.mk a1_1 a1_2) (api_Tuple.mk a2_1 (api_Addr.mk a2_2 a2_3 a2_4) (api_Addr.mk a2_5 a2_6 a2_7) a2_8 a2_9) a3_1 a4_1 = some x) : (s35 g).run [.v (.agg ⟨[.bool a0_1, .int .i64 a0_2, .int .i64 a0_3]⟩), .v (.agg ⟨[.int .u64 a1_1, .int .u64 a1_2]⟩), .v (.agg ⟨[.int .i64 a2_1, .bool a2_2, .int .u64 a2_3, .int .u64 a2_4, .bool a2_5, .int .u64 a2_6, .int .u64 a2_7, .int .i64 a2_8, .int .i64 a2_9]⟩), .v (.int .i64 a3_1), .v (.int .u64 a4_1)] = some ⟨.tuple ⟨[.int .u64 x.1, .bool x.2]⟩, [], []⟩ := by
  show r35 g [.v (.agg ⟨[.bool a0_1, .int .i64 a0_2, .int .i64 a0_3]⟩), .v (.agg ⟨[.int .u64 a1_1, .int .u64 a1_2]⟩), .v (.agg ⟨[.int .i64 a2_1, .bool a2_2, .int .u64 a2_3, .int .u64 a2_4, .bool a2_5, .int .u64 a2_6, .int .u64 a2_7, .int .i64 a2_8, .int .i64 a2_9]⟩), .v (.int .i64 a3_1), .v (.int .u64 a4_1)] = _
  simp only [r35, hx]
abbrev sums35 (R14_Mask : api_Layout → api_Key → api_Tuple → Int → Option Int) (R14_Pack : api_Layout → Int → Int → Option (Int × Bool)) : List (Nat × Summ) := [(43, s43 R14_Mask), (31, s31 R14_Pack)]
theorem leads35 (R14_Mask : api_Layout → api_Key → api_Tuple → Int → Option Int) (R14_Pack : api_Layout → Int → Int → Option (Int × Bool)) (hS : SumsOK Try.prog (aget (sums35 R14_Mask R14_Pack))) (l : api_Layout) (k : api_Key) (t : api_Tuple) (slot : Int) (gen : Int) (res : Int × Bool) (h : R14_MakeF R14_Mask R14_Pack l k t slot gen = some res) :
    Leads Try.prog 35 0 ⟨⟨35, 28, [(0, .agg ⟨[.bool l.Wide, .int .i64 l.Slot, .int .i64 l.Gen]⟩), (1, .agg ⟨[.int .u64 k.A, .int .u64 k.B]⟩), (2, .agg ⟨[.int .i64 t.Proto, .bool t.Src.V6, .int .u64 t.Src.Hi, .int .u64 t.Src.Lo, .bool t.Dst.V6, .int .u64 t.Dst.Hi, .int .u64 t.Dst.Lo, .int .i64 t.SPort, .int .i64 t.DPort]⟩), (3, .int .i64 slot), (4, .int .u64 gen)], [.code k35_11], [], false, none⟩, [], [], 0⟩ (fun v H _ => post35 res v H) := by
  unfold R14_MakeF at h
  refine ev_ok tab_ok hS true 3000 ?_
  conv => whnf
  obtain ⟨p, hy, h2⟩ := obind.elim h; clear h; have h := h2; clear h2
  refine sumK.introF [] (sumRun_of (aqs := [.v (.agg ⟨[.bool l.Wide, .int .i64 l.Slot, .int .i64 l.Gen]⟩), .v (.int .i64 slot), .v (.int .u64 gen)]) (ra_cons rfl (ra_cons rfl (ra_cons rfl ra_nil))) (r31_eq hy) rfl rfl rfl rfl) ?_
  conv => whnf
  refine br.h h ?_ ?_ ?_
  · rfl
  · clear h; intro hb h; conv => whnf
    all_goals (cases h)
    all_goals exact rfl
  clear h; intro hb h; conv => whnf
  obtain ⟨m, hy, h2⟩ := obind.elim h; clear h; have h := h2; clear h2
  refine sumK.introF [] (sumRun_of (aqs := [.v (.agg ⟨[.bool l.Wide, .int .i64 l.Slot, .int .i64 l.Gen]⟩), .v (.agg ⟨[.int .u64 k.A, .int .u64 k.B]⟩), .v (.agg ⟨[.int .i64 t.Proto, .bool t.Src.V6, .int .u64 t.Src.Hi, .int .u64 t.Src.Lo, .bool t.Dst.V6, .int .u64 t.Dst.Hi, .int .u64 t.Dst.Lo, .int .i64 t.SPort, .int .i64 t.DPort]⟩), .v (.int .u64 p.1)]) (ra_cons rfl (ra_cons rfl (ra_cons rfl (ra_cons rfl ra_nil)))) (r43_eq hy) rfl rfl rfl rfl) ?_
  conv => whnf
  all_goals (cases h)
  all_goals exact rfl
theorem ok35 (R14_Mask : api_Layout → api_Key → api_Tuple → Int → Option Int) (R14_Pack : api_Layout → Int → Int → Option (Int × Bool)) (hS : SumsOK Try.prog (aget (sums35 R14_Mask R14_Pack))) : SumOK Try.prog 35 (s35 (R14_MakeF R14_Mask R14_Pack)) := by
  refine SumOK.of_leads tab_ok (fun ar r ha hr => ?_) ⟨Try.f35, rfl, by decide, rfl⟩
  simp only [s35] at ha hr
  unfold r35 at hr
  split at hr <;> try (cases hr; done)
  split at hr <;> cases hr
  rename_i x h
  refine ⟨_, rfl, (leads35 R14_Mask R14_Pack hS _ _ _ _ _ x h).mono fun v H t hp => ?_⟩
  cases hp
  exact Res.val rfl trivial
def R14_Make : api_Layout → api_Key → api_Tuple → Int → Int → Option (Int × Bool) := R14_MakeF R14_Mask R14_Pack
theorem lift35 : SumOK Try.prog 35 (s35 R14_Make) := ok35 R14_Mask R14_Pack (SumsOK.of_tab ⟨lift43, lift31, trivial⟩)
end Go.Vm.Code

namespace Go.Vm.Code
open Go Go.Vm Go.Proofs
set_option maxRecDepth 100000
set_option maxHeartbeats 4000000
set_option linter.unusedVariables false

/-! cloakroom/cloakroomref14.Unpack -/
def R14_UnpackF (R01_Mask : Int → Option Int) (R14_Right : api_Layout → Option Bool) (l : api_Layout) (payload : Int) : Option (Int × Int × Bool) :=
  (R14_Right l).bind fun xr =>
  cond (!xr)
    (
    some ((0, 0, false)))
    (
    (R01_Mask (wI .i64 (l.Slot + l.Gen))).bind fun m =>
    cond (decide (payload > m))
      (
      some ((0, 0, false)))
      (
      (R01_Mask l.Slot).bind fun m1 =>
      oreq (!(decide (wI .u64 (m1 + 1) = 0))) <|
      let t := wI .i64 (payload.tmod (wI .u64 (m1 + 1)))
      oreq (!(decide (wI .u64 (m1 + 1) = 0))) <|
      let t1 := wI .u64 (payload.tdiv (wI .u64 (m1 + 1)))
      some ((t, t1, true))))
def post33 (x : Int × Int × Bool) (v : Value) (H : Hp) : Prop := v = .tuple ⟨[.int .i64 x.1, .int .u64 x.2.1, .bool x.2.2]⟩
def r33 (g : api_Layout → Int → Option (Int × Int × Bool)) : List SArg → Option SRes
  | [.v (.agg ⟨[.bool a0_1, .int .i64 a0_2, .int .i64 a0_3]⟩), .v (.int .u64 a1_1)] => match g (api_Layout.mk a0_1 a0_2 a0_3) a1_1 with | some x => some ⟨.tuple ⟨[.int .i64 x.1, .int .u64 x.2.1, .bool x.2.2]⟩, [], []⟩ | none => none
  | _ => none
def s33 (g : api_Layout → Int → Option (Int × Int × Bool)) : Summ := ⟨[.v, .v], r33 g⟩
theorem r33_eq {g : api_Layout → Int → Option (Int × Int × Bool)} {a0_1 : Bool} {a0_2 : Int} {a0_3 : Int} {a1_1 : Int} {x : Int × Int × Bool} (hx : g (api_Layout.mk a0_1 a0_2 a0_3) a1_1 = some x) : (s33 g).run [.v (.agg ⟨[.bool a0_1, .int .i64 a0_2, .int .i64 a0_3]⟩), .v (.int .u64 a1_1)] = some ⟨.tuple ⟨[.int .i64 x.1, .int .u64 x.2.1, .bool x.2.2]⟩, [], []⟩ := by
  show r33 g [.v (.agg ⟨[.bool a0_1, .int .i64 a0_2, .int .i64 a0_3]⟩), .v (.int .u64 a1_1)] = _
  simp only [r33, hx]
abbrev sums33 (R01_Mask : Int → Option Int) (R14_Right : api_Layout → Option Bool) : List (Nat × Summ) := [(91, s91 R01_Mask), (39, s39 R14_Right)]
theorem leads33 (R01_Mask : Int → Option Int) (R14_Right : api_Layout → Option Bool) (hS : SumsOK Try.prog (aget (sums33 R01_Mask R14_Right))) (l : api_Layout) (payload : Int) (res : Int × Int × Bool) (h : R14_UnpackF R01_Mask R14_Right l payload = some res) :
    Leads Try.prog 33 0 ⟨⟨33, 32, [(0, .agg ⟨[.bool l.Wide, .int .i64 l.Slot, .int .i64 l.Gen]⟩), (1, .int .u64 payload)], [.code k33_11], [], false, none⟩, [], [], 0⟩ (fun v H _ => post33 res v H) := by
  unfold R14_UnpackF at h
  refine ev_ok tab_ok hS true 3000 ?_
  conv => whnf
  obtain ⟨xr, hy, h2⟩ := obind.elim h; clear h; have h := h2; clear h2
  refine sumK.introF [] (sumRun_of (aqs := [.v (.agg ⟨[.bool l.Wide, .int .i64 l.Slot, .int .i64 l.Gen]⟩)]) (ra_cons rfl ra_nil) (r39_eq hy) rfl rfl rfl rfl) ?_
  conv => whnf
  refine br.h h ?_ ?_ ?_
  · rfl
  · clear h; intro hb h; conv => whnf
    all_goals (cases h)
    all_goals exact rfl
  clear h; intro hb h; conv => whnf
  obtain ⟨m, hy, h2⟩ := obind.elim h; clear h; have h := h2; clear h2
  refine sumK.introF [] (sumRun_of (aqs := [.v (.int .i64 (wI .i64 (l.Slot + l.Gen)))]) (ra_cons rfl ra_nil) (r91_eq hy) rfl rfl rfl rfl) ?_
  conv => whnf
  refine br.h h ?_ ?_ ?_
  · rfl
  · clear h; intro hb h; conv => whnf
    all_goals (cases h)
    all_goals exact rfl
  clear h; intro hb h; conv => whnf
  obtain ⟨m1, hy, h2⟩ := obind.elim h; clear h; have h := h2; clear h2
  refine sumK.introF [] (sumRun_of (aqs := [.v (.int .i64 l.Slot)]) (ra_cons rfl ra_nil) (r91_eq hy) rfl rfl rfl rfl) ?_
  conv => whnf
  replace h := oreq.elim h; have hb := h.1; replace h := h.2
  first | (refine req.intro hb ?_; conv => whnf) | skip
  let t : Int := wI .i64 (payload.tmod (wI .u64 (m1 + 1)))
  replace h := oreq.elim h; have hb := h.1; replace h := h.2
  first | (refine req.intro hb ?_; conv => whnf) | skip
  let t1 : Int := wI .u64 (payload.tdiv (wI .u64 (m1 + 1)))
  all_goals (cases h)
  all_goals exact rfl
theorem ok33 (R01_Mask : Int → Option Int) (R14_Right : api_Layout → Option Bool) (hS : SumsOK Try.prog (aget (sums33 R01_Mask R14_Right))) : SumOK Try.prog 33 (s33 (R14_UnpackF R01_Mask R14_Right)) := by
  refine SumOK.of_leads tab_ok (fun ar r ha hr => ?_) ⟨Try.f33, rfl, by decide, rfl⟩
  simp only [s33] at ha hr
  unfold r33 at hr
  split at hr <;> try (cases hr; done)
  split at hr <;> cases hr
  rename_i x h
  refine ⟨_, rfl, (leads33 R01_Mask R14_Right hS _ _ x h).mono fun v H t hp => ?_⟩
  cases hp
  exact Res.val rfl trivial
def R14_Unpack : api_Layout → Int → Option (Int × Int × Bool) := R14_UnpackF R01_Mask R14_Right
theorem lift33 : SumOK Try.prog 33 (s33 R14_Unpack) := ok33 R01_Mask R14_Right (SumsOK.of_tab ⟨lift91, lift39, trivial⟩)
end Go.Vm.Code

namespace Go.Vm.Code
open Go Go.Vm Go.Proofs
set_option maxRecDepth 100000
set_option maxHeartbeats 4000000
set_option linter.unusedVariables false

/-! cloakroom/cloakroomref14.Open -/
def R14_OpenF (R01_Mask : Int → Option Int) (R14_Mask : api_Layout → api_Key → api_Tuple → Int → Option Int) (R14_Unpack : api_Layout → Int → Option (Int × Int × Bool)) (R14_Width : api_Layout → Option Int) (l : api_Layout) (k : api_Key) (t : api_Tuple) (cookie : Int) : Option (Int × Int × Bool) :=
  (R14_Width l).bind fun w =>
  (R01_Mask w).bind fun m =>
  cond (decide (cookie > m))
    (
    some ((0, 0, false)))
    (
    (R14_Mask l k t cookie).bind fun m1 =>
    (R14_Unpack l m1).bind fun u =>
    some ((u.1, u.2.1, u.2.2)))
def post37 (x : Int × Int × Bool) (v : Value) (H : Hp) : Prop := v = .tuple ⟨[.int .i64 x.1, .int .u64 x.2.1, .bool x.2.2]⟩
def r37 (g : api_Layout → api_Key → api_Tuple → Int → Option (Int × Int × Bool)) : List SArg → Option SRes
  | [.v (.agg ⟨[.bool a0_1, .int .i64 a0_2, .int .i64 a0_3]⟩), .v (.agg ⟨[.int .u64 a1_1, .int .u64 a1_2]⟩), .v (.agg ⟨[.int .i64 a2_1, .bool a2_2, .int .u64 a2_3, .int .u64 a2_4, .bool a2_5, .int .u64 a2_6, .int .u64 a2_7, .int .i64 a2_8, .int .i64 a2_9]⟩), .v (.int .u64 a3_1)] => match g (api_Layout.mk a0_1 a0_2 a0_3) (api_Key.mk a1_1 a1_2) (api_Tuple.mk a2_1 (api_Addr.mk a2_2 a2_3 a2_4) (api_Addr.mk a2_5 a2_6 a2_7) a2_8 a2_9) a3_1 with | some x => some ⟨.tuple ⟨[.int .i64 x.1, .int .u64 x.2.1, .bool x.2.2]⟩, [], []⟩ | none => none
  | _ => none
def s37 (g : api_Layout → api_Key → api_Tuple → Int → Option (Int × Int × Bool)) : Summ := ⟨[.v, .v, .v, .v], r37 g⟩
theorem r37_eq {g : api_Layout → api_Key → api_Tuple → Int → Option (Int × Int × Bool)} {a0_1 : Bool} {a0_2 : Int} {a0_3 : Int} {a1_1 : Int} {a1_2 : Int} {a2_1 : Int} {a2_2 : Bool} {a2_3 : Int} {a2_4 : Int} {a2_5 : Bool} {a2_6 : Int} {a2_7 : Int} {a2_8 : Int} {a2_9 : Int} {a3_1 : Int} {x : Int × Int × Bool} (hx : g (api_Layout.mk a0_1 a0_2 a0_3) (api_Key.mk a1_1 a1_2) (api_Tuple.mk a2_1 (api_Addr.mk a2_2 a2_3 a2_4) (api_Addr.mk a2_5 a2_6 a2_7) a2_8 a2_9) a3_1 = some x) : (s37 g).run [.v (.agg ⟨[.bool a0_1, .int .i64 a0_2, .int .i64 a0_3]⟩), .v (.agg ⟨[.int .u64 a1_1, .int .u64 a1_2]⟩), .v (.agg ⟨[.int .i64 a2_1, .bool a2_2, .int .u64 a2_3, .int .u64 a2_4, .bool a2_5, .int .u64 a2_6, .int .u64 a2_7, .int .i64 a2_8, .int .i64 a2_9]⟩), .v (.int .u64 a3_1)] = some ⟨.tuple ⟨[.int .i64 x.1, .int .u64 x.2.1, .bool x.2.2]⟩, [], []⟩ := by
  show r37 g [.v (.agg ⟨[.bool a0_1, .int .i64 a0_2, .int .i64 a0_3]⟩), .v (.agg ⟨[.int .u64 a1_1, .int .u64 a1_2]⟩), .v (.agg ⟨[.int .i64 a2_1, .bool a2_2, .int .u64 a2_3, .int .u64 a2_4, .bool a2_5, .int .u64 a2_6, .int .u64 a2_7, .int .i64 a2_8, .int .i64 a2_9]⟩), .v (.int .u64 a3_1)] = _
  simp only [r37, hx]
abbrev sums37 (R01_Mask : Int → Option Int) (R14_Mask : api_Layout → api_Key → api_Tuple → Int → Option Int) (R14_Unpack : api_Layout → Int → Option (Int × Int × Bool)) (R14_Width : api_Layout → Option Int) : List (Nat × Summ) := [(91, s91 R01_Mask), (43, s43 R14_Mask), (33, s33 R14_Unpack), (41, s41 R14_Width)]
theorem leads37 (R01_Mask : Int → Option Int) (R14_Mask : api_Layout → api_Key → api_Tuple → Int → Option Int) (R14_Unpack : api_Layout → Int → Option (Int × Int × Bool)) (R14_Width : api_Layout → Option Int) (hS : SumsOK Try.prog (aget (sums37 R01_Mask R14_Mask R14_Unpack R14_Width))) (l : api_Layout) (k : api_Key) (t : api_Tuple) (cookie : Int) (res : Int × Int × Bool) (h : R14_OpenF R01_Mask R14_Mask R14_Unpack R14_Width l k t cookie = some res) :
    Leads Try.prog 37 0 ⟨⟨37, 26, [(0, .agg ⟨[.bool l.Wide, .int .i64 l.Slot, .int .i64 l.Gen]⟩), (1, .agg ⟨[.int .u64 k.A, .int .u64 k.B]⟩), (2, .agg ⟨[.int .i64 t.Proto, .bool t.Src.V6, .int .u64 t.Src.Hi, .int .u64 t.Src.Lo, .bool t.Dst.V6, .int .u64 t.Dst.Hi, .int .u64 t.Dst.Lo, .int .i64 t.SPort, .int .i64 t.DPort]⟩), (3, .int .u64 cookie)], [.code k37_9], [], false, none⟩, [], [], 0⟩ (fun v H _ => post37 res v H) := by
  unfold R14_OpenF at h
  refine ev_ok tab_ok hS true 3000 ?_
  conv => whnf
  obtain ⟨w, hy, h2⟩ := obind.elim h; clear h; have h := h2; clear h2
  refine sumK.introF [] (sumRun_of (aqs := [.v (.agg ⟨[.bool l.Wide, .int .i64 l.Slot, .int .i64 l.Gen]⟩)]) (ra_cons rfl ra_nil) (r41_eq hy) rfl rfl rfl rfl) ?_
  conv => whnf
  obtain ⟨m, hy, h2⟩ := obind.elim h; clear h; have h := h2; clear h2
  refine sumK.introF [] (sumRun_of (aqs := [.v (.int .i64 w)]) (ra_cons rfl ra_nil) (r91_eq hy) rfl rfl rfl rfl) ?_
  conv => whnf
  refine br.h h ?_ ?_ ?_
  · rfl
  · clear h; intro hb h; conv => whnf
    all_goals (cases h)
    all_goals exact rfl
  clear h; intro hb h; conv => whnf
  obtain ⟨m1, hy, h2⟩ := obind.elim h; clear h; have h := h2; clear h2
  refine sumK.introF [] (sumRun_of (aqs := [.v (.agg ⟨[.bool l.Wide, .int .i64 l.Slot, .int .i64 l.Gen]⟩), .v (.agg ⟨[.int .u64 k.A, .int .u64 k.B]⟩), .v (.agg ⟨[.int .i64 t.Proto, .bool t.Src.V6, .int .u64 t.Src.Hi, .int .u64 t.Src.Lo, .bool t.Dst.V6, .int .u64 t.Dst.Hi, .int .u64 t.Dst.Lo, .int .i64 t.SPort, .int .i64 t.DPort]⟩), .v (.int .u64 cookie)]) (ra_cons rfl (ra_cons rfl (ra_cons rfl (ra_cons rfl ra_nil)))) (r43_eq hy) rfl rfl rfl rfl) ?_
  conv => whnf
  obtain ⟨u, hy, h2⟩ := obind.elim h; clear h; have h := h2; clear h2
  refine sumK.introF [] (sumRun_of (aqs := [.v (.agg ⟨[.bool l.Wide, .int .i64 l.Slot, .int .i64 l.Gen]⟩), .v (.int .u64 m1)]) (ra_cons rfl (ra_cons rfl ra_nil)) (r33_eq hy) rfl rfl rfl rfl) ?_
  conv => whnf
  all_goals (cases h)
  all_goals exact rfl
theorem ok37 (R01_Mask : Int → Option Int) (R14_Mask : api_Layout → api_Key → api_Tuple → Int → Option Int) (R14_Unpack : api_Layout → Int → Option (Int × Int × Bool)) (R14_Width : api_Layout → Option Int) (hS : SumsOK Try.prog (aget (sums37 R01_Mask R14_Mask R14_Unpack R14_Width))) : SumOK Try.prog 37 (s37 (R14_OpenF R01_Mask R14_Mask R14_Unpack R14_Width)) := by
  refine SumOK.of_leads tab_ok (fun ar r ha hr => ?_) ⟨Try.f37, rfl, by decide, rfl⟩
  simp only [s37] at ha hr
  unfold r37 at hr
  split at hr <;> try (cases hr; done)
  split at hr <;> cases hr
  rename_i x h
  refine ⟨_, rfl, (leads37 R01_Mask R14_Mask R14_Unpack R14_Width hS _ _ _ _ x h).mono fun v H t hp => ?_⟩
  cases hp
  exact Res.val rfl trivial
def R14_Open : api_Layout → api_Key → api_Tuple → Int → Option (Int × Int × Bool) := R14_OpenF R01_Mask R14_Mask R14_Unpack R14_Width
theorem lift37 : SumOK Try.prog 37 (s37 R14_Open) := ok37 R01_Mask R14_Mask R14_Unpack R14_Width (SumsOK.of_tab ⟨lift91, lift43, lift33, lift41, trivial⟩)
end Go.Vm.Code

/- Chapter 14's cookies: what the lifted functions compute. -/
namespace Go.Vm.Code
open Go Go.Vm

def bitsN (l : api_Layout) : Nat := cond l.Wide 64 16
def LOK (l : api_Layout) : Prop := (0 ≤ l.Slot ∧ l.Slot ≤ 12) ∧ 0 ≤ l.Gen ∧ l.Gen ≤ (cond l.Wide 63 16 : Int) - l.Slot
instance (l : api_Layout) : Decidable (LOK l) := inferInstanceAs (Decidable (_ ∧ _))
theorem LOK_w {l : api_Layout} {w : Bool} (hw : l.Wide = w) : LOK l ↔ ((0 ≤ l.Slot ∧ l.Slot ≤ 12) ∧ 0 ≤ l.Gen ∧ l.Gen ≤ (cond w 63 16 : Int) - l.Slot) := by
  unfold LOK; rw [hw]
theorem cRight_eq {l : api_Layout} (_ : True) : cookie_Right l = some (decide (LOK l)) := by
  unfold cookie_Right cookie_RightF cookie_layout_may cookie_layout_mayF cookie_layout_bits cookie_layout_bitsF
  simp only []
  by_cases h1 : l.Slot < 0
  · rw [cond_p h1, decide_eq_false (fun h : LOK l => by have := h.1; omega)]; rfl
  rw [cond_n h1]
  by_cases h2 : l.Slot > 12
  · rw [cond_p h2, decide_eq_false (fun h : LOK l => by have := h.1; omega)]; rfl
  rw [cond_n h2]
  by_cases h3 : l.Gen < 0
  · rw [cond_p h3, decide_eq_false (fun h : LOK l => by have := h.2; omega)]; rfl
  rw [cond_n h3]
  cases hw : l.Wide with
  | true =>
    simp only [cond_true, Option.bind_some]
    rw [if_pos (by omega), wI64 (by omega) (by omega)]
    congr 1; rw [Bool.eq_iff_iff, decide_eq_true_eq, decide_eq_true_eq, LOK_w hw, cond_true]; omega
  | false =>
    simp only [cond_false, Option.bind_some]
    rw [if_neg (by omega), wI64 (by omega) (by omega)]
    congr 1; rw [Bool.eq_iff_iff, decide_eq_true_eq, decide_eq_true_eq, LOK_w hw, cond_false]; omega
theorem rRight_eq (l : api_Layout) : R14_Right l = some (decide (LOK l)) := by
  unfold R14_Right R14_RightF
  have key : ∀ (b : Bool) (w : Int), l.Wide = b → w = cond b 63 16 → (cond (decide (l.Slot ≥ 0)) (cond (decide (l.Slot ≤ 12)) (cond (decide (l.Gen ≥ 0)) (some (decide (l.Gen ≤ (wI .i64 (w - l.Slot))))) (some (false))) (some (false))) (some (false)) : Option Bool) = some (decide (LOK l)) := by
    intro b w hb hw
    have hw2 : w = 63 ∨ w = 16 := by cases b <;> simp only [cond_true, cond_false] at hw <;> omega
    by_cases h1 : l.Slot ≥ 0
    · rw [cond_p h1]
      by_cases h2 : l.Slot ≤ 12
      · rw [cond_p h2]
        by_cases h3 : l.Gen ≥ 0
        · rw [cond_p h3, wI64 (by omega) (by omega)]
          congr 1; rw [Bool.eq_iff_iff, decide_eq_true_eq, decide_eq_true_eq, LOK_w hb, ← hw]; omega
        · rw [cond_n h3, decide_eq_false (fun h : LOK l => by have := h.2; omega)]
      · rw [cond_n h2, decide_eq_false (fun h : LOK l => by have := h.1; omega)]
    · rw [cond_n h1, decide_eq_false (fun h : LOK l => by have := h.1; omega)]
  cases hw : l.Wide with
  | true => simp only [cond_true]; exact key true 63 hw rfl
  | false => simp only [cond_false]; exact key false 16 hw rfl
def widN (l : api_Layout) : Nat := if LOK l then bitsN l else 0
theorem cWidth_eq (l : api_Layout) : cookie_Width l = some (widN l : Int) := by
  unfold cookie_Width cookie_WidthF widN
  rw [cRight_eq trivial, Option.bind_some]
  by_cases h : LOK l
  · rw [decide_eq_true h, Bool.not_true, cond_false, if_pos h]
    unfold cookie_layout_bits cookie_layout_bitsF bitsN
    simp only []
    cases l.Wide <;> rfl
  · rw [decide_eq_false h, if_neg h]; rfl
theorem rWidth_eq (l : api_Layout) : R14_Width l = some (widN l : Int) := by
  unfold R14_Width R14_WidthF widN
  rw [rRight_eq, Option.bind_some]
  by_cases h : LOK l
  · rw [decide_eq_true h, Bool.not_true, cond_false, if_pos h]
    unfold bitsN
    cases l.Wide <;> rfl
  · rw [decide_eq_false h, if_neg h]; rfl
theorem LOK_nat {l : api_Layout} (h : LOK l) : ∃ a b : Nat, l.Slot = a ∧ l.Gen = b ∧ a ≤ 12 ∧ a + b ≤ 63 ∧ a + b ≤ bitsN l := by
  obtain ⟨⟨h1, h2⟩, h3, h4⟩ := h
  refine ⟨l.Slot.toNat, l.Gen.toNat, by omega, by omega, by omega, ?_, ?_⟩
  · revert h4; cases l.Wide <;> simp only [cond_true, cond_false] <;> omega
  · unfold bitsN; revert h4; cases l.Wide <;> simp only [cond_true, cond_false] <;> omega
theorem powI (i : Nat) : ((2 : Int) ^ i) = ((2 ^ i : Nat) : Int) := by push_cast; rfl
theorem pow_mono {i j : Nat} (h : i ≤ j) : (2 : Nat) ^ i ≤ 2 ^ j := Nat.pow_le_pow_right (by decide) h
def packS (l : api_Layout) (slot gen : Int) : Int × Bool :=
  if LOK l ∧ 0 ≤ slot ∧ slot.toNat < 2 ^ l.Slot.toNat then (((gen.toNat % 2 ^ l.Gen.toNat * 2 ^ l.Slot.toNat + slot.toNat : Nat) : Int), true) else (0, false)
theorem pk_lt {a b g s : Nat} (hs : s < 2 ^ a) : g % 2 ^ b * 2 ^ a + s < 2 ^ (a + b) := by
  have h := Nat.mod_lt g (Nat.two_pow_pos b)
  rw [Nat.add_comm a b, Nat.pow_add]
  have : (g % 2 ^ b + 1) * 2 ^ a ≤ 2 ^ b * 2 ^ a := Nat.mul_le_mul_right _ h
  rw [Nat.add_mul] at this; omega
theorem cPack_eq {l : api_Layout} {slot gen : Int} (hs : slot < 2 ^ 63) (hg : 0 ≤ gen ∧ gen < 2 ^ 64) : cookie_Pack l slot gen = some (packS l slot gen) := by
  unfold cookie_Pack cookie_PackF packS
  rw [cRight_eq trivial, Option.bind_some]
  by_cases h : LOK l
  · obtain ⟨a, b, ea, eb, h12, h63, _⟩ := LOK_nat h
    rw [decide_eq_true h, Bool.not_true, cond_false, ea, eb, Int.toNat_natCast, Int.toNat_natCast]
    by_cases h0 : slot < 0
    · rw [cond_p h0, if_neg (by omega)]
    rw [cond_n h0, oreq_p (by omega)]
    obtain ⟨s, rfl⟩ := Int.eq_ofNat_of_zero_le (show 0 ≤ slot by omega)
    obtain ⟨g, rfl⟩ := Int.eq_ofNat_of_zero_le hg.1
    simp only [Int.toNat_natCast]
    rw [Nat.min_eq_left (by omega), fdivP]
    have e1 : (((s : Int) / 2 ^ a) != 0) = decide (¬ s < 2 ^ a) := by
      rw [powI, Bool.eq_iff_iff, bne_iff_ne, decide_eq_true_eq]
      have : (s : Int) / ((2 ^ a : Nat) : Int) = ((s / 2 ^ a : Nat) : Int) := rfl
      rw [this]
      have := Nat.div_eq_zero_iff (a := s) (b := 2 ^ a)
      have := Nat.two_pow_pos a
      omega
    rw [e1]
    by_cases h1 : s < 2 ^ a
    · rw [cond_n (by omega), Mask_eq, Option.bind_some, oreq_p (by omega), if_pos ⟨h, by omega, h1⟩]
      have em : mskI (b : Int) = 2 ^ b - 1 := by unfold mskI; rw [if_pos (by omega)]; rfl
      rw [em, andU64_mask b rfl (by omega) (by omega) (by omega)]
      have eg : (g : Int) % 2 ^ b = ((g % 2 ^ b : Nat) : Int) := by rw [powI]; rfl
      have hlt := pk_lt (a := a) (b := b) (g := g) h1
      have hp := pow_mono (show a + b ≤ 63 by omega)
      have hpi : (g % 2 ^ b : Nat) * ((2 : Int) ^ a) = ((g % 2 ^ b * 2 ^ a : Nat) : Int) := by rw [powI]; push_cast; rfl
      rw [eg, wU64 (n := ((g % 2 ^ b : Nat) : Int) * 2 ^ a) (by rw [hpi]; omega) (by rw [hpi]; omega), wU64 (n := (s : Int)) (by omega) (by omega),
        iorU64_low a (by omega) (by rw [hpi]; omega) (by omega) (by rw [powI]; omega) (by omega), hpi]
      first | rfl | (congr 2 <;> omega)
    · rw [cond_p h1, if_neg (by intro hh; exact h1 hh.2.2)]
  · rw [decide_eq_false h, if_neg (by intro hh; exact h hh.1)]; rfl
theorem rPack_eq {l : api_Layout} {slot gen : Int} (hs : slot < 2 ^ 63) (hg : 0 ≤ gen ∧ gen < 2 ^ 64) : R14_Pack l slot gen = some (packS l slot gen) := by
  unfold R14_Pack R14_PackF packS
  rw [rRight_eq, Option.bind_some]
  by_cases h : LOK l
  · obtain ⟨a, b, ea, eb, h12, h63, _⟩ := LOK_nat h
    rw [decide_eq_true h, Bool.not_true, cond_false, ea, eb, Int.toNat_natCast, Int.toNat_natCast]
    by_cases h0 : slot < 0
    · rw [cond_p h0, if_neg (by omega)]
    obtain ⟨s, rfl⟩ := Int.eq_ofNat_of_zero_le (show 0 ≤ slot by omega)
    obtain ⟨g, rfl⟩ := Int.eq_ofNat_of_zero_le hg.1
    have em : mskI (a : Int) = 2 ^ a - 1 := by unfold mskI; rw [if_pos (by omega)]; rfl
    have em2 : mskI (b : Int) = 2 ^ b - 1 := by unfold mskI; rw [if_pos (by omega)]; rfl
    have p1 := Nat.two_pow_pos a
    rw [cond_n h0, rMask_eq, Option.bind_some, wU64 (n := (s : Int)) (by omega) (by omega), em]
    simp only [Int.toNat_natCast]
    by_cases h1 : s < 2 ^ a
    · rw [cond_n (by rw [powI]; omega), rMask_eq, Option.bind_some, Option.bind_some, if_pos ⟨h, by omega, h1⟩, em2, andU64_mask b rfl (by omega) (by omega) (by omega)]
      have eg : (g : Int) % 2 ^ b = ((g % 2 ^ b : Nat) : Int) := by rw [powI]; rfl
      have hlt := pk_lt (a := a) (b := b) (g := g) h1
      have hp := pow_mono (show a + b ≤ 63 by omega)
      have hp2 := pow_mono (show a ≤ 63 by omega)
      have hpi : (g % 2 ^ b : Nat) * ((2 : Int) ^ a) = ((g % 2 ^ b * 2 ^ a : Nat) : Int) := by rw [powI]; push_cast; rfl
      have e2 : wI .u64 ((2 : Int) ^ a - 1 + 1) = 2 ^ a := by rw [Int.sub_add_cancel, powI]; exact wU64 (by omega) (by omega)
      rw [e2, eg, hpi]
      rw [wU64 (n := ((g % 2 ^ b * 2 ^ a : Nat) : Int)) (by omega) (by omega), wU64 (by omega) (by omega)]
      first | rfl | (congr 2 <;> omega)
    · rw [cond_p (by rw [powI]; omega), if_neg (by intro hh; exact h1 hh.2.2)]
  · rw [decide_eq_false h, if_neg (by intro hh; exact h hh.1)]; rfl
def unpackS (l : api_Layout) (p : Int) : Int × Int × Bool :=
  if LOK l ∧ p.toNat < 2 ^ (l.Slot.toNat + l.Gen.toNat) then (((p.toNat % 2 ^ l.Slot.toNat : Nat) : Int), ((p.toNat / 2 ^ l.Slot.toNat : Nat) : Int), true) else (0, 0, false)
theorem cUnpack_eq {l : api_Layout} {p : Int} (hp : 0 ≤ p ∧ p < 2 ^ 64) : cookie_Unpack l p = some (unpackS l p) := by
  unfold cookie_Unpack cookie_UnpackF unpackS
  rw [cRight_eq trivial, Option.bind_some]
  by_cases h : LOK l
  · obtain ⟨a, b, ea, eb, h12, h63, _⟩ := LOK_nat h
    obtain ⟨n, rfl⟩ := Int.eq_ofNat_of_zero_le hp.1
    rw [decide_eq_true h, Bool.not_true, cond_false, ea, eb, wI64 (by omega) (by omega), oreq_p (by omega)]
    have e0 : min ((a : Int) + b).toNat 64 = a + b := by omega
    simp only [Int.toNat_natCast, e0]
    have e1 : (((n : Int).fdiv (2 ^ (a + b))) != 0) = decide (¬ n < 2 ^ (a + b)) := by
      rw [fdivP, powI, Bool.eq_iff_iff, bne_iff_ne, decide_eq_true_eq]
      have : (n : Int) / ((2 ^ (a + b) : Nat) : Int) = ((n / 2 ^ (a + b) : Nat) : Int) := rfl
      rw [this]
      have := Nat.div_eq_zero_iff (a := n) (b := 2 ^ (a + b))
      have := Nat.two_pow_pos (a + b)
      omega
    rw [e1]
    by_cases h1 : n < 2 ^ (a + b)
    · have em : mskI (a : Int) = 2 ^ a - 1 := by unfold mskI; rw [if_pos (by omega)]; rfl
      have hm := Nat.mod_lt n (Nat.two_pow_pos a)
      have hp2 := pow_mono (show a ≤ 12 by omega)
      rw [cond_n (by omega), Mask_eq, Option.bind_some, oreq_p (by omega), if_pos ⟨h, h1⟩, em, andU64_mask a rfl (by omega) (by omega) (by omega), Nat.min_eq_left (by omega), fdivP]
      have e3 : (n : Int) % 2 ^ a = ((n % 2 ^ a : Nat) : Int) := by rw [powI]; rfl
      have e4 : (n : Int) / 2 ^ a = ((n / 2 ^ a : Nat) : Int) := by rw [powI]; rfl
      rw [e3, e4, wI64 (by omega) (by omega)]
    · rw [cond_p h1, if_neg (by intro hh; exact h1 hh.2)]
  · rw [decide_eq_false h, if_neg (by intro hh; exact h hh.1)]; rfl
theorem rUnpack_eq {l : api_Layout} {p : Int} (hp : 0 ≤ p ∧ p < 2 ^ 64) : R14_Unpack l p = some (unpackS l p) := by
  unfold R14_Unpack R14_UnpackF unpackS
  rw [rRight_eq, Option.bind_some]
  by_cases h : LOK l
  · obtain ⟨a, b, ea, eb, h12, h63, _⟩ := LOK_nat h
    obtain ⟨n, rfl⟩ := Int.eq_ofNat_of_zero_le hp.1
    have e0 : mskI ((a : Int) + b) = 2 ^ (a + b) - 1 := by
      unfold mskI; rw [if_pos (by omega)]
      have : ((a : Int) + b).toNat = a + b := by omega
      rw [this]
    have em : mskI (a : Int) = 2 ^ a - 1 := by unfold mskI; rw [if_pos (by omega)]; rfl
    have p1 := Nat.two_pow_pos (a + b)
    rw [decide_eq_true h, Bool.not_true, cond_false, ea, eb, wI64 (by omega) (by omega), rMask_eq, Option.bind_some, e0]
    simp only [Int.toNat_natCast]
    by_cases h1 : n < 2 ^ (a + b)
    · have hm := Nat.mod_lt n (Nat.two_pow_pos a)
      have hp2 := pow_mono (show a ≤ 12 by omega)
      have p2 := Nat.two_pow_pos a
      have e2 : wI .u64 ((2 : Int) ^ a - 1 + 1) = ((2 ^ a : Nat) : Int) := by rw [Int.sub_add_cancel, powI]; exact wU64 (by omega) (by omega)
      have e3 : (n : Int).tmod ((2 ^ a : Nat) : Int) = ((n % 2 ^ a : Nat) : Int) := by rw [Int.tmod_eq_emod_of_nonneg (by omega)]; rfl
      have e4 : (n : Int).tdiv ((2 ^ a : Nat) : Int) = ((n / 2 ^ a : Nat) : Int) := by rw [Int.tdiv_eq_ediv_of_nonneg (by omega)]; rfl
      have hd := Nat.div_le_self n (2 ^ a)
      generalize n / 2 ^ a = dd at hd e4 ⊢
      rw [cond_n (by rw [powI]; omega), rMask_eq, Option.bind_some, em, e2, oreq.mk (by rw [decide_eq_false (by omega)]; rfl), oreq.mk (by rw [decide_eq_false (by omega)]; rfl), if_pos ⟨h, h1⟩, e3, e4, wI64 (by omega) (by omega), wU64 (by omega) (by omega)]
    · rw [cond_p (by rw [powI]; omega), if_neg (by intro hh; exact h1 hh.2)]
  · rw [decide_eq_false h, if_neg (by intro hh; exact h hh.1)]; rfl
/-- the hash of a tuple -/
def hshI (k : api_Key) (t : api_Tuple) : Int := hashR tak finQ (tupS t).length (newV k).s (tupS t)
theorem ixor_rng (a b : Int) : 0 ≤ ixorI .u64 a b ∧ ixorI .u64 a b < 2 ^ 64 := by
  have := wU64m (((BitVec.ofInt (IntKind.bits .u64) a ^^^ BitVec.ofInt (IntKind.bits .u64) b).toNat : Nat) : Int)
  have e : ixorI .u64 a b = wI .u64 (((BitVec.ofInt (IntKind.bits .u64) a ^^^ BitVec.ofInt (IntKind.bits .u64) b).toNat : Nat) : Int) := rfl
  rw [e, this]; omega
theorem finQ_rng (q : Arr4_Int) : 0 ≤ finQ q ∧ finQ q < 2 ^ 64 := ixor_rng _ _
theorem hashR_rng (T : Arr4_Int → Int → Arr4_Int) (fin : Arr4_Int → Int) (hf : ∀ q, 0 ≤ fin q ∧ fin q < 2 ^ 64) (n : Nat) : ∀ (k : Nat) (l : List UInt8) (q : Arr4_Int), l.length ≤ k → 0 ≤ hashR T fin n q l ∧ hashR T fin n q l < 2 ^ 64
  | 0, l, q, h => by
    rw [hashR, dif_neg (by omega)]; exact hf _
  | k + 1, l, q, h => by
    rw [hashR]
    split
    · exact hashR_rng T fin hf n k _ _ (by simp; omega)
    · exact hf _
theorem hsh_rng (k : api_Key) (t : api_Tuple) : 0 ≤ hshI k t ∧ hshI k t < 2 ^ 64 := hashR_rng tak finQ finQ_rng _ _ _ _ (Nat.le_refl _)
/-- a number behind the hash -/
def mskN (l : api_Layout) (k : api_Key) (t : api_Tuple) (n : Nat) : Nat := (n ^^^ (hshI k t).toNat) % 2 ^ widN l
theorem wid_le (l : api_Layout) : widN l ≤ 64 := by
  unfold widN bitsN
  split
  · cases l.Wide <;> decide
  · decide
theorem mskA {l : api_Layout} {k : api_Key} {t : api_Tuple} {n : Int} (hn : 0 ≤ n ∧ n < 2 ^ 64) : andI .u64 (ixorI .u64 n (hshI k t)) (mskI (widN l : Int)) = ((mskN l k t n.toNat : Nat) : Int) := by
  have hw := wid_le l
  obtain ⟨h1, h2⟩ := hsh_rng k t
  obtain ⟨x, rfl⟩ := Int.eq_ofNat_of_zero_le hn.1
  unfold mskN
  generalize hshI k t = h at *
  obtain ⟨y, rfl⟩ := Int.eq_ofNat_of_zero_le h1
  have hx : x ^^^ y < 2 ^ 64 := Nat.xor_lt_two_pow (by omega) (by omega)
  have em : mskI (widN l : Int) = 2 ^ widN l - 1 := by unfold mskI; rw [if_pos (by omega)]; rfl
  rw [ixorU64 (by omega) (by omega), em, andU64_mask (widN l) rfl hw (by omega) (by omega), powI]
  rfl
theorem cMask_eq {l : api_Layout} {k : api_Key} {t : api_Tuple} {n : Int} (hn : 0 ≤ n ∧ n < 2 ^ 64) (hs : inU t.Src) (hd : inU t.Dst) : cookie_Mask l k t n = some ((mskN l k t n.toNat : Nat) : Int) := by
  unfold cookie_Mask cookie_MaskF
  have hl := tupS_len t
  rw [New_eq, Option.bind_some, tPut_eq hs hd, Option.bind_some, Write_eq rfl (by simp [newV]) (by simp [newV]; omega), Option.bind_some, Sum_eq (by rw [(wrL _ _).1]; rfl), Option.bind_some, cWidth_eq, Option.bind_some, Mask_eq, Option.bind_some]
  have e : sumV ((tupS t).foldl wrB (newV k)) = hshI k t := fold_hashR tak finQ (tupS t).length (tupS t) (newV k) (Nat.le_refl _) rfl (by simp [newV]) rfl (tupS t).length (by simp [newV])
  simp only []
  rw [e, mskA hn]
theorem rMaskT_eq {l : api_Layout} {k : api_Key} {t : api_Tuple} {n : Int} (hn : 0 ≤ n ∧ n < 2 ^ 64) (hs : inU t.Src) (hd : inU t.Dst) : R14_Mask l k t n = some ((mskN l k t n.toNat : Nat) : Int) := by
  unfold R14_Mask R14_MaskF
  have hl := tupS_len t
  rw [rtPut_eq hs hd, Option.bind_some, R12_Hash_eq (by omega), Option.bind_some, rWidth_eq, Option.bind_some, rMask_eq, Option.bind_some]
  exact congrArg some (mskA hn)
def makeS (l : api_Layout) (k : api_Key) (t : api_Tuple) (slot gen : Int) : Int × Bool :=
  if (packS l slot gen).2 = true then (((mskN l k t (packS l slot gen).1.toNat : Nat) : Int), true) else (0, false)
theorem pack_rng (l : api_Layout) (slot gen : Int) : 0 ≤ (packS l slot gen).1 ∧ (packS l slot gen).1 < 2 ^ 64 := by
  unfold packS
  split
  · rename_i h
    obtain ⟨a, b, ea, eb, h12, h63, _⟩ := LOK_nat h.1
    have h3 := h.2.2
    rw [ea, Int.toNat_natCast] at h3
    rw [ea, eb, Int.toNat_natCast, Int.toNat_natCast]
    have hlt := pk_lt (a := a) (b := b) (g := gen.toNat) h3
    have hp := pow_mono (show a + b ≤ 63 by omega)
    simp only []
    omega
  · simp
theorem cMake_eq {l : api_Layout} {k : api_Key} {t : api_Tuple} {slot gen : Int} (hsl : slot < 2 ^ 63) (hg : 0 ≤ gen ∧ gen < 2 ^ 64) (hs : inU t.Src) (hd : inU t.Dst) : cookie_Make l k t slot gen = some (makeS l k t slot gen) := by
  unfold cookie_Make cookie_MakeF makeS
  rw [cPack_eq hsl hg, Option.bind_some]
  cases h : (packS l slot gen).2 with
  | false => rfl
  | true => rw [Bool.not_true, cond_false, cMask_eq (pack_rng _ _ _) hs hd]; rfl
theorem rMake_eq {l : api_Layout} {k : api_Key} {t : api_Tuple} {slot gen : Int} (hsl : slot < 2 ^ 63) (hg : 0 ≤ gen ∧ gen < 2 ^ 64) (hs : inU t.Src) (hd : inU t.Dst) : R14_Make l k t slot gen = some (makeS l k t slot gen) := by
  unfold R14_Make R14_MakeF makeS
  rw [rPack_eq hsl hg, Option.bind_some]
  cases h : (packS l slot gen).2 with
  | false => rfl
  | true => rw [Bool.not_true, cond_false, rMaskT_eq (pack_rng _ _ _) hs hd]; rfl
def openS (l : api_Layout) (k : api_Key) (t : api_Tuple) (c : Int) : Int × Int × Bool :=
  if c.toNat < 2 ^ widN l then unpackS l ((mskN l k t c.toNat : Nat) : Int) else (0, 0, false)
theorem msk_rng (l : api_Layout) (k : api_Key) (t : api_Tuple) (n : Nat) : ((mskN l k t n : Nat) : Int) < 2 ^ 64 := by
  have h := Nat.mod_lt (n ^^^ (hshI k t).toNat) (Nat.two_pow_pos (widN l))
  have hp := pow_mono (wid_le l)
  unfold mskN; omega
theorem andn_eq {c w : Nat} (hc : c < 2 ^ 64) (hw : w = 0 ∨ w = 16 ∨ w = 64) : (andnI .u64 (c : Int) (mskI (w : Int)) != 0) = decide (¬ c < 2 ^ w) := by
  have hx : ∀ m : Int, andnI .u64 (c : Int) m = wI .u64 (((BitVec.ofInt 64 (c : Int) &&& ~~~ BitVec.ofInt 64 m).toNat : Nat) : Int) := fun m => rfl
  have hb : ∀ x : BitVec 64, wI .u64 ((x.toNat : Nat) : Int) = ((x.toNat : Nat) : Int) := fun x => by have := x.isLt; exact wU64 (by omega) (by omega)
  rw [hx, hb, BitVec.toNat_and, bv64 (by omega), BitVec.toNat_not, Bool.eq_iff_iff, bne_iff_ne, decide_eq_true_eq]
  rcases hw with rfl | rfl | rfl
  · have e : (2 ^ 64 - 1 - (BitVec.ofInt 64 (mskI ((0 : Nat) : Int))).toNat) = 2 ^ 64 - 1 := by decide +kernel
    rw [e, Nat.and_two_pow_sub_one_eq_mod, Nat.mod_eq_of_lt hc]; omega
  · have e : (2 ^ 64 - 1 - (BitVec.ofInt 64 (mskI ((16 : Nat) : Int))).toNat) = (2 ^ 48 - 1) * 2 ^ 16 := by decide +kernel
    have e2 : c &&& ((2 ^ 48 - 1) * 2 ^ 16) = c / 2 ^ 16 * 2 ^ 16 := by
      apply Nat.eq_of_testBit_eq
      intro i
      rw [Nat.testBit_and, Nat.testBit_mul_two_pow, Nat.testBit_mul_two_pow, Nat.testBit_two_pow_sub_one, Nat.testBit_div_two_pow]
      by_cases hi : 16 ≤ i
      · have : i - 16 + 16 = i := by omega
        rw [this, decide_eq_true hi, Bool.true_and, Bool.true_and]
        by_cases h2 : i - 16 < 48
        · rw [decide_eq_true h2, Bool.and_true]
        · rw [decide_eq_false h2, Bool.and_false]
          symm
          exact Nat.testBit_lt_two_pow (Nat.lt_of_lt_of_le hc (pow_mono (by omega)))
      · rw [decide_eq_false hi]; simp
    rw [e, e2]; omega
  · have e : (2 ^ 64 - 1 - (BitVec.ofInt 64 (mskI ((64 : Nat) : Int))).toNat) = 0 := by decide +kernel
    rw [e, Nat.and_zero]; omega
theorem wid_cases (l : api_Layout) : widN l = 0 ∨ widN l = 16 ∨ widN l = 64 := by
  unfold widN bitsN
  split
  · cases l.Wide <;> simp
  · simp
theorem cOpen_eq {l : api_Layout} {k : api_Key} {t : api_Tuple} {c : Int} (hc : 0 ≤ c ∧ c < 2 ^ 64) (hs : inU t.Src) (hd : inU t.Dst) : cookie_Open l k t c = some (openS l k t c) := by
  unfold cookie_Open cookie_OpenF openS
  obtain ⟨n, rfl⟩ := Int.eq_ofNat_of_zero_le hc.1
  rw [cWidth_eq, Option.bind_some, Mask_eq, Option.bind_some, andn_eq (by omega) (wid_cases l), Int.toNat_natCast]
  by_cases h : n < 2 ^ widN l
  · rw [cond_n (by omega), if_pos h, cMask_eq hc hs hd, Option.bind_some, cUnpack_eq ⟨by omega, msk_rng _ _ _ _⟩]; rfl
  · rw [cond_p h, if_neg h]
theorem rOpen_eq {l : api_Layout} {k : api_Key} {t : api_Tuple} {c : Int} (hc : 0 ≤ c ∧ c < 2 ^ 64) (hs : inU t.Src) (hd : inU t.Dst) : R14_Open l k t c = some (openS l k t c) := by
  unfold R14_Open R14_OpenF openS
  obtain ⟨n, rfl⟩ := Int.eq_ofNat_of_zero_le hc.1
  have hw := wid_le l
  have p1 := Nat.two_pow_pos (widN l)
  have em : mskI (widN l : Int) = 2 ^ widN l - 1 := by unfold mskI; rw [if_pos (by omega)]; rfl
  rw [rWidth_eq, Option.bind_some, rMask_eq, Option.bind_some, em, Int.toNat_natCast]
  by_cases h : n < 2 ^ widN l
  · rw [cond_n (by rw [powI]; omega), if_pos h, rMaskT_eq hc hs hd, Option.bind_some, rUnpack_eq ⟨by omega, msk_rng _ _ _ _⟩]; rfl
  · rw [cond_p (by rw [powI]; omega), if_neg h]
end Go.Vm.Code

namespace Go.Vm.Code
open Go Go.Vm Go.Proofs
set_option maxRecDepth 100000
set_option maxHeartbeats 4000000
set_option linter.unusedVariables false

/-! cloakroom/cloakroomlaw14.awake -/
def law14_awakeF (cookie_Pack : api_Layout → Int → Int → Option (Int × Bool)) (cookie_Unpack : api_Layout → Int → Option (Int × Int × Bool)) (cookie_Width : api_Layout → Option Int) : Option Bool :=
  (cookie_Pack (api_Layout.mk false 4 3) 5 9).bind fun p =>
  (cookie_Pack (api_Layout.mk false 4 0) 16 0).bind fun p1 =>
  (cookie_Unpack (api_Layout.mk false 4 3) 21).bind fun u =>
  cond (p.2)
    (
    cond (p.1 == 21)
      (
      cond (!p1.2)
        (
        cond (u.2.2)
          (
          cond (u.1 == 5)
            (
            cond (u.2.1 == 1)
              (
              (cookie_Width (api_Layout.mk true 0 0)).bind fun w =>
              some (w == 64))
              (
              some (false)))
            (
            some (false)))
          (
          some (false)))
        (
        some (false)))
      (
      some (false)))
    (
    some (false))
def post44 (x : Bool) (v : Value) (H : Hp) : Prop := v = .bool x
def r44 (g : Option Bool) : List SArg → Option SRes
  | [] => match g  with | some x => some ⟨.bool x, [], []⟩ | none => none
  | _ => none
def s44 (g : Option Bool) : Summ := ⟨[], r44 g⟩
theorem r44_eq {g : Option Bool} {x : Bool} (hx : g  = some x) : (s44 g).run [] = some ⟨.bool x, [], []⟩ := by
  show r44 g [] = _
  simp only [r44, hx]
abbrev sums44 (cookie_Pack : api_Layout → Int → Int → Option (Int × Bool)) (cookie_Unpack : api_Layout → Int → Option (Int × Int × Bool)) (cookie_Width : api_Layout → Option Int) : List (Nat × Summ) := [(30, s30 cookie_Pack), (32, s32 cookie_Unpack), (40, s40 cookie_Width)]
theorem leads44 (cookie_Pack : api_Layout → Int → Int → Option (Int × Bool)) (cookie_Unpack : api_Layout → Int → Option (Int × Int × Bool)) (cookie_Width : api_Layout → Option Int) (hS : SumsOK Try.prog (aget (sums44 cookie_Pack cookie_Unpack cookie_Width))) (res : Bool) (h : law14_awakeF cookie_Pack cookie_Unpack cookie_Width = some res) :
    Leads Try.prog 44 0 ⟨⟨44, 49, [], [.code k44_9], [], false, none⟩, [], [], 0⟩ (fun v H _ => post44 res v H) := by
  unfold law14_awakeF at h
  refine ev_ok tab_ok hS true 3000 ?_
  conv => whnf
  obtain ⟨p, hy, h2⟩ := obind.elim h; clear h; have h := h2; clear h2
  refine sumK.introF [] (sumRun_of (aqs := [.v (.agg ⟨[.bool false, .int .i64 4, .int .i64 3]⟩), .v (.int .i64 5), .v (.int .u64 9)]) (ra_cons rfl (ra_cons rfl (ra_cons rfl ra_nil))) (r30_eq hy) rfl rfl rfl rfl) ?_
  conv => whnf
  obtain ⟨p1, hy, h2⟩ := obind.elim h; clear h; have h := h2; clear h2
  refine sumK.introF [] (sumRun_of (aqs := [.v (.agg ⟨[.bool false, .int .i64 4, .int .i64 0]⟩), .v (.int .i64 16), .v (.int .u64 0)]) (ra_cons rfl (ra_cons rfl (ra_cons rfl ra_nil))) (r30_eq hy) rfl rfl rfl rfl) ?_
  conv => whnf
  obtain ⟨u, hy, h2⟩ := obind.elim h; clear h; have h := h2; clear h2
  refine sumK.introF [] (sumRun_of (aqs := [.v (.agg ⟨[.bool false, .int .i64 4, .int .i64 3]⟩), .v (.int .u64 21)]) (ra_cons rfl (ra_cons rfl ra_nil)) (r32_eq hy) rfl rfl rfl rfl) ?_
  conv => whnf
  refine br.h2 h ?_ ?_ ?_
  · rfl
  · clear h; intro hb h; conv => whnf
    all_goals (cases h)
    all_goals exact rfl
  clear h; intro hb h; conv => whnf
  refine br.h2 h ?_ ?_ ?_
  · rfl
  · clear h; intro hb h; conv => whnf
    all_goals (cases h)
    all_goals exact rfl
  clear h; intro hb h; conv => whnf
  refine br.h2 h ?_ ?_ ?_
  · rfl
  · clear h; intro hb h; conv => whnf
    all_goals (cases h)
    all_goals exact rfl
  clear h; intro hb h; conv => whnf
  refine br.h2 h ?_ ?_ ?_
  · rfl
  · clear h; intro hb h; conv => whnf
    all_goals (cases h)
    all_goals exact rfl
  clear h; intro hb h; conv => whnf
  refine br.h2 h ?_ ?_ ?_
  · rfl
  · clear h; intro hb h; conv => whnf
    all_goals (cases h)
    all_goals exact rfl
  clear h; intro hb h; conv => whnf
  refine br.h2 h ?_ ?_ ?_
  · rfl
  · clear h; intro hb h; conv => whnf
    all_goals (cases h)
    all_goals exact rfl
  clear h; intro hb h; conv => whnf
  obtain ⟨w, hy, h2⟩ := obind.elim h; clear h; have h := h2; clear h2
  refine sumK.introF [] (sumRun_of (aqs := [.v (.agg ⟨[.bool true, .int .i64 0, .int .i64 0]⟩)]) (ra_cons rfl ra_nil) (r40_eq hy) rfl rfl rfl rfl) ?_
  conv => whnf
  all_goals (cases h)
  all_goals exact rfl
theorem ok44 (cookie_Pack : api_Layout → Int → Int → Option (Int × Bool)) (cookie_Unpack : api_Layout → Int → Option (Int × Int × Bool)) (cookie_Width : api_Layout → Option Int) (hS : SumsOK Try.prog (aget (sums44 cookie_Pack cookie_Unpack cookie_Width))) : SumOK Try.prog 44 (s44 (law14_awakeF cookie_Pack cookie_Unpack cookie_Width)) := by
  refine SumOK.of_leads tab_ok (fun ar r ha hr => ?_) ⟨Try.f44, rfl, by decide, rfl⟩
  simp only [s44] at ha hr
  unfold r44 at hr
  split at hr <;> try (cases hr; done)
  split at hr <;> cases hr
  rename_i x h
  refine ⟨_, rfl, (leads44 cookie_Pack cookie_Unpack cookie_Width hS x h).mono fun v H t hp => ?_⟩
  cases hp
  exact Res.val rfl trivial
def law14_awake : Option Bool := law14_awakeF cookie_Pack cookie_Unpack cookie_Width
theorem lift44 : SumOK Try.prog 44 (s44 law14_awake) := ok44 cookie_Pack cookie_Unpack cookie_Width (SumsOK.of_tab ⟨lift30, lift32, lift40, trivial⟩)
end Go.Vm.Code

namespace Go.Vm.Code
open Go Go.Vm Go.Proofs
set_option maxRecDepth 100000
set_option maxHeartbeats 4000000
set_option linter.unusedVariables false

/-! cloakroom/cloakroomlaw14.CookieTells -/
def law14_CookieTellsF (R14_Make : api_Layout → api_Key → api_Tuple → Int → Int → Option (Int × Bool)) (R14_Mask : api_Layout → api_Key → api_Tuple → Int → Option Int) (R14_Open : api_Layout → api_Key → api_Tuple → Int → Option (Int × Int × Bool)) (R14_Pack : api_Layout → Int → Int → Option (Int × Bool)) (R14_Right : api_Layout → Option Bool) (R14_Unpack : api_Layout → Int → Option (Int × Int × Bool)) (R14_Width : api_Layout → Option Int) (cookie_Make : api_Layout → api_Key → api_Tuple → Int → Int → Option (Int × Bool)) (cookie_Mask : api_Layout → api_Key → api_Tuple → Int → Option Int) (cookie_Open : api_Layout → api_Key → api_Tuple → Int → Option (Int × Int × Bool)) (cookie_Pack : api_Layout → Int → Int → Option (Int × Bool)) (cookie_Right : api_Layout → Option Bool) (cookie_Unpack : api_Layout → Int → Option (Int × Int × Bool)) (cookie_Width : api_Layout → Option Int) (law14_awake : Option Bool) (l : api_Layout) (k : api_Key) (t : api_Tuple) (slot : Int) (gen : Int) (n : Int) : Option Bool :=
  (cookie_Pack l slot gen).bind fun p =>
  (R14_Pack l slot gen).bind fun p1 =>
  (cookie_Unpack l n).bind fun u =>
  (R14_Unpack l n).bind fun u1 =>
  (cookie_Make l k t slot gen).bind fun m =>
  (R14_Make l k t slot gen).bind fun m1 =>
  (cookie_Open l k t n).bind fun xo =>
  (R14_Open l k t n).bind fun xo1 =>
  (cookie_Right l).bind fun xr =>
  (R14_Right l).bind fun xr1 =>
  cond (xr == xr1)
    (
    (cookie_Width l).bind fun w =>
    (R14_Width l).bind fun w1 =>
    cond (w == w1)
      (
      cond (p.1 == p1.1)
        (
        cond (p.2 == p1.2)
          (
          cond (u.1 == u1.1)
            (
            cond (u.2.1 == u1.2.1)
              (
              cond (u.2.2 == u1.2.2)
                (
                cond (m.1 == m1.1)
                  (
                  cond (m.2 == m1.2)
                    (
                    cond (xo.1 == xo1.1)
                      (
                      cond (xo.2.1 == xo1.2.1)
                        (
                        cond (xo.2.2 == xo1.2.2)
                          (
                          (cookie_Mask l k t n).bind fun m2 =>
                          (R14_Mask l k t n).bind fun m3 =>
                          cond (m2 == m3)
                            (
                            (law14_awake).bind fun a =>
                            some (a))
                            (
                            some (false)))
                          (
                          some (false)))
                        (
                        some (false)))
                      (
                      some (false)))
                    (
                    some (false)))
                  (
                  some (false)))
                (
                some (false)))
              (
              some (false)))
            (
            some (false)))
          (
          some (false)))
        (
        some (false)))
      (
      some (false)))
    (
    some (false))
def post7 (x : Bool) (v : Value) (H : Hp) : Prop := v = .bool x
def r7 (g : api_Layout → api_Key → api_Tuple → Int → Int → Int → Option Bool) : List SArg → Option SRes
  | [.v (.agg ⟨[.bool a0_1, .int .i64 a0_2, .int .i64 a0_3]⟩), .v (.agg ⟨[.int .u64 a1_1, .int .u64 a1_2]⟩), .v (.agg ⟨[.int .i64 a2_1, .bool a2_2, .int .u64 a2_3, .int .u64 a2_4, .bool a2_5, .int .u64 a2_6, .int .u64 a2_7, .int .i64 a2_8, .int .i64 a2_9]⟩), .v (.int .i64 a3_1), .v (.int .u64 a4_1), .v (.int .u64 a5_1)] => match g (api_Layout.mk a0_1 a0_2 a0_3) (api_Key.mk a1_1 a1_2) (api_Tuple.mk a2_1 (api_Addr.mk a2_2 a2_3 a2_4) (api_Addr.mk a2_5 a2_6 a2_7) a2_8 a2_9) a3_1 a4_1 a5_1 with | some x => some ⟨.bool x, [], []⟩ | none => none
  | _ => none
def s7 (g : api_Layout → api_Key → api_Tuple → Int → Int → Int → Option Bool) : Summ := ⟨[.v, .v, .v, .v, .v, .v], r7 g⟩
theorem r7_eq {g : api_Layout → api_Key → api_Tuple → Int → Int → Int → Option Bool} {a0_1 : Bool} {a0_2 : Int} {a0_3 : Int} {a1_1 : Int} {a1_2 : Int} {a2_1 : Int} {a2_2 : Bool} {a2_3 : Int} {a2_4 : Int} {a2_5 : Bool} {a2_6 : Int} {a2_7 : Int} {a2_8 : Int} {a2_9 : Int} {a3_1 : Int} {a4_1 : Int} {a5_1 : Int} {x : Bool} (hx : g (api_Layout.mk a0_1 a0_2 a0_3) (api_Key.mk a1_1 a1_2) (api_Tuple.mk a2_1 (api_Addr.mk a2_2 a2_3 a2_4) (api_Addr.mk a2_5 a2_6 a2_7) a2_8 a2_9) a3_1 a4_1 a5_1 = some x) : (s7 g).run [.v (.agg ⟨[.bool a0_1, .int .i64 a0_2, .int .i64 a0_3]⟩), .v (.agg ⟨[.int .u64 a1_1, .int .u64 a1_2]⟩), .v (.agg ⟨[.int .i64 a2_1, .bool a2_2, .int .u64 a2_3, .int .u64 a2_4, .bool a2_5, .int .u64 a2_6, .int .u64 a2_7, .int .i64 a2_8, .int .i64 a2_9]⟩), .v (.int .i64 a3_1), .v (.int .u64 a4_1), .v (.int .u64 a5_1)] = some ⟨.bool x, [], []⟩ := by
  show r7 g [.v (.agg ⟨[.bool a0_1, .int .i64 a0_2, .int .i64 a0_3]⟩), .v (.agg ⟨[.int .u64 a1_1, .int .u64 a1_2]⟩), .v (.agg ⟨[.int .i64 a2_1, .bool a2_2, .int .u64 a2_3, .int .u64 a2_4, .bool a2_5, .int .u64 a2_6, .int .u64 a2_7, .int .i64 a2_8, .int .i64 a2_9]⟩), .v (.int .i64 a3_1), .v (.int .u64 a4_1), .v (.int .u64 a5_1)] = _
  simp only [r7, hx]
abbrev sums7 (R14_Make : api_Layout → api_Key → api_Tuple → Int → Int → Option (Int × Bool)) (R14_Mask : api_Layout → api_Key → api_Tuple → Int → Option Int) (R14_Open : api_Layout → api_Key → api_Tuple → Int → Option (Int × Int × Bool)) (R14_Pack : api_Layout → Int → Int → Option (Int × Bool)) (R14_Right : api_Layout → Option Bool) (R14_Unpack : api_Layout → Int → Option (Int × Int × Bool)) (R14_Width : api_Layout → Option Int) (cookie_Make : api_Layout → api_Key → api_Tuple → Int → Int → Option (Int × Bool)) (cookie_Mask : api_Layout → api_Key → api_Tuple → Int → Option Int) (cookie_Open : api_Layout → api_Key → api_Tuple → Int → Option (Int × Int × Bool)) (cookie_Pack : api_Layout → Int → Int → Option (Int × Bool)) (cookie_Right : api_Layout → Option Bool) (cookie_Unpack : api_Layout → Int → Option (Int × Int × Bool)) (cookie_Width : api_Layout → Option Int) (law14_awake : Option Bool) : List (Nat × Summ) := [(35, s35 R14_Make), (43, s43 R14_Mask), (37, s37 R14_Open), (31, s31 R14_Pack), (39, s39 R14_Right), (33, s33 R14_Unpack), (41, s41 R14_Width), (34, s34 cookie_Make), (42, s42 cookie_Mask), (36, s36 cookie_Open), (30, s30 cookie_Pack), (38, s38 cookie_Right), (32, s32 cookie_Unpack), (40, s40 cookie_Width), (44, s44 law14_awake)]
theorem leads7 (R14_Make : api_Layout → api_Key → api_Tuple → Int → Int → Option (Int × Bool)) (R14_Mask : api_Layout → api_Key → api_Tuple → Int → Option Int) (R14_Open : api_Layout → api_Key → api_Tuple → Int → Option (Int × Int × Bool)) (R14_Pack : api_Layout → Int → Int → Option (Int × Bool)) (R14_Right : api_Layout → Option Bool) (R14_Unpack : api_Layout → Int → Option (Int × Int × Bool)) (R14_Width : api_Layout → Option Int) (cookie_Make : api_Layout → api_Key → api_Tuple → Int → Int → Option (Int × Bool)) (cookie_Mask : api_Layout → api_Key → api_Tuple → Int → Option Int) (cookie_Open : api_Layout → api_Key → api_Tuple → Int → Option (Int × Int × Bool)) (cookie_Pack : api_Layout → Int → Int → Option (Int × Bool)) (cookie_Right : api_Layout → Option Bool) (cookie_Unpack : api_Layout → Int → Option (Int × Int × Bool)) (cookie_Width : api_Layout → Option Int) (law14_awake : Option Bool) (hS : SumsOK Try.prog (aget (sums7 R14_Make R14_Mask R14_Open R14_Pack R14_Right R14_Unpack R14_Width cookie_Make cookie_Mask cookie_Open cookie_Pack cookie_Right cookie_Unpack cookie_Width law14_awake))) (l : api_Layout) (k : api_Key) (t : api_Tuple) (slot : Int) (gen : Int) (n : Int) (res : Bool) (h : law14_CookieTellsF R14_Make R14_Mask R14_Open R14_Pack R14_Right R14_Unpack R14_Width cookie_Make cookie_Mask cookie_Open cookie_Pack cookie_Right cookie_Unpack cookie_Width law14_awake l k t slot gen n = some res) :
    Leads Try.prog 7 0 ⟨⟨7, 175, [(0, .agg ⟨[.bool l.Wide, .int .i64 l.Slot, .int .i64 l.Gen]⟩), (1, .agg ⟨[.int .u64 k.A, .int .u64 k.B]⟩), (2, .agg ⟨[.int .i64 t.Proto, .bool t.Src.V6, .int .u64 t.Src.Hi, .int .u64 t.Src.Lo, .bool t.Dst.V6, .int .u64 t.Dst.Hi, .int .u64 t.Dst.Lo, .int .i64 t.SPort, .int .i64 t.DPort]⟩), (3, .int .i64 slot), (4, .int .u64 gen), (5, .int .u64 n)], [.code k7_19], [], false, none⟩, [], [], 0⟩ (fun v H _ => post7 res v H) := by
  unfold law14_CookieTellsF at h
  refine ev_ok tab_ok hS true 3000 ?_
  conv => whnf
  obtain ⟨p, hy, h2⟩ := obind.elim h; clear h; have h := h2; clear h2
  refine sumK.introF [] (sumRun_of (aqs := [.v (.agg ⟨[.bool l.Wide, .int .i64 l.Slot, .int .i64 l.Gen]⟩), .v (.int .i64 slot), .v (.int .u64 gen)]) (ra_cons rfl (ra_cons rfl (ra_cons rfl ra_nil))) (r30_eq hy) rfl rfl rfl rfl) ?_
  conv => whnf
  obtain ⟨p1, hy, h2⟩ := obind.elim h; clear h; have h := h2; clear h2
  refine sumK.introF [] (sumRun_of (aqs := [.v (.agg ⟨[.bool l.Wide, .int .i64 l.Slot, .int .i64 l.Gen]⟩), .v (.int .i64 slot), .v (.int .u64 gen)]) (ra_cons rfl (ra_cons rfl (ra_cons rfl ra_nil))) (r31_eq hy) rfl rfl rfl rfl) ?_
  conv => whnf
  obtain ⟨u, hy, h2⟩ := obind.elim h; clear h; have h := h2; clear h2
  refine sumK.introF [] (sumRun_of (aqs := [.v (.agg ⟨[.bool l.Wide, .int .i64 l.Slot, .int .i64 l.Gen]⟩), .v (.int .u64 n)]) (ra_cons rfl (ra_cons rfl ra_nil)) (r32_eq hy) rfl rfl rfl rfl) ?_
  conv => whnf
  obtain ⟨u1, hy, h2⟩ := obind.elim h; clear h; have h := h2; clear h2
  refine sumK.introF [] (sumRun_of (aqs := [.v (.agg ⟨[.bool l.Wide, .int .i64 l.Slot, .int .i64 l.Gen]⟩), .v (.int .u64 n)]) (ra_cons rfl (ra_cons rfl ra_nil)) (r33_eq hy) rfl rfl rfl rfl) ?_
  conv => whnf
  obtain ⟨m, hy, h2⟩ := obind.elim h; clear h; have h := h2; clear h2
  refine sumK.introF [] (sumRun_of (aqs := [.v (.agg ⟨[.bool l.Wide, .int .i64 l.Slot, .int .i64 l.Gen]⟩), .v (.agg ⟨[.int .u64 k.A, .int .u64 k.B]⟩), .v (.agg ⟨[.int .i64 t.Proto, .bool t.Src.V6, .int .u64 t.Src.Hi, .int .u64 t.Src.Lo, .bool t.Dst.V6, .int .u64 t.Dst.Hi, .int .u64 t.Dst.Lo, .int .i64 t.SPort, .int .i64 t.DPort]⟩), .v (.int .i64 slot), .v (.int .u64 gen)]) (ra_cons rfl (ra_cons rfl (ra_cons rfl (ra_cons rfl (ra_cons rfl ra_nil))))) (r34_eq hy) rfl rfl rfl rfl) ?_
  conv => whnf
  obtain ⟨m1, hy, h2⟩ := obind.elim h; clear h; have h := h2; clear h2
  refine sumK.introF [] (sumRun_of (aqs := [.v (.agg ⟨[.bool l.Wide, .int .i64 l.Slot, .int .i64 l.Gen]⟩), .v (.agg ⟨[.int .u64 k.A, .int .u64 k.B]⟩), .v (.agg ⟨[.int .i64 t.Proto, .bool t.Src.V6, .int .u64 t.Src.Hi, .int .u64 t.Src.Lo, .bool t.Dst.V6, .int .u64 t.Dst.Hi, .int .u64 t.Dst.Lo, .int .i64 t.SPort, .int .i64 t.DPort]⟩), .v (.int .i64 slot), .v (.int .u64 gen)]) (ra_cons rfl (ra_cons rfl (ra_cons rfl (ra_cons rfl (ra_cons rfl ra_nil))))) (r35_eq hy) rfl rfl rfl rfl) ?_
  conv => whnf
  obtain ⟨xo, hy, h2⟩ := obind.elim h; clear h; have h := h2; clear h2
  refine sumK.introF [] (sumRun_of (aqs := [.v (.agg ⟨[.bool l.Wide, .int .i64 l.Slot, .int .i64 l.Gen]⟩), .v (.agg ⟨[.int .u64 k.A, .int .u64 k.B]⟩), .v (.agg ⟨[.int .i64 t.Proto, .bool t.Src.V6, .int .u64 t.Src.Hi, .int .u64 t.Src.Lo, .bool t.Dst.V6, .int .u64 t.Dst.Hi, .int .u64 t.Dst.Lo, .int .i64 t.SPort, .int .i64 t.DPort]⟩), .v (.int .u64 n)]) (ra_cons rfl (ra_cons rfl (ra_cons rfl (ra_cons rfl ra_nil)))) (r36_eq hy) rfl rfl rfl rfl) ?_
  conv => whnf
  obtain ⟨xo1, hy, h2⟩ := obind.elim h; clear h; have h := h2; clear h2
  refine sumK.introF [] (sumRun_of (aqs := [.v (.agg ⟨[.bool l.Wide, .int .i64 l.Slot, .int .i64 l.Gen]⟩), .v (.agg ⟨[.int .u64 k.A, .int .u64 k.B]⟩), .v (.agg ⟨[.int .i64 t.Proto, .bool t.Src.V6, .int .u64 t.Src.Hi, .int .u64 t.Src.Lo, .bool t.Dst.V6, .int .u64 t.Dst.Hi, .int .u64 t.Dst.Lo, .int .i64 t.SPort, .int .i64 t.DPort]⟩), .v (.int .u64 n)]) (ra_cons rfl (ra_cons rfl (ra_cons rfl (ra_cons rfl ra_nil)))) (r37_eq hy) rfl rfl rfl rfl) ?_
  conv => whnf
  obtain ⟨xr, hy, h2⟩ := obind.elim h; clear h; have h := h2; clear h2
  refine sumK.introF [] (sumRun_of (aqs := [.v (.agg ⟨[.bool l.Wide, .int .i64 l.Slot, .int .i64 l.Gen]⟩)]) (ra_cons rfl ra_nil) (r38_eq hy) rfl rfl rfl rfl) ?_
  conv => whnf
  obtain ⟨xr1, hy, h2⟩ := obind.elim h; clear h; have h := h2; clear h2
  refine sumK.introF [] (sumRun_of (aqs := [.v (.agg ⟨[.bool l.Wide, .int .i64 l.Slot, .int .i64 l.Gen]⟩)]) (ra_cons rfl ra_nil) (r39_eq hy) rfl rfl rfl rfl) ?_
  conv => whnf
  refine br.h2 h ?_ ?_ ?_
  · rfl
  · clear h; intro hb h; conv => whnf
    all_goals (cases h)
    all_goals exact rfl
  clear h; intro hb h; conv => whnf
  obtain ⟨w, hy, h2⟩ := obind.elim h; clear h; have h := h2; clear h2
  refine sumK.introF [] (sumRun_of (aqs := [.v (.agg ⟨[.bool l.Wide, .int .i64 l.Slot, .int .i64 l.Gen]⟩)]) (ra_cons rfl ra_nil) (r40_eq hy) rfl rfl rfl rfl) ?_
  conv => whnf
  obtain ⟨w1, hy, h2⟩ := obind.elim h; clear h; have h := h2; clear h2
  refine sumK.introF [] (sumRun_of (aqs := [.v (.agg ⟨[.bool l.Wide, .int .i64 l.Slot, .int .i64 l.Gen]⟩)]) (ra_cons rfl ra_nil) (r41_eq hy) rfl rfl rfl rfl) ?_
  conv => whnf
  refine br.h2 h ?_ ?_ ?_
  · rfl
  · clear h; intro hb h; conv => whnf
    all_goals (cases h)
    all_goals exact rfl
  clear h; intro hb h; conv => whnf
  refine br.h2 h ?_ ?_ ?_
  · rfl
  · clear h; intro hb h; conv => whnf
    all_goals (cases h)
    all_goals exact rfl
  clear h; intro hb h; conv => whnf
  refine br.h2 h ?_ ?_ ?_
  · rfl
  · clear h; intro hb h; conv => whnf
    all_goals (cases h)
    all_goals exact rfl
  clear h; intro hb h; conv => whnf
  refine br.h2 h ?_ ?_ ?_
  · rfl
  · clear h; intro hb h; conv => whnf
    all_goals (cases h)
    all_goals exact rfl
  clear h; intro hb h; conv => whnf
  refine br.h2 h ?_ ?_ ?_
  · rfl
  · clear h; intro hb h; conv => whnf
    all_goals (cases h)
    all_goals exact rfl
  clear h; intro hb h; conv => whnf
  refine br.h2 h ?_ ?_ ?_
  · rfl
  · clear h; intro hb h; conv => whnf
    all_goals (cases h)
    all_goals exact rfl
  clear h; intro hb h; conv => whnf
  refine br.h2 h ?_ ?_ ?_
  · rfl
  · clear h; intro hb h; conv => whnf
    all_goals (cases h)
    all_goals exact rfl
  clear h; intro hb h; conv => whnf
  refine br.h2 h ?_ ?_ ?_
  · rfl
  · clear h; intro hb h; conv => whnf
    all_goals (cases h)
    all_goals exact rfl
  clear h; intro hb h; conv => whnf
  refine br.h2 h ?_ ?_ ?_
  · rfl
  · clear h; intro hb h; conv => whnf
    all_goals (cases h)
    all_goals exact rfl
  clear h; intro hb h; conv => whnf
  refine br.h2 h ?_ ?_ ?_
  · rfl
  · clear h; intro hb h; conv => whnf
    all_goals (cases h)
    all_goals exact rfl
  clear h; intro hb h; conv => whnf
  refine br.h2 h ?_ ?_ ?_
  · rfl
  · clear h; intro hb h; conv => whnf
    all_goals (cases h)
    all_goals exact rfl
  clear h; intro hb h; conv => whnf
  obtain ⟨m2, hy, h2⟩ := obind.elim h; clear h; have h := h2; clear h2
  refine sumK.introF [] (sumRun_of (aqs := [.v (.agg ⟨[.bool l.Wide, .int .i64 l.Slot, .int .i64 l.Gen]⟩), .v (.agg ⟨[.int .u64 k.A, .int .u64 k.B]⟩), .v (.agg ⟨[.int .i64 t.Proto, .bool t.Src.V6, .int .u64 t.Src.Hi, .int .u64 t.Src.Lo, .bool t.Dst.V6, .int .u64 t.Dst.Hi, .int .u64 t.Dst.Lo, .int .i64 t.SPort, .int .i64 t.DPort]⟩), .v (.int .u64 n)]) (ra_cons rfl (ra_cons rfl (ra_cons rfl (ra_cons rfl ra_nil)))) (r42_eq hy) rfl rfl rfl rfl) ?_
  conv => whnf
  obtain ⟨m3, hy, h2⟩ := obind.elim h; clear h; have h := h2; clear h2
  refine sumK.introF [] (sumRun_of (aqs := [.v (.agg ⟨[.bool l.Wide, .int .i64 l.Slot, .int .i64 l.Gen]⟩), .v (.agg ⟨[.int .u64 k.A, .int .u64 k.B]⟩), .v (.agg ⟨[.int .i64 t.Proto, .bool t.Src.V6, .int .u64 t.Src.Hi, .int .u64 t.Src.Lo, .bool t.Dst.V6, .int .u64 t.Dst.Hi, .int .u64 t.Dst.Lo, .int .i64 t.SPort, .int .i64 t.DPort]⟩), .v (.int .u64 n)]) (ra_cons rfl (ra_cons rfl (ra_cons rfl (ra_cons rfl ra_nil)))) (r43_eq hy) rfl rfl rfl rfl) ?_
  conv => whnf
  refine br.h2 h ?_ ?_ ?_
  · rfl
  · clear h; intro hb h; conv => whnf
    all_goals (cases h)
    all_goals exact rfl
  clear h; intro hb h; conv => whnf
  obtain ⟨a, hy, h2⟩ := obind.elim h; clear h; have h := h2; clear h2
  refine sumK.introF [] (sumRun_of (aqs := []) ra_nil (r44_eq hy) rfl rfl rfl rfl) ?_
  conv => whnf
  all_goals (cases h)
  all_goals exact rfl
theorem ok7 (R14_Make : api_Layout → api_Key → api_Tuple → Int → Int → Option (Int × Bool)) (R14_Mask : api_Layout → api_Key → api_Tuple → Int → Option Int) (R14_Open : api_Layout → api_Key → api_Tuple → Int → Option (Int × Int × Bool)) (R14_Pack : api_Layout → Int → Int → Option (Int × Bool)) (R14_Right : api_Layout → Option Bool) (R14_Unpack : api_Layout → Int → Option (Int × Int × Bool)) (R14_Width : api_Layout → Option Int) (cookie_Make : api_Layout → api_Key → api_Tuple → Int → Int → Option (Int × Bool)) (cookie_Mask : api_Layout → api_Key → api_Tuple → Int → Option Int) (cookie_Open : api_Layout → api_Key → api_Tuple → Int → Option (Int × Int × Bool)) (cookie_Pack : api_Layout → Int → Int → Option (Int × Bool)) (cookie_Right : api_Layout → Option Bool) (cookie_Unpack : api_Layout → Int → Option (Int × Int × Bool)) (cookie_Width : api_Layout → Option Int) (law14_awake : Option Bool) (hS : SumsOK Try.prog (aget (sums7 R14_Make R14_Mask R14_Open R14_Pack R14_Right R14_Unpack R14_Width cookie_Make cookie_Mask cookie_Open cookie_Pack cookie_Right cookie_Unpack cookie_Width law14_awake))) : SumOK Try.prog 7 (s7 (law14_CookieTellsF R14_Make R14_Mask R14_Open R14_Pack R14_Right R14_Unpack R14_Width cookie_Make cookie_Mask cookie_Open cookie_Pack cookie_Right cookie_Unpack cookie_Width law14_awake)) := by
  refine SumOK.of_leads tab_ok (fun ar r ha hr => ?_) ⟨Try.f7, rfl, by decide, rfl⟩
  simp only [s7] at ha hr
  unfold r7 at hr
  split at hr <;> try (cases hr; done)
  split at hr <;> cases hr
  rename_i x h
  refine ⟨_, rfl, (leads7 R14_Make R14_Mask R14_Open R14_Pack R14_Right R14_Unpack R14_Width cookie_Make cookie_Mask cookie_Open cookie_Pack cookie_Right cookie_Unpack cookie_Width law14_awake hS _ _ _ _ _ _ x h).mono fun v H t hp => ?_⟩
  cases hp
  exact Res.val rfl trivial
def law14_CookieTells : api_Layout → api_Key → api_Tuple → Int → Int → Int → Option Bool := law14_CookieTellsF R14_Make R14_Mask R14_Open R14_Pack R14_Right R14_Unpack R14_Width cookie_Make cookie_Mask cookie_Open cookie_Pack cookie_Right cookie_Unpack cookie_Width law14_awake
theorem lift7 : SumOK Try.prog 7 (s7 law14_CookieTells) := ok7 R14_Make R14_Mask R14_Open R14_Pack R14_Right R14_Unpack R14_Width cookie_Make cookie_Mask cookie_Open cookie_Pack cookie_Right cookie_Unpack cookie_Width law14_awake (SumsOK.of_tab ⟨lift35, lift43, lift37, lift31, lift39, lift33, lift41, lift34, lift42, lift36, lift30, lift38, lift32, lift40, lift44, trivial⟩)
end Go.Vm.Code

namespace Go.Vm.Code
open Go Go.Vm Go.Proofs
set_option maxRecDepth 100000
set_option maxHeartbeats 4000000
set_option linter.unusedVariables false

/-! cloakroom/cloakroomlaw14.CookieOnly -/
def law14_CookieOnlyF (cookie_Make : api_Layout → api_Key → api_Tuple → Int → Int → Option (Int × Bool)) (cookie_Open : api_Layout → api_Key → api_Tuple → Int → Option (Int × Int × Bool)) (law14_awake : Option Bool) (l : api_Layout) (k : api_Key) (t : api_Tuple) (n : Int) (m : Int) : Option Bool :=
  (cookie_Open l k t n).bind fun xo =>
  (cookie_Open l k t m).bind fun xo1 =>
  cond (!xo.2.2)
    (
    cond (xo.1 == 0)
      (
      cond (xo.2.1 == 0)
        (
        (law14_awake).bind fun a =>
        some (a))
        (
        some (false)))
      (
      some (false)))
    (
    (cookie_Make l k t xo.1 xo.2.1).bind fun m1 =>
    cond (m1.2)
      (
      cond (m1.1 == n)
        (
        cond (!xo1.2.2)
          (
          (law14_awake).bind fun a1 =>
          some (a1))
          (
          cond (xo.1 == xo1.1)
            (
            cond ((xo.2.1 == xo1.2.1) == (n == m))
              (
              (law14_awake).bind fun a2 =>
              some (a2))
              (
              some (false)))
            (
            cond (false == (n == m))
              (
              (law14_awake).bind fun a3 =>
              some (a3))
              (
              some (false)))))
        (
        some (false)))
      (
      some (false)))
def post9 (x : Bool) (v : Value) (H : Hp) : Prop := v = .bool x
def r9 (g : api_Layout → api_Key → api_Tuple → Int → Int → Option Bool) : List SArg → Option SRes
  | [.v (.agg ⟨[.bool a0_1, .int .i64 a0_2, .int .i64 a0_3]⟩), .v (.agg ⟨[.int .u64 a1_1, .int .u64 a1_2]⟩), .v (.agg ⟨[.int .i64 a2_1, .bool a2_2, .int .u64 a2_3, .int .u64 a2_4, .bool a2_5, .int .u64 a2_6, .int .u64 a2_7, .int .i64 a2_8, .int .i64 a2_9]⟩), .v (.int .u64 a3_1), .v (.int .u64 a4_1)] => match g (api_Layout.mk a0_1 a0_2 a0_3) (api_Key.mk a1_1 a1_2) (api_Tuple.mk a2_1 (api_Addr.mk a2_2 a2_3 a2_4) (api_Addr.mk a2_5 a2_6 a2_7) a2_8 a2_9) a3_1 a4_1 with | some x => some ⟨.bool x, [], []⟩ | none => none
  | _ => none
def s9 (g : api_Layout → api_Key → api_Tuple → Int → Int → Option Bool) : Summ := ⟨[.v, .v, .v, .v, .v], r9 g⟩
theorem r9_eq {g : api_Layout → api_Key → api_Tuple → Int → Int → Option Bool} {a0_1 : Bool} {a0_2 : Int} {a0_3 : Int} {a1_1 : Int} {a1_2 : Int} {a2_1 : Int} {a2_2 : Bool} {a2_3 : Int} {a2_4 : Int} {a2_5 : Bool} {a2_6 : Int} {a2_7 : Int} {a2_8 : Int} {a2_9 : Int} {a3_1 : Int} {a4_1 : Int} {x : Bool} (hx : g (api_Layout.mk a0_1 a0_2 a0_3) (api_Key.mk a1_1 a1_2) (api_Tuple.mk a2_1 (api_Addr.mk a2_2 a2_3 a2_4) (api_Addr.mk a2_5 a2_6 a2_7) a2_8 a2_9) a3_1 a4_1 = some x) : (s9 g).run [.v (.agg ⟨[.bool a0_1, .int .i64 a0_2, .int .i64 a0_3]⟩), .v (.agg ⟨[.int .u64 a1_1, .int .u64 a1_2]⟩), .v (.agg ⟨[.int .i64 a2_1, .bool a2_2, .int .u64 a2_3, .int .u64 a2_4, .bool a2_5, .int .u64 a2_6, .int .u64 a2_7, .int .i64 a2_8, .int .i64 a2_9]⟩), .v (.int .u64 a3_1), .v (.int .u64 a4_1)] = some ⟨.bool x, [], []⟩ := by
  show r9 g [.v (.agg ⟨[.bool a0_1, .int .i64 a0_2, .int .i64 a0_3]⟩), .v (.agg ⟨[.int .u64 a1_1, .int .u64 a1_2]⟩), .v (.agg ⟨[.int .i64 a2_1, .bool a2_2, .int .u64 a2_3, .int .u64 a2_4, .bool a2_5, .int .u64 a2_6, .int .u64 a2_7, .int .i64 a2_8, .int .i64 a2_9]⟩), .v (.int .u64 a3_1), .v (.int .u64 a4_1)] = _
  simp only [r9, hx]
abbrev sums9 (cookie_Make : api_Layout → api_Key → api_Tuple → Int → Int → Option (Int × Bool)) (cookie_Open : api_Layout → api_Key → api_Tuple → Int → Option (Int × Int × Bool)) (law14_awake : Option Bool) : List (Nat × Summ) := [(34, s34 cookie_Make), (36, s36 cookie_Open), (44, s44 law14_awake)]
theorem leads9 (cookie_Make : api_Layout → api_Key → api_Tuple → Int → Int → Option (Int × Bool)) (cookie_Open : api_Layout → api_Key → api_Tuple → Int → Option (Int × Int × Bool)) (law14_awake : Option Bool) (hS : SumsOK Try.prog (aget (sums9 cookie_Make cookie_Open law14_awake))) (l : api_Layout) (k : api_Key) (t : api_Tuple) (n : Int) (m : Int) (res : Bool) (h : law14_CookieOnlyF cookie_Make cookie_Open law14_awake l k t n m = some res) :
    Leads Try.prog 9 0 ⟨⟨9, 84, [(0, .agg ⟨[.bool l.Wide, .int .i64 l.Slot, .int .i64 l.Gen]⟩), (1, .agg ⟨[.int .u64 k.A, .int .u64 k.B]⟩), (2, .agg ⟨[.int .i64 t.Proto, .bool t.Src.V6, .int .u64 t.Src.Hi, .int .u64 t.Src.Lo, .bool t.Dst.V6, .int .u64 t.Dst.Hi, .int .u64 t.Dst.Lo, .int .i64 t.SPort, .int .i64 t.DPort]⟩), (3, .int .u64 n), (4, .int .u64 m)], [.code k9_15], [], false, none⟩, [], [], 0⟩ (fun v H _ => post9 res v H) := by
  unfold law14_CookieOnlyF at h
  refine ev_ok tab_ok hS true 3000 ?_
  conv => whnf
  obtain ⟨xo, hy, h2⟩ := obind.elim h; clear h; have h := h2; clear h2
  refine sumK.introF [] (sumRun_of (aqs := [.v (.agg ⟨[.bool l.Wide, .int .i64 l.Slot, .int .i64 l.Gen]⟩), .v (.agg ⟨[.int .u64 k.A, .int .u64 k.B]⟩), .v (.agg ⟨[.int .i64 t.Proto, .bool t.Src.V6, .int .u64 t.Src.Hi, .int .u64 t.Src.Lo, .bool t.Dst.V6, .int .u64 t.Dst.Hi, .int .u64 t.Dst.Lo, .int .i64 t.SPort, .int .i64 t.DPort]⟩), .v (.int .u64 n)]) (ra_cons rfl (ra_cons rfl (ra_cons rfl (ra_cons rfl ra_nil)))) (r36_eq hy) rfl rfl rfl rfl) ?_
  conv => whnf
  obtain ⟨xo1, hy, h2⟩ := obind.elim h; clear h; have h := h2; clear h2
  refine sumK.introF [] (sumRun_of (aqs := [.v (.agg ⟨[.bool l.Wide, .int .i64 l.Slot, .int .i64 l.Gen]⟩), .v (.agg ⟨[.int .u64 k.A, .int .u64 k.B]⟩), .v (.agg ⟨[.int .i64 t.Proto, .bool t.Src.V6, .int .u64 t.Src.Hi, .int .u64 t.Src.Lo, .bool t.Dst.V6, .int .u64 t.Dst.Hi, .int .u64 t.Dst.Lo, .int .i64 t.SPort, .int .i64 t.DPort]⟩), .v (.int .u64 m)]) (ra_cons rfl (ra_cons rfl (ra_cons rfl (ra_cons rfl ra_nil)))) (r36_eq hy) rfl rfl rfl rfl) ?_
  conv => whnf
  refine br.h h ?_ ?_ ?_
  · rfl
  · clear h; intro hb h; conv => whnf
    refine br.h2 h ?_ ?_ ?_
    · rfl
    · clear h; intro hb h; conv => whnf
      all_goals (cases h)
      all_goals exact rfl
    clear h; intro hb h; conv => whnf
    refine br.h2 h ?_ ?_ ?_
    · rfl
    · clear h; intro hb h; conv => whnf
      all_goals (cases h)
      all_goals exact rfl
    clear h; intro hb h; conv => whnf
    obtain ⟨a, hy, h2⟩ := obind.elim h; clear h; have h := h2; clear h2
    refine sumK.introF [] (sumRun_of (aqs := []) ra_nil (r44_eq hy) rfl rfl rfl rfl) ?_
    conv => whnf
    all_goals (cases h)
    all_goals exact rfl
  clear h; intro hb h; conv => whnf
  obtain ⟨m1, hy, h2⟩ := obind.elim h; clear h; have h := h2; clear h2
  refine sumK.introF [] (sumRun_of (aqs := [.v (.agg ⟨[.bool l.Wide, .int .i64 l.Slot, .int .i64 l.Gen]⟩), .v (.agg ⟨[.int .u64 k.A, .int .u64 k.B]⟩), .v (.agg ⟨[.int .i64 t.Proto, .bool t.Src.V6, .int .u64 t.Src.Hi, .int .u64 t.Src.Lo, .bool t.Dst.V6, .int .u64 t.Dst.Hi, .int .u64 t.Dst.Lo, .int .i64 t.SPort, .int .i64 t.DPort]⟩), .v (.int .i64 xo.1), .v (.int .u64 xo.2.1)]) (ra_cons rfl (ra_cons rfl (ra_cons rfl (ra_cons rfl (ra_cons rfl ra_nil))))) (r34_eq hy) rfl rfl rfl rfl) ?_
  conv => whnf
  refine br.h2 h ?_ ?_ ?_
  · rfl
  · clear h; intro hb h; conv => whnf
    all_goals (cases h)
    all_goals exact rfl
  clear h; intro hb h; conv => whnf
  refine br.h2 h ?_ ?_ ?_
  · rfl
  · clear h; intro hb h; conv => whnf
    all_goals (cases h)
    all_goals exact rfl
  clear h; intro hb h; conv => whnf
  refine br.h h ?_ ?_ ?_
  · rfl
  · clear h; intro hb h; conv => whnf
    obtain ⟨a1, hy, h2⟩ := obind.elim h; clear h; have h := h2; clear h2
    refine sumK.introF [] (sumRun_of (aqs := []) ra_nil (r44_eq hy) rfl rfl rfl rfl) ?_
    conv => whnf
    all_goals (cases h)
    all_goals exact rfl
  clear h; intro hb h; conv => whnf
  refine br.h h ?_ ?_ ?_
  · rfl
  · clear h; intro hb h; conv => whnf
    refine br.h2 h ?_ ?_ ?_
    · rfl
    · clear h; intro hb h; conv => whnf
      all_goals (cases h)
      all_goals exact rfl
    clear h; intro hb h; conv => whnf
    obtain ⟨a2, hy, h2⟩ := obind.elim h; clear h; have h := h2; clear h2
    refine sumK.introF [] (sumRun_of (aqs := []) ra_nil (r44_eq hy) rfl rfl rfl rfl) ?_
    conv => whnf
    all_goals (cases h)
    all_goals exact rfl
  clear h; intro hb h; conv => whnf
  refine br.h2 h ?_ ?_ ?_
  · rfl
  · clear h; intro hb h; conv => whnf
    all_goals (cases h)
    all_goals exact rfl
  clear h; intro hb h; conv => whnf
  obtain ⟨a3, hy, h2⟩ := obind.elim h; clear h; have h := h2; clear h2
  refine sumK.introF [] (sumRun_of (aqs := []) ra_nil (r44_eq hy) rfl rfl rfl rfl) ?_
  conv => whnf
  all_goals (cases h)
  all_goals exact rfl
theorem ok9 (cookie_Make : api_Layout → api_Key → api_Tuple → Int → Int → Option (Int × Bool)) (cookie_Open : api_Layout → api_Key → api_Tuple → Int → Option (Int × Int × Bool)) (law14_awake : Option Bool) (hS : SumsOK Try.prog (aget (sums9 cookie_Make cookie_Open law14_awake))) : SumOK Try.prog 9 (s9 (law14_CookieOnlyF cookie_Make cookie_Open law14_awake)) := by
  refine SumOK.of_leads tab_ok (fun ar r ha hr => ?_) ⟨Try.f9, rfl, by decide, rfl⟩
  simp only [s9] at ha hr
  unfold r9 at hr
  split at hr <;> try (cases hr; done)
  split at hr <;> cases hr
  rename_i x h
  refine ⟨_, rfl, (leads9 cookie_Make cookie_Open law14_awake hS _ _ _ _ _ x h).mono fun v H t hp => ?_⟩
  cases hp
  exact Res.val rfl trivial
def law14_CookieOnly : api_Layout → api_Key → api_Tuple → Int → Int → Option Bool := law14_CookieOnlyF cookie_Make cookie_Open law14_awake
theorem lift9 : SumOK Try.prog 9 (s9 law14_CookieOnly) := ok9 cookie_Make cookie_Open law14_awake (SumsOK.of_tab ⟨lift34, lift36, lift44, trivial⟩)
end Go.Vm.Code

/- CookieTells and CookieOnly, in plain words. -/
namespace Go.Vm.Code
open Go Go.Vm
theorem awake14 : law14_awake = some true := by decide +kernel
theorem cookieTells (l : api_Layout) (k : api_Key) (t : api_Tuple) (slot gen n : Int) (hsl : slot < 2 ^ 63) (hg : 0 ≤ gen ∧ gen < 2 ^ 64) (hn : 0 ≤ n ∧ n < 2 ^ 64) (hs : inU t.Src) (hd : inU t.Dst) : law14_CookieTells l k t slot gen n = some true := by
  unfold law14_CookieTells law14_CookieTellsF
  rw [awake14, cPack_eq hsl hg, rPack_eq hsl hg, cUnpack_eq hn, rUnpack_eq hn, cMake_eq hsl hg hs hd, rMake_eq hsl hg hs hd, cOpen_eq hn hs hd, rOpen_eq hn hs hd, cRight_eq trivial, rRight_eq, cWidth_eq, rWidth_eq, cMask_eq hn hs hd, rMaskT_eq hn hs hd]
  simp only [Option.bind_some, beq_self_eq_true, cond_true]
theorem xor_twice (n h w : Nat) : ((n ^^^ h) % 2 ^ w ^^^ h) % 2 ^ w = n % 2 ^ w := by
  apply Nat.eq_of_testBit_eq
  intro i
  rw [Nat.testBit_mod_two_pow, Nat.testBit_mod_two_pow, Nat.testBit_xor, Nat.testBit_mod_two_pow, Nat.testBit_xor]
  cases decide (i < w) <;> simp
theorem msk_twice (l : api_Layout) (k : api_Key) (t : api_Tuple) (n : Nat) : mskN l k t (mskN l k t n) = n % 2 ^ widN l := xor_twice _ _ _
theorem msk_back {l : api_Layout} {k : api_Key} {t : api_Tuple} {n : Nat} (h : n < 2 ^ widN l) : mskN l k t (mskN l k t n) = n := by rw [msk_twice, Nat.mod_eq_of_lt h]
/-- what is opened -/
theorem open_ok {l : api_Layout} {k : api_Key} {t : api_Tuple} {n : Nat} (h : (openS l k t n).2.2 = true) : LOK l ∧ n < 2 ^ widN l ∧ mskN l k t n < 2 ^ (l.Slot.toNat + l.Gen.toNat) ∧
    openS l k t n = (((mskN l k t n % 2 ^ l.Slot.toNat : Nat) : Int), ((mskN l k t n / 2 ^ l.Slot.toNat : Nat) : Int), true) := by
  unfold openS at h ⊢
  rw [Int.toNat_natCast] at h ⊢
  split at h
  · rename_i h1
    rw [if_pos h1]
    unfold unpackS at h ⊢
    rw [Int.toNat_natCast] at h ⊢
    split at h
    · rename_i h2
      rw [if_pos h2]
      exact ⟨h2.1, h1, h2.2, rfl⟩
    · cases h
  · cases h
theorem open_bad {l : api_Layout} {k : api_Key} {t : api_Tuple} {n : Int} (h : (openS l k t n).2.2 = false) : openS l k t n = (0, 0, false) := by
  unfold openS at h ⊢
  split at h
  · rename_i h1
    rw [if_pos h1]
    unfold unpackS at h ⊢
    split at h
    · cases h
    · rename_i h2; rw [if_neg h2]
  · rename_i h1; rw [if_neg h1]
theorem make_open {l : api_Layout} {k : api_Key} {t : api_Tuple} {n : Nat} (h : (openS l k t n).2.2 = true) : makeS l k t (openS l k t n).1 (openS l k t n).2.1 = ((n : Int), true) := by
  obtain ⟨h1, h2, h3, h4⟩ := open_ok h
  rw [h4]
  obtain ⟨a, b, ea, eb, h12, h63, _⟩ := LOK_nat h1
  rw [ea, eb, Int.toNat_natCast, Int.toNat_natCast] at h3
  have hm := Nat.mod_lt (mskN l k t n) (Nat.two_pow_pos a)
  have hdv : mskN l k t n / 2 ^ a < 2 ^ b := by
    rw [Nat.div_lt_iff_lt_mul (Nat.two_pow_pos a), ← Nat.pow_add, Nat.add_comm b a]; exact h3
  have hp : packS l ((mskN l k t n % 2 ^ l.Slot.toNat : Nat) : Int) ((mskN l k t n / 2 ^ l.Slot.toNat : Nat) : Int) = (((mskN l k t n : Nat) : Int), true) := by
    unfold packS
    rw [ea, eb]
    simp only [Int.toNat_natCast]
    rw [if_pos ⟨h1, by omega, hm⟩, Nat.mod_eq_of_lt hdv, Nat.div_add_mod']
  unfold makeS
  simp only []
  rw [hp]
  simp only [if_true, Int.toNat_natCast]
  rw [msk_back h2]
theorem cookieOnly (l : api_Layout) (k : api_Key) (t : api_Tuple) (n m : Int) (hn : 0 ≤ n ∧ n < 2 ^ 64) (hm : 0 ≤ m ∧ m < 2 ^ 64) (hs : inU t.Src) (hd : inU t.Dst) : law14_CookieOnly l k t n m = some true := by
  unfold law14_CookieOnly law14_CookieOnlyF
  rw [awake14, cOpen_eq hn hs hd, cOpen_eq hm hs hd, Option.bind_some, Option.bind_some]
  obtain ⟨x, rfl⟩ := Int.eq_ofNat_of_zero_le hn.1
  obtain ⟨y, rfl⟩ := Int.eq_ofNat_of_zero_le hm.1
  cases hx : (openS l k t (x : Int)).2.2 with
  | false =>
    rw [open_bad hx]; rfl
  | true =>
    obtain ⟨h1, h2, h3, h4⟩ := open_ok hx
    have hmk := make_open hx
    have hs1 : (openS l k t (x : Int)).1 < 2 ^ 63 := by
      rw [h4]
      have ha : l.Slot.toNat ≤ 12 := by obtain ⟨a, b, ea, eb, h12, _, _⟩ := LOK_nat h1; omega
      have := Nat.mod_lt (mskN l k t x) (Nat.two_pow_pos l.Slot.toNat)
      have hp := pow_mono ha
      simp only []; omega
    have hs2 : 0 ≤ (openS l k t (x : Int)).2.1 ∧ (openS l k t (x : Int)).2.1 < 2 ^ 64 := by
      rw [h4]
      have := Nat.div_le_self (mskN l k t x) (2 ^ l.Slot.toNat)
      have hb := msk_rng l k t x
      simp only []
      generalize mskN l k t x / 2 ^ l.Slot.toNat = dd at this ⊢
      omega
    rw [Bool.not_true, cond_false, cMake_eq hs1 hs2 hs hd, Option.bind_some, hmk]
    simp only [cond_true, beq_self_eq_true]
    cases hy : (openS l k t (y : Int)).2.2 with
    | false => rfl
    | true =>
      obtain ⟨g1, g2, g3, g4⟩ := open_ok hy
      rw [Bool.not_true, cond_false, h4, g4]
      simp only []
      have key : (mskN l k t x % 2 ^ l.Slot.toNat = mskN l k t y % 2 ^ l.Slot.toNat ∧ mskN l k t x / 2 ^ l.Slot.toNat = mskN l k t y / 2 ^ l.Slot.toNat) ↔ x = y := by
        constructor
        · rintro ⟨q1, q2⟩
          have e : mskN l k t x = mskN l k t y := by
            rw [← Nat.div_add_mod (mskN l k t x) (2 ^ l.Slot.toNat), ← Nat.div_add_mod (mskN l k t y) (2 ^ l.Slot.toNat), q1, q2]
          rw [← msk_back (k := k) (t := t) h2, ← msk_back (k := k) (t := t) g2, e]
        · rintro rfl; exact ⟨rfl, rfl⟩
      by_cases q1 : mskN l k t x % 2 ^ l.Slot.toNat = mskN l k t y % 2 ^ l.Slot.toNat
      · have e1 : (((mskN l k t x % 2 ^ l.Slot.toNat : Nat) : Int) == ((mskN l k t y % 2 ^ l.Slot.toNat : Nat) : Int)) = true := by rw [beq_iff_eq, q1]
        rw [e1, cond_true]
        have e2 : ((((mskN l k t x / 2 ^ l.Slot.toNat : Nat) : Int) == ((mskN l k t y / 2 ^ l.Slot.toNat : Nat) : Int)) == ((x : Int) == (y : Int))) = true := by
          rw [beq_iff_eq, Bool.eq_iff_iff, beq_iff_eq, beq_iff_eq]
          constructor
          · intro q2
            have := key.1 ⟨q1, by exact_mod_cast q2⟩
            omega
          · intro q2
            have := (key.2 (by omega)).2
            omega
        rw [e2]; rfl
      · have e1 : (((mskN l k t x % 2 ^ l.Slot.toNat : Nat) : Int) == ((mskN l k t y % 2 ^ l.Slot.toNat : Nat) : Int)) = false := by rw [beq_eq_false_iff_ne]; omega
        have e2 : ((x : Int) == (y : Int)) = false := by
          rw [beq_eq_false_iff_ne]
          intro q
          exact q1 (key.2 (by omega)).1
        rw [e1, cond_false, e2]; rfl
end Go.Vm.Code
