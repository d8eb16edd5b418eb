import Derived.Test.YtadhjooghfdloaaNRekeyPlaysc
namespace Go.Vm.Code
open Go Go.Vm Go.Proofs
set_option maxRecDepth 100000
set_option maxHeartbeats 4000000
set_option linter.unusedVariables false
def tuple_RightF (addr_Right : api_Addr → Option Bool) (tuple_within : Int → (List Int) → Option Bool) (t : api_Tuple) : Option Bool :=
  (tuple_within 255 [t.Proto]).bind fun w =>
  cond (w)
    (
    (tuple_within 65535 [t.SPort, t.DPort]).bind fun w1 =>
    cond (w1)
      (
      (addr_Right t.Src).bind fun xr =>
      cond (xr)
        (
        (addr_Right t.Dst).bind fun xr1 =>
        cond (xr1)
          (
          some (t.Src.V6 == t.Dst.V6))
          (
          some (false)))
        (
        some (false)))
      (
      some (false)))
    (
    some (false))
def rx155 (x : Bool) : SRes := ⟨.bool x, [], []⟩
def r155 (g : api_Tuple → Option Bool) : Dec := dV uvapi_Tuple fun (y0 : api_Tuple) => dEnd (ofG (g y0) rx155)
theorem r155_c {g : api_Tuple → Option Bool} {y0 : api_Tuple} {x : Bool} (hx : g y0 = some x) : r155 g [.agg ⟨[.int .i64 y0.Proto, .bool y0.Src.V6, .int .u64 y0.Src.Hi, .int .u64 y0.Src.Lo, .bool y0.Dst.V6, .int .u64 y0.Dst.Hi, .int .u64 y0.Dst.Lo, .int .i64 y0.SPort, .int .i64 y0.DPort]⟩] [] = some (rx155 x) := (dV_eq (uvapi_Tuple_c _)).trans (ofG_eq hx)
def s155 (g : api_Tuple → Option Bool) : Summ := ⟨[.v], r155 g⟩
theorem r155_eq {g : api_Tuple → Option Bool} {y0 : api_Tuple} {x : Bool} (hx : g y0 = some x) : (s155 g).run [.agg ⟨[.int .i64 y0.Proto, .bool y0.Src.V6, .int .u64 y0.Src.Hi, .int .u64 y0.Src.Lo, .bool y0.Dst.V6, .int .u64 y0.Dst.Hi, .int .u64 y0.Dst.Lo, .int .i64 y0.SPort, .int .i64 y0.DPort]⟩] [] = some (rx155 x) := r155_c hx
abbrev sums155 (addr_Right : api_Addr → Option Bool) (tuple_within : Int → (List Int) → Option Bool) : List (Nat × Summ) := [(82, s82 addr_Right), (160, s160 tuple_within)]
theorem leads155 (addr_Right : api_Addr → Option Bool) (tuple_within : Int → (List Int) → Option Bool) (hS : SumsOK Try.prog (aget (sums155 addr_Right tuple_within))) (t : api_Tuple) (res : Bool) (h : tuple_RightF addr_Right tuple_within t = some res) :
    Leads Try.prog 155 0 ⟨⟨155, 34, [(0, .agg ⟨[.int .i64 t.Proto, .bool t.Src.V6, .int .u64 t.Src.Hi, .int .u64 t.Src.Lo, .bool t.Dst.V6, .int .u64 t.Dst.Hi, .int .u64 t.Dst.Lo, .int .i64 t.SPort, .int .i64 t.DPort]⟩)], [.code k155_3], [], false, none⟩, [], [], 0⟩ (fun v H _ => Res 0 (rx155 res) v H) := by
  unfold tuple_RightF at h
  refine ev_ok tab_ok hS true 3000 ?_
  conv => whnf
  replace h := obind.elim h; obtain ⟨w, hy, h⟩ := h
  refine sumK.introF [] (sumRun_of (aqs := [.int .i64 255, .slice (some ⟨0, 0, none⟩) ([t.Proto] : List Int).length 1]) (ws := [.win 1 0 (1 * 1) false]) (n := 0) (m := 0) (t' := 2) (ra_cons rfl rfl (ra_cons (by first | rfl | exact ra_allI rfl rfl (by first | rfl | omega) (by first | rfl | (simp; done)) | exact ra_slI rfl rfl (by first | rfl | omega) (by first | rfl | omega) (by first | omega | (simp at *; omega))) rfl ra_nil)) rfl (by rfl) (r160_eq hy) rfl rfl rfl rfl (wb_skip rfl wb_nil) an_nil rfl) ?_
  conv => whnf
  refine br.h2 h ?_ ?_ ?_
  · rfl
  · clear h; intro hb h; conv => whnf
    all_goals (cases h; exact Res.z rfl rfl rfl)
  clear h; intro hb h; conv => whnf
  replace h := obind.elim h; obtain ⟨w1, hy, h⟩ := h
  refine sumK.introF [] (sumRun_of (aqs := [.int .i64 65535, .slice (some ⟨0, 0, none⟩) ([t.SPort, t.DPort] : List Int).length 1]) (ws := [.win 2 0 (2 * 1) false]) (n := 0) (m := 0) (t' := 3) (ra_cons rfl rfl (ra_cons (by first | rfl | exact ra_allI rfl rfl (by first | rfl | omega) (by first | rfl | (simp; done)) | exact ra_slI rfl rfl (by first | rfl | omega) (by first | rfl | omega) (by first | omega | (simp at *; omega))) rfl ra_nil)) rfl (by rfl) (r160_eq hy) rfl rfl rfl rfl (wb_skip rfl wb_nil) an_nil rfl) ?_
  conv => whnf
  refine br.h2 h ?_ ?_ ?_
  · rfl
  · clear h; intro hb h; conv => whnf
    all_goals (cases h; exact Res.z rfl rfl rfl)
  clear h; intro hb h; conv => whnf
  replace h := obind.elim h; obtain ⟨xr, hy, h⟩ := h
  refine sumK.q rfl rfl (r82_eq hy) rfl rfl rfl ?_
  conv => whnf
  refine br.h2 h ?_ ?_ ?_
  · rfl
  · clear h; intro hb h; conv => whnf
    all_goals (cases h; exact Res.z rfl rfl rfl)
  clear h; intro hb h; conv => whnf
  replace h := obind.elim h; obtain ⟨xr1, hy, h⟩ := h
  refine sumK.q rfl rfl (r82_eq hy) rfl rfl rfl ?_
  conv => whnf
  refine br.h h ?_ ?_ ?_
  · rfl
  · clear h; intro hb h; conv => whnf
    all_goals (cases h; exact Res.z rfl rfl rfl)
  clear h; intro hb h; conv => whnf
  all_goals (cases h; exact Res.z rfl rfl rfl)
theorem ok155 (addr_Right : api_Addr → Option Bool) (tuple_within : Int → (List Int) → Option Bool) (hS : SumsOK Try.prog (aget (sums155 addr_Right tuple_within))) : SumOK Try.prog 155 (s155 (tuple_RightF addr_Right tuple_within)) := by
  refine SumOK.of_leads tab_ok (fun ar os r ha hr => ?_) ⟨Try.f155, rfl, by decide, rfl⟩
  replace hr : r155 (tuple_RightF addr_Right tuple_within) ar (conts os) = some r := hr
  unfold r155 at hr
  generalize hc : conts os = C at hr
  replace hr := dV.elim hr; obtain ⟨v0, l1, y0, rfl, e0, hr⟩ := hr; obtain rfl := uvapi_Tuple_eq _ _ e0
  replace hr := dFin hr; obtain ⟨rfl, rfl, x, h, rfl⟩ := hr
  obtain rfl := kinds_nil hc
  exact ⟨_, rfl, leads155 addr_Right tuple_within hS _ x h⟩
def tuple_Right : api_Tuple → Option Bool := tuple_RightF addr_Right tuple_within
theorem lift155 : SumOK Try.prog 155 (s155 tuple_Right) := ok155 addr_Right tuple_within (SumsOK.of_tab ⟨lift82, lift160, trivial⟩)
def tuple_kindF (six : Bool) : Option Int :=
  cond (six)
    (
    some (6))
    (
    some (4))
def rx156 (x : Int) : SRes := ⟨.int .i64 x, [], []⟩
def r156 (g : Bool → Option Int) : Dec := dV asB fun (y0 : Bool) => dEnd (ofG (g y0) rx156)
theorem r156_c {g : Bool → Option Int} {y0 : Bool} {x : Int} (hx : g y0 = some x) : r156 g [.bool y0] [] = some (rx156 x) := (dV_eq (asB_c)).trans (ofG_eq hx)
def s156 (g : Bool → Option Int) : Summ := ⟨[.v], r156 g⟩
theorem r156_eq {g : Bool → Option Int} {y0 : Bool} {x : Int} (hx : g y0 = some x) : (s156 g).run [.bool y0] [] = some (rx156 x) := r156_c hx
abbrev sums156 : List (Nat × Summ) := []
theorem leads156 (hS : SumsOK Try.prog (aget (sums156))) (six : Bool) (res : Int) (h : tuple_kindF six = some res) :
    Leads Try.prog 156 0 ⟨⟨156, 4, [(0, .bool six)], [.code k156_9], [], false, none⟩, [], [], 0⟩ (fun v H _ => Res 0 (rx156 res) v H) := by
  unfold tuple_kindF at h
  refine ev_ok tab_ok hS true 3000 ?_
  conv => whnf
  refine br.h h ?_ ?_ ?_
  · rfl
  · clear h; intro hb h; conv => whnf
    all_goals (cases h; exact Res.z rfl rfl rfl)
  clear h; intro hb h; conv => whnf
  all_goals (cases h; exact Res.z rfl rfl rfl)
theorem ok156 (hS : SumsOK Try.prog (aget (sums156))) : SumOK Try.prog 156 (s156 (tuple_kindF)) := by
  refine SumOK.of_leads tab_ok (fun ar os r ha hr => ?_) ⟨Try.f156, rfl, by decide, rfl⟩
  replace hr : r156 (tuple_kindF) ar (conts os) = some r := hr
  unfold r156 at hr
  generalize hc : conts os = C at hr
  replace hr := dV.elim hr; obtain ⟨v0, l1, y0, rfl, e0, hr⟩ := hr; obtain rfl := asB_eq _ _ e0
  replace hr := dFin hr; obtain ⟨rfl, rfl, x, h, rfl⟩ := hr
  obtain rfl := kinds_nil hc
  exact ⟨_, rfl, leads156 hS _ x h⟩
def tuple_kind : Bool → Option Int := tuple_kindF
theorem lift156 : SumOK Try.prog 156 (s156 tuple_kind) := ok156 (SumsOK.of_tab trivial)
def tuple_PutF (addr_Put : api_Addr → Option (List UInt8)) (octet_Put : Int → Int → Option (List UInt8)) (tuple_Right : api_Tuple → Option Bool) (tuple_kind : Bool → Option Int) (t : api_Tuple) : Option (List UInt8) :=
  (tuple_Right t).bind fun xr =>
  cond (!xr)
    (
    some ([]))
    (
    (tuple_kind t.Src.V6).bind fun k =>
    let t1 := wI .u64 (iorI .i64 (wI .i64 (k * 2 ^ 8)) t.Proto)
    (octet_Put t1 2).bind fun p =>
    (addr_Put t.Src).bind fun p1 =>
    oreq (decide (p.length + p1.length < 2 ^ 63)) <|
    (addr_Put t.Dst).bind fun p2 =>
    oreq (decide ((p ++ p1).length + p2.length < 2 ^ 63)) <|
    let t2 := iorI .u64 (wI .u64 ((wI .u64 t.SPort) * 2 ^ 16)) (wI .u64 t.DPort)
    (octet_Put t2 4).bind fun p3 =>
    oreq (decide (((p ++ p1) ++ p2).length + p3.length < 2 ^ 63)) <|
    some (((p ++ p1) ++ p2) ++ p3))
def rx150 (x : List UInt8) : SRes := ⟨.string ⟨⟨x⟩⟩, [], []⟩
def r150 (g : api_Tuple → Option (List UInt8)) : Dec := dV uvapi_Tuple fun (y0 : api_Tuple) => dEnd (ofG (g y0) rx150)
theorem r150_c {g : api_Tuple → Option (List UInt8)} {y0 : api_Tuple} {x : List UInt8} (hx : g y0 = some x) : r150 g [.agg ⟨[.int .i64 y0.Proto, .bool y0.Src.V6, .int .u64 y0.Src.Hi, .int .u64 y0.Src.Lo, .bool y0.Dst.V6, .int .u64 y0.Dst.Hi, .int .u64 y0.Dst.Lo, .int .i64 y0.SPort, .int .i64 y0.DPort]⟩] [] = some (rx150 x) := (dV_eq (uvapi_Tuple_c _)).trans (ofG_eq hx)
def s150 (g : api_Tuple → Option (List UInt8)) : Summ := ⟨[.v], r150 g⟩
theorem r150_eq {g : api_Tuple → Option (List UInt8)} {y0 : api_Tuple} {x : List UInt8} (hx : g y0 = some x) : (s150 g).run [.agg ⟨[.int .i64 y0.Proto, .bool y0.Src.V6, .int .u64 y0.Src.Hi, .int .u64 y0.Src.Lo, .bool y0.Dst.V6, .int .u64 y0.Dst.Hi, .int .u64 y0.Dst.Lo, .int .i64 y0.SPort, .int .i64 y0.DPort]⟩] [] = some (rx150 x) := r150_c hx
abbrev sums150 (addr_Put : api_Addr → Option (List UInt8)) (octet_Put : Int → Int → Option (List UInt8)) (tuple_Right : api_Tuple → Option Bool) (tuple_kind : Bool → Option Int) : List (Nat × Summ) := [(110, s110 addr_Put), (109, s109 octet_Put), (155, s155 tuple_Right), (156, s156 tuple_kind)]
theorem leads150 (addr_Put : api_Addr → Option (List UInt8)) (octet_Put : Int → Int → Option (List UInt8)) (tuple_Right : api_Tuple → Option Bool) (tuple_kind : Bool → Option Int) (hS : SumsOK Try.prog (aget (sums150 addr_Put octet_Put tuple_Right tuple_kind))) (t : api_Tuple) (res : List UInt8) (h : tuple_PutF addr_Put octet_Put tuple_Right tuple_kind t = some res) :
    Leads Try.prog 150 0 ⟨⟨150, 34, [(0, .agg ⟨[.int .i64 t.Proto, .bool t.Src.V6, .int .u64 t.Src.Hi, .int .u64 t.Src.Lo, .bool t.Dst.V6, .int .u64 t.Dst.Hi, .int .u64 t.Dst.Lo, .int .i64 t.SPort, .int .i64 t.DPort]⟩)], [.code k150_9], [], false, none⟩, [], [], 0⟩ (fun v H _ => Res 0 (rx150 res) v H) := by
  unfold tuple_PutF at h
  refine ev_ok tab_ok hS true 3000 ?_
  conv => whnf
  replace h := obind.elim h; obtain ⟨xr, hy, h⟩ := h
  refine sumK.q rfl rfl (r155_eq hy) rfl rfl rfl ?_
  conv => whnf
  refine br.h h ?_ ?_ ?_
  · rfl
  · clear h; intro hb h; conv => whnf
    all_goals (cases h; exact Res.z rfl rfl rfl)
  clear h; intro hb h; conv => whnf
  replace h := obind.elim h; obtain ⟨k, hy, h⟩ := h
  refine sumK.q rfl rfl (r156_eq hy) rfl rfl rfl ?_
  conv => whnf
  let t1 : Int := wI .u64 (iorI .i64 (wI .i64 (k * 2 ^ 8)) t.Proto)
  replace h := obind.elim h; obtain ⟨p, hy, h⟩ := h
  refine sumK.q rfl rfl (r109_eq hy) rfl rfl rfl ?_
  conv => whnf
  replace h := obind.elim h; obtain ⟨p1, hy, h⟩ := h
  refine sumK.q rfl rfl (r110_eq hy) rfl rfl rfl ?_
  conv => whnf
  replace h := oreq.elim h; obtain ⟨hb, h⟩ := h
  first | (refine req.intro hb ?_; conv => whnf) | skip
  replace h := obind.elim h; obtain ⟨p2, hy, h⟩ := h
  refine sumK.q rfl rfl (r110_eq hy) rfl rfl rfl ?_
  conv => whnf
  replace h := oreq.elim h; obtain ⟨hb, h⟩ := h
  first | (refine req.intro hb ?_; conv => whnf) | skip
  let t2 : Int := iorI .u64 (wI .u64 ((wI .u64 t.SPort) * 2 ^ 16)) (wI .u64 t.DPort)
  replace h := obind.elim h; obtain ⟨p3, hy, h⟩ := h
  refine sumK.q rfl rfl (r109_eq hy) rfl rfl rfl ?_
  conv => whnf
  replace h := oreq.elim h; obtain ⟨hb, h⟩ := h
  first | (refine req.intro hb ?_; conv => whnf) | skip
  all_goals (cases h; exact Res.z rfl rfl rfl)
theorem ok150 (addr_Put : api_Addr → Option (List UInt8)) (octet_Put : Int → Int → Option (List UInt8)) (tuple_Right : api_Tuple → Option Bool) (tuple_kind : Bool → Option Int) (hS : SumsOK Try.prog (aget (sums150 addr_Put octet_Put tuple_Right tuple_kind))) : SumOK Try.prog 150 (s150 (tuple_PutF addr_Put octet_Put tuple_Right tuple_kind)) := by
  refine SumOK.of_leads tab_ok (fun ar os r ha hr => ?_) ⟨Try.f150, rfl, by decide, rfl⟩
  replace hr : r150 (tuple_PutF addr_Put octet_Put tuple_Right tuple_kind) ar (conts os) = some r := hr
  unfold r150 at hr
  generalize hc : conts os = C at hr
  replace hr := dV.elim hr; obtain ⟨v0, l1, y0, rfl, e0, hr⟩ := hr; obtain rfl := uvapi_Tuple_eq _ _ e0
  replace hr := dFin hr; obtain ⟨rfl, rfl, x, h, rfl⟩ := hr
  obtain rfl := kinds_nil hc
  exact ⟨_, rfl, leads150 addr_Put octet_Put tuple_Right tuple_kind hS _ x h⟩
def tuple_Put : api_Tuple → Option (List UInt8) := tuple_PutF addr_Put octet_Put tuple_Right tuple_kind
theorem lift150 : SumOK Try.prog 150 (s150 tuple_Put) := ok150 addr_Put octet_Put tuple_Right tuple_kind (SumsOK.of_tab ⟨lift110, lift109, lift155, lift156, trivial⟩)
def R04_RightF (a : api_Addr) : Option Bool :=
  cond (a.V6)
    (
    some (true))
    (
    cond (a.Hi == 0)
      (
      some (decide (a.Lo < 4294967296)))
      (
      some (false)))
def rx115 (x : Bool) : SRes := ⟨.bool x, [], []⟩
def r115 (g : api_Addr → Option Bool) : Dec := dV uvapi_Addr fun (y0 : api_Addr) => dEnd (ofG (g y0) rx115)
theorem r115_c {g : api_Addr → Option Bool} {y0 : api_Addr} {x : Bool} (hx : g y0 = some x) : r115 g [.agg ⟨[.bool y0.V6, .int .u64 y0.Hi, .int .u64 y0.Lo]⟩] [] = some (rx115 x) := (dV_eq (uvapi_Addr_c _)).trans (ofG_eq hx)
def s115 (g : api_Addr → Option Bool) : Summ := ⟨[.v], r115 g⟩
theorem r115_eq {g : api_Addr → Option Bool} {y0 : api_Addr} {x : Bool} (hx : g y0 = some x) : (s115 g).run [.agg ⟨[.bool y0.V6, .int .u64 y0.Hi, .int .u64 y0.Lo]⟩] [] = some (rx115 x) := r115_c hx
abbrev sums115 : List (Nat × Summ) := []
theorem leads115 (hS : SumsOK Try.prog (aget (sums115))) (a : api_Addr) (res : Bool) (h : R04_RightF a = some res) :
    Leads Try.prog 115 0 ⟨⟨115, 15, [(0, .agg ⟨[.bool a.V6, .int .u64 a.Hi, .int .u64 a.Lo]⟩)], [.code k115_3], [], false, none⟩, [], [], 0⟩ (fun v H _ => Res 0 (rx115 res) v H) := by
  unfold R04_RightF at h
  refine ev_ok tab_ok hS true 3000 ?_
  conv => whnf
  refine br.h h ?_ ?_ ?_
  · rfl
  · clear h; intro hb h; conv => whnf
    all_goals (cases h; exact Res.z rfl rfl rfl)
  clear h; intro hb h; conv => whnf
  refine br.h h ?_ ?_ ?_
  · rfl
  · clear h; intro hb h; conv => whnf
    all_goals (cases h; exact Res.z rfl rfl rfl)
  clear h; intro hb h; conv => whnf
  all_goals (cases h; exact Res.z rfl rfl rfl)
theorem ok115 (hS : SumsOK Try.prog (aget (sums115))) : SumOK Try.prog 115 (s115 (R04_RightF)) := by
  refine SumOK.of_leads tab_ok (fun ar os r ha hr => ?_) ⟨Try.f115, rfl, by decide, rfl⟩
  replace hr : r115 (R04_RightF) ar (conts os) = some r := hr
  unfold r115 at hr
  generalize hc : conts os = C at hr
  replace hr := dV.elim hr; obtain ⟨v0, l1, y0, rfl, e0, hr⟩ := hr; obtain rfl := uvapi_Addr_eq _ _ e0
  replace hr := dFin hr; obtain ⟨rfl, rfl, x, h, rfl⟩ := hr
  obtain rfl := kinds_nil hc
  exact ⟨_, rfl, leads115 hS _ x h⟩
def R04_Right : api_Addr → Option Bool := R04_RightF
theorem lift115 : SumOK Try.prog 115 (s115 R04_Right) := ok115 (SumsOK.of_tab trivial)
def R04_PutF (R02_Put : Int → Int → Option (List UInt8)) (R04_Right : api_Addr → Option Bool) (a : api_Addr) : Option (List UInt8) :=
  (R04_Right a).bind fun xr =>
  cond (!xr)
    (
    some ([]))
    (
    cond (a.V6)
      (
      (R02_Put a.Hi 8).bind fun p =>
      (R02_Put a.Lo 8).bind fun p1 =>
      oreq (decide (p.length + p1.length < 2 ^ 63)) <|
      some (p ++ p1))
      (
      (R02_Put a.Lo 4).bind fun p2 =>
      some (p2)))
def rx112 (x : List UInt8) : SRes := ⟨.string ⟨⟨x⟩⟩, [], []⟩
def r112 (g : api_Addr → Option (List UInt8)) : Dec := dV uvapi_Addr fun (y0 : api_Addr) => dEnd (ofG (g y0) rx112)
theorem r112_c {g : api_Addr → Option (List UInt8)} {y0 : api_Addr} {x : List UInt8} (hx : g y0 = some x) : r112 g [.agg ⟨[.bool y0.V6, .int .u64 y0.Hi, .int .u64 y0.Lo]⟩] [] = some (rx112 x) := (dV_eq (uvapi_Addr_c _)).trans (ofG_eq hx)
def s112 (g : api_Addr → Option (List UInt8)) : Summ := ⟨[.v], r112 g⟩
theorem r112_eq {g : api_Addr → Option (List UInt8)} {y0 : api_Addr} {x : List UInt8} (hx : g y0 = some x) : (s112 g).run [.agg ⟨[.bool y0.V6, .int .u64 y0.Hi, .int .u64 y0.Lo]⟩] [] = some (rx112 x) := r112_c hx
abbrev sums112 (R02_Put : Int → Int → Option (List UInt8)) (R04_Right : api_Addr → Option Bool) : List (Nat × Summ) := [(104, s104 R02_Put), (115, s115 R04_Right)]
theorem leads112 (R02_Put : Int → Int → Option (List UInt8)) (R04_Right : api_Addr → Option Bool) (hS : SumsOK Try.prog (aget (sums112 R02_Put R04_Right))) (a : api_Addr) (res : List UInt8) (h : R04_PutF R02_Put R04_Right a = some res) :
    Leads Try.prog 112 0 ⟨⟨112, 18, [(0, .agg ⟨[.bool a.V6, .int .u64 a.Hi, .int .u64 a.Lo]⟩)], [.code k112_15], [], false, none⟩, [], [], 0⟩ (fun v H _ => Res 0 (rx112 res) v H) := by
  unfold R04_PutF at h
  refine ev_ok tab_ok hS true 3000 ?_
  conv => whnf
  replace h := obind.elim h; obtain ⟨xr, hy, h⟩ := h
  refine sumK.q rfl rfl (r115_eq hy) rfl rfl rfl ?_
  conv => whnf
  refine br.h h ?_ ?_ ?_
  · rfl
  · clear h; intro hb h; conv => whnf
    all_goals (cases h; exact Res.z rfl rfl rfl)
  clear h; intro hb h; conv => whnf
  refine br.h2 h ?_ ?_ ?_
  · rfl
  · clear h; intro hb h; conv => whnf
    replace h := obind.elim h; obtain ⟨p2, hy, h⟩ := h
    refine sumK.q rfl rfl (r104_eq hy) rfl rfl rfl ?_
    conv => whnf
    all_goals (cases h; exact Res.z rfl rfl rfl)
  clear h; intro hb h; conv => whnf
  replace h := obind.elim h; obtain ⟨p, hy, h⟩ := h
  refine sumK.q rfl rfl (r104_eq hy) rfl rfl rfl ?_
  conv => whnf
  replace h := obind.elim h; obtain ⟨p1, hy, h⟩ := h
  refine sumK.q rfl rfl (r104_eq hy) rfl rfl rfl ?_
  conv => whnf
  replace h := oreq.elim h; obtain ⟨hb, h⟩ := h
  first | (refine req.intro hb ?_; conv => whnf) | skip
  all_goals (cases h; exact Res.z rfl rfl rfl)
theorem ok112 (R02_Put : Int → Int → Option (List UInt8)) (R04_Right : api_Addr → Option Bool) (hS : SumsOK Try.prog (aget (sums112 R02_Put R04_Right))) : SumOK Try.prog 112 (s112 (R04_PutF R02_Put R04_Right)) := by
  refine SumOK.of_leads tab_ok (fun ar os r ha hr => ?_) ⟨Try.f112, rfl, by decide, rfl⟩
  replace hr : r112 (R04_PutF R02_Put R04_Right) ar (conts os) = some r := hr
  unfold r112 at hr
  generalize hc : conts os = C at hr
  replace hr := dV.elim hr; obtain ⟨v0, l1, y0, rfl, e0, hr⟩ := hr; obtain rfl := uvapi_Addr_eq _ _ e0
  replace hr := dFin hr; obtain ⟨rfl, rfl, x, h, rfl⟩ := hr
  obtain rfl := kinds_nil hc
  exact ⟨_, rfl, leads112 R02_Put R04_Right hS _ x h⟩
def R04_Put : api_Addr → Option (List UInt8) := R04_PutF R02_Put R04_Right
theorem lift112 : SumOK Try.prog 112 (s112 R04_Put) := ok112 R02_Put R04_Right (SumsOK.of_tab ⟨lift104, lift115, trivial⟩)
def R13_inF (n : Int) (most : Int) : Option Bool :=
  cond (decide (n ≥ 0))
    (
    some (decide (n ≤ most)))
    (
    some (false))
def rx153 (x : Bool) : SRes := ⟨.bool x, [], []⟩
def r153 (g : Int → Int → Option Bool) : Dec := dV (asI .i64) fun (y0 : Int) => dV (asI .i64) fun (y1 : Int) => dEnd (ofG (g y0 y1) rx153)
theorem r153_c {g : Int → Int → Option Bool} {y0 : Int} {y1 : Int} {x : Bool} (hx : g y0 y1 = some x) : r153 g [.int .i64 y0, .int .i64 y1] [] = some (rx153 x) := (dV_eq (asI_c _)).trans ((dV_eq (asI_c _)).trans (ofG_eq hx))
def s153 (g : Int → Int → Option Bool) : Summ := ⟨[.v, .v], r153 g⟩
theorem r153_eq {g : Int → Int → Option Bool} {y0 : Int} {y1 : Int} {x : Bool} (hx : g y0 y1 = some x) : (s153 g).run [.int .i64 y0, .int .i64 y1] [] = some (rx153 x) := r153_c hx
abbrev sums153 : List (Nat × Summ) := []
theorem leads153 (hS : SumsOK Try.prog (aget (sums153))) (n : Int) (most : Int) (res : Bool) (h : R13_inF n most = some res) :
    Leads Try.prog 153 0 ⟨⟨153, 12, [(0, .int .i64 n), (1, .int .i64 most)], [.code k153_3], [], false, none⟩, [], [], 0⟩ (fun v H _ => Res 0 (rx153 res) v H) := by
  unfold R13_inF at h
  refine ev_ok tab_ok hS true 3000 ?_
  conv => whnf
  refine br.h h ?_ ?_ ?_
  · rfl
  · clear h; intro hb h; conv => whnf
    all_goals (cases h; exact Res.z rfl rfl rfl)
  clear h; intro hb h; conv => whnf
  all_goals (cases h; exact Res.z rfl rfl rfl)
theorem ok153 (hS : SumsOK Try.prog (aget (sums153))) : SumOK Try.prog 153 (s153 (R13_inF)) := by
  refine SumOK.of_leads tab_ok (fun ar os r ha hr => ?_) ⟨Try.f153, rfl, by decide, rfl⟩
  replace hr : r153 (R13_inF) ar (conts os) = some r := hr
  unfold r153 at hr
  generalize hc : conts os = C at hr
  replace hr := dV.elim hr; obtain ⟨v0, l1, y0, rfl, e0, hr⟩ := hr; obtain rfl := asI_eq _ _ _ e0
  replace hr := dV.elim hr; obtain ⟨v1, l2, y1, rfl, e1, hr⟩ := hr; obtain rfl := asI_eq _ _ _ e1
  replace hr := dFin hr; obtain ⟨rfl, rfl, x, h, rfl⟩ := hr
  obtain rfl := kinds_nil hc
  exact ⟨_, rfl, leads153 hS _ _ x h⟩
def R13_in : Int → Int → Option Bool := R13_inF
theorem lift153 : SumOK Try.prog 153 (s153 R13_in) := ok153 (SumsOK.of_tab trivial)
def R13_RightF (R04_Right : api_Addr → Option Bool) (R13_in : Int → Int → Option Bool) (t : api_Tuple) : Option Bool :=
  (R13_in t.Proto 255).bind fun i =>
  cond (i)
    (
    (R04_Right t.Src).bind fun xr =>
    cond (xr)
      (
      (R04_Right t.Dst).bind fun xr1 =>
      cond (xr1)
        (
        cond (t.Src.V6 == t.Dst.V6)
          (
          (R13_in t.SPort 65535).bind fun i1 =>
          cond (i1)
            (
            (R13_in t.DPort 65535).bind fun i2 =>
            some (i2))
            (
            some (false)))
          (
          some (false)))
        (
        some (false)))
      (
      some (false)))
    (
    some (false))
def rx145 (x : Bool) : SRes := ⟨.bool x, [], []⟩
def r145 (g : api_Tuple → Option Bool) : Dec := dV uvapi_Tuple fun (y0 : api_Tuple) => dEnd (ofG (g y0) rx145)
theorem r145_c {g : api_Tuple → Option Bool} {y0 : api_Tuple} {x : Bool} (hx : g y0 = some x) : r145 g [.agg ⟨[.int .i64 y0.Proto, .bool y0.Src.V6, .int .u64 y0.Src.Hi, .int .u64 y0.Src.Lo, .bool y0.Dst.V6, .int .u64 y0.Dst.Hi, .int .u64 y0.Dst.Lo, .int .i64 y0.SPort, .int .i64 y0.DPort]⟩] [] = some (rx145 x) := (dV_eq (uvapi_Tuple_c _)).trans (ofG_eq hx)
def s145 (g : api_Tuple → Option Bool) : Summ := ⟨[.v], r145 g⟩
theorem r145_eq {g : api_Tuple → Option Bool} {y0 : api_Tuple} {x : Bool} (hx : g y0 = some x) : (s145 g).run [.agg ⟨[.int .i64 y0.Proto, .bool y0.Src.V6, .int .u64 y0.Src.Hi, .int .u64 y0.Src.Lo, .bool y0.Dst.V6, .int .u64 y0.Dst.Hi, .int .u64 y0.Dst.Lo, .int .i64 y0.SPort, .int .i64 y0.DPort]⟩] [] = some (rx145 x) := r145_c hx
abbrev sums145 (R04_Right : api_Addr → Option Bool) (R13_in : Int → Int → Option Bool) : List (Nat × Summ) := [(115, s115 R04_Right), (153, s153 R13_in)]
theorem leads145 (R04_Right : api_Addr → Option Bool) (R13_in : Int → Int → Option Bool) (hS : SumsOK Try.prog (aget (sums145 R04_Right R13_in))) (t : api_Tuple) (res : Bool) (h : R13_RightF R04_Right R13_in t = some res) :
    Leads Try.prog 145 0 ⟨⟨145, 35, [(0, .agg ⟨[.int .i64 t.Proto, .bool t.Src.V6, .int .u64 t.Src.Hi, .int .u64 t.Src.Lo, .bool t.Dst.V6, .int .u64 t.Dst.Hi, .int .u64 t.Dst.Lo, .int .i64 t.SPort, .int .i64 t.DPort]⟩)], [.code k145_3], [], false, none⟩, [], [], 0⟩ (fun v H _ => Res 0 (rx145 res) v H) := by
  unfold R13_RightF at h
  refine ev_ok tab_ok hS true 3000 ?_
  conv => whnf
  replace h := obind.elim h; obtain ⟨i, hy, h⟩ := h
  refine sumK.q rfl rfl (r153_eq hy) rfl rfl rfl ?_
  conv => whnf
  refine br.h2 h ?_ ?_ ?_
  · rfl
  · clear h; intro hb h; conv => whnf
    all_goals (cases h; exact Res.z rfl rfl rfl)
  clear h; intro hb h; conv => whnf
  replace h := obind.elim h; obtain ⟨xr, hy, h⟩ := h
  refine sumK.q rfl rfl (r115_eq hy) rfl rfl rfl ?_
  conv => whnf
  refine br.h2 h ?_ ?_ ?_
  · rfl
  · clear h; intro hb h; conv => whnf
    all_goals (cases h; exact Res.z rfl rfl rfl)
  clear h; intro hb h; conv => whnf
  replace h := obind.elim h; obtain ⟨xr1, hy, h⟩ := h
  refine sumK.q rfl rfl (r115_eq hy) rfl rfl rfl ?_
  conv => whnf
  refine br.h2 h ?_ ?_ ?_
  · rfl
  · clear h; intro hb h; conv => whnf
    all_goals (cases h; exact Res.z rfl rfl rfl)
  clear h; intro hb h; conv => whnf
  refine br.h2 h ?_ ?_ ?_
  · rfl
  · clear h; intro hb h; conv => whnf
    all_goals (cases h; exact Res.z rfl rfl rfl)
  clear h; intro hb h; conv => whnf
  replace h := obind.elim h; obtain ⟨i1, hy, h⟩ := h
  refine sumK.q rfl rfl (r153_eq hy) rfl rfl rfl ?_
  conv => whnf
  refine br.h2 h ?_ ?_ ?_
  · rfl
  · clear h; intro hb h; conv => whnf
    all_goals (cases h; exact Res.z rfl rfl rfl)
  clear h; intro hb h; conv => whnf
  replace h := obind.elim h; obtain ⟨i2, hy, h⟩ := h
  refine sumK.q rfl rfl (r153_eq hy) rfl rfl rfl ?_
  conv => whnf
  all_goals (cases h; exact Res.z rfl rfl rfl)
theorem ok145 (R04_Right : api_Addr → Option Bool) (R13_in : Int → Int → Option Bool) (hS : SumsOK Try.prog (aget (sums145 R04_Right R13_in))) : SumOK Try.prog 145 (s145 (R13_RightF R04_Right R13_in)) := by
  refine SumOK.of_leads tab_ok (fun ar os r ha hr => ?_) ⟨Try.f145, rfl, by decide, rfl⟩
  replace hr : r145 (R13_RightF R04_Right R13_in) ar (conts os) = some r := hr
  unfold r145 at hr
  generalize hc : conts os = C at hr
  replace hr := dV.elim hr; obtain ⟨v0, l1, y0, rfl, e0, hr⟩ := hr; obtain rfl := uvapi_Tuple_eq _ _ e0
  replace hr := dFin hr; obtain ⟨rfl, rfl, x, h, rfl⟩ := hr
  obtain rfl := kinds_nil hc
  exact ⟨_, rfl, leads145 R04_Right R13_in hS _ x h⟩
def R13_Right : api_Tuple → Option Bool := R13_RightF R04_Right R13_in
theorem lift145 : SumOK Try.prog 145 (s145 R13_Right) := ok145 R04_Right R13_in (SumsOK.of_tab ⟨lift115, lift153, trivial⟩)
def R13_PutF (R02_Put : Int → Int → Option (List UInt8)) (R04_Put : api_Addr → Option (List UInt8)) (R13_Right : api_Tuple → Option Bool) (t : api_Tuple) : Option (List UInt8) :=
  (R13_Right t).bind fun xr =>
  cond (!xr)
    (
    some ([]))
    (
    cond (t.Src.V6)
      (
      (R02_Put 6 1).bind fun p =>
      (R02_Put (wI .u64 t.Proto) 1).bind fun p1 =>
      oreq (decide (p.length + p1.length < 2 ^ 63)) <|
      (R04_Put t.Src).bind fun p2 =>
      oreq (decide ((p ++ p1).length + p2.length < 2 ^ 63)) <|
      (R04_Put t.Dst).bind fun p3 =>
      oreq (decide (((p ++ p1) ++ p2).length + p3.length < 2 ^ 63)) <|
      (R02_Put (wI .u64 t.SPort) 2).bind fun p4 =>
      oreq (decide ((((p ++ p1) ++ p2) ++ p3).length + p4.length < 2 ^ 63)) <|
      (R02_Put (wI .u64 t.DPort) 2).bind fun p5 =>
      oreq (decide (((((p ++ p1) ++ p2) ++ p3) ++ p4).length + p5.length < 2 ^ 63)) <|
      some (((((p ++ p1) ++ p2) ++ p3) ++ p4) ++ p5))
      (
      (R02_Put 4 1).bind fun p6 =>
      (R02_Put (wI .u64 t.Proto) 1).bind fun p7 =>
      oreq (decide (p6.length + p7.length < 2 ^ 63)) <|
      (R04_Put t.Src).bind fun p8 =>
      oreq (decide ((p6 ++ p7).length + p8.length < 2 ^ 63)) <|
      (R04_Put t.Dst).bind fun p9 =>
      oreq (decide (((p6 ++ p7) ++ p8).length + p9.length < 2 ^ 63)) <|
      (R02_Put (wI .u64 t.SPort) 2).bind fun p10 =>
      oreq (decide ((((p6 ++ p7) ++ p8) ++ p9).length + p10.length < 2 ^ 63)) <|
      (R02_Put (wI .u64 t.DPort) 2).bind fun p11 =>
      oreq (decide (((((p6 ++ p7) ++ p8) ++ p9) ++ p10).length + p11.length < 2 ^ 63)) <|
      let t1 := ((((p6 ++ p7) ++ p8) ++ p9) ++ p10) ++ p11
      some (t1)))
def rx129 (x : List UInt8) : SRes := ⟨.string ⟨⟨x⟩⟩, [], []⟩
def r129 (g : api_Tuple → Option (List UInt8)) : Dec := dV uvapi_Tuple fun (y0 : api_Tuple) => dEnd (ofG (g y0) rx129)
theorem r129_c {g : api_Tuple → Option (List UInt8)} {y0 : api_Tuple} {x : List UInt8} (hx : g y0 = some x) : r129 g [.agg ⟨[.int .i64 y0.Proto, .bool y0.Src.V6, .int .u64 y0.Src.Hi, .int .u64 y0.Src.Lo, .bool y0.Dst.V6, .int .u64 y0.Dst.Hi, .int .u64 y0.Dst.Lo, .int .i64 y0.SPort, .int .i64 y0.DPort]⟩] [] = some (rx129 x) := (dV_eq (uvapi_Tuple_c _)).trans (ofG_eq hx)
def s129 (g : api_Tuple → Option (List UInt8)) : Summ := ⟨[.v], r129 g⟩
theorem r129_eq {g : api_Tuple → Option (List UInt8)} {y0 : api_Tuple} {x : List UInt8} (hx : g y0 = some x) : (s129 g).run [.agg ⟨[.int .i64 y0.Proto, .bool y0.Src.V6, .int .u64 y0.Src.Hi, .int .u64 y0.Src.Lo, .bool y0.Dst.V6, .int .u64 y0.Dst.Hi, .int .u64 y0.Dst.Lo, .int .i64 y0.SPort, .int .i64 y0.DPort]⟩] [] = some (rx129 x) := r129_c hx
abbrev sums129 (R02_Put : Int → Int → Option (List UInt8)) (R04_Put : api_Addr → Option (List UInt8)) (R13_Right : api_Tuple → Option Bool) : List (Nat × Summ) := [(104, s104 R02_Put), (112, s112 R04_Put), (145, s145 R13_Right)]
theorem leads129 (R02_Put : Int → Int → Option (List UInt8)) (R04_Put : api_Addr → Option (List UInt8)) (R13_Right : api_Tuple → Option Bool) (hS : SumsOK Try.prog (aget (sums129 R02_Put R04_Put R13_Right))) (t : api_Tuple) (res : List UInt8) (h : R13_PutF R02_Put R04_Put R13_Right t = some res) :
    Leads Try.prog 129 0 ⟨⟨129, 35, [(0, .agg ⟨[.int .i64 t.Proto, .bool t.Src.V6, .int .u64 t.Src.Hi, .int .u64 t.Src.Lo, .bool t.Dst.V6, .int .u64 t.Dst.Hi, .int .u64 t.Dst.Lo, .int .i64 t.SPort, .int .i64 t.DPort]⟩)], [.code k129_16], [], false, none⟩, [], [], 0⟩ (fun v H _ => Res 0 (rx129 res) v H) := by
  unfold R13_PutF at h
  refine ev_ok tab_ok hS true 3000 ?_
  conv => whnf
  replace h := obind.elim h; obtain ⟨xr, hy, h⟩ := h
  refine sumK.q rfl rfl (r145_eq hy) rfl rfl rfl ?_
  conv => whnf
  refine br.h h ?_ ?_ ?_
  · rfl
  · clear h; intro hb h; conv => whnf
    all_goals (cases h; exact Res.z rfl rfl rfl)
  clear h; intro hb h; conv => whnf
  refine br.h h ?_ ?_ ?_
  · rfl
  · clear h; intro hb h; conv => whnf
    replace h := obind.elim h; obtain ⟨p, hy, h⟩ := h
    refine sumK.q rfl rfl (r104_eq hy) rfl rfl rfl ?_
    conv => whnf
    replace h := obind.elim h; obtain ⟨p1, hy, h⟩ := h
    refine sumK.q rfl rfl (r104_eq hy) rfl rfl rfl ?_
    conv => whnf
    replace h := oreq.elim h; obtain ⟨hb, h⟩ := h
    first | (refine req.intro hb ?_; conv => whnf) | skip
    replace h := obind.elim h; obtain ⟨p2, hy, h⟩ := h
    refine sumK.q rfl rfl (r112_eq hy) rfl rfl rfl ?_
    conv => whnf
    replace h := oreq.elim h; obtain ⟨hb, h⟩ := h
    first | (refine req.intro hb ?_; conv => whnf) | skip
    replace h := obind.elim h; obtain ⟨p3, hy, h⟩ := h
    refine sumK.q rfl rfl (r112_eq hy) rfl rfl rfl ?_
    conv => whnf
    replace h := oreq.elim h; obtain ⟨hb, h⟩ := h
    first | (refine req.intro hb ?_; conv => whnf) | skip
    replace h := obind.elim h; obtain ⟨p4, hy, h⟩ := h
    refine sumK.q rfl rfl (r104_eq hy) rfl rfl rfl ?_
    conv => whnf
    replace h := oreq.elim h; obtain ⟨hb, h⟩ := h
    first | (refine req.intro hb ?_; conv => whnf) | skip
    replace h := obind.elim h; obtain ⟨p5, hy, h⟩ := h
    refine sumK.q rfl rfl (r104_eq hy) rfl rfl rfl ?_
    conv => whnf
    replace h := oreq.elim h; obtain ⟨hb, h⟩ := h
    first | (refine req.intro hb ?_; conv => whnf) | skip
    all_goals (cases h; exact Res.z rfl rfl rfl)
  clear h; intro hb h; conv => whnf
  replace h := obind.elim h; obtain ⟨p6, hy, h⟩ := h
  refine sumK.q rfl rfl (r104_eq hy) rfl rfl rfl ?_
  conv => whnf
  replace h := obind.elim h; obtain ⟨p7, hy, h⟩ := h
  refine sumK.q rfl rfl (r104_eq hy) rfl rfl rfl ?_
  conv => whnf
  replace h := oreq.elim h; obtain ⟨hb, h⟩ := h
  first | (refine req.intro hb ?_; conv => whnf) | skip
  replace h := obind.elim h; obtain ⟨p8, hy, h⟩ := h
  refine sumK.q rfl rfl (r112_eq hy) rfl rfl rfl ?_
  conv => whnf
  replace h := oreq.elim h; obtain ⟨hb, h⟩ := h
  first | (refine req.intro hb ?_; conv => whnf) | skip
  replace h := obind.elim h; obtain ⟨p9, hy, h⟩ := h
  refine sumK.q rfl rfl (r112_eq hy) rfl rfl rfl ?_
  conv => whnf
  replace h := oreq.elim h; obtain ⟨hb, h⟩ := h
  first | (refine req.intro hb ?_; conv => whnf) | skip
  replace h := obind.elim h; obtain ⟨p10, hy, h⟩ := h
  refine sumK.q rfl rfl (r104_eq hy) rfl rfl rfl ?_
  conv => whnf
  replace h := oreq.elim h; obtain ⟨hb, h⟩ := h
  first | (refine req.intro hb ?_; conv => whnf) | skip
  replace h := obind.elim h; obtain ⟨p11, hy, h⟩ := h
  refine sumK.q rfl rfl (r104_eq hy) rfl rfl rfl ?_
  conv => whnf
  replace h := oreq.elim h; obtain ⟨hb, h⟩ := h
  first | (refine req.intro hb ?_; conv => whnf) | skip
  let t1 : List UInt8 := ((((p6 ++ p7) ++ p8) ++ p9) ++ p10) ++ p11
  all_goals (cases h; exact Res.z rfl rfl rfl)
theorem ok129 (R02_Put : Int → Int → Option (List UInt8)) (R04_Put : api_Addr → Option (List UInt8)) (R13_Right : api_Tuple → Option Bool) (hS : SumsOK Try.prog (aget (sums129 R02_Put R04_Put R13_Right))) : SumOK Try.prog 129 (s129 (R13_PutF R02_Put R04_Put R13_Right)) := by
  refine SumOK.of_leads tab_ok (fun ar os r ha hr => ?_) ⟨Try.f129, rfl, by decide, rfl⟩
  replace hr : r129 (R13_PutF R02_Put R04_Put R13_Right) ar (conts os) = some r := hr
  unfold r129 at hr
  generalize hc : conts os = C at hr
  replace hr := dV.elim hr; obtain ⟨v0, l1, y0, rfl, e0, hr⟩ := hr; obtain rfl := uvapi_Tuple_eq _ _ e0
  replace hr := dFin hr; obtain ⟨rfl, rfl, x, h, rfl⟩ := hr
  obtain rfl := kinds_nil hc
  exact ⟨_, rfl, leads129 R02_Put R04_Put R13_Right hS _ x h⟩
def R13_Put : api_Tuple → Option (List UInt8) := R13_PutF R02_Put R04_Put R13_Right
theorem lift129 : SumOK Try.prog 129 (s129 R13_Put) := ok129 R02_Put R04_Put R13_Right (SumsOK.of_tab ⟨lift104, lift112, lift145, trivial⟩)
def num_MaskF (k : Int) : Option Int :=
  cond (decide (k < 0))
    (
    some (0))
    (
    cond (decide (k > 64))
      (
      some (0))
      (
      oreq (decide (0 ≤ k)) <|
      let t := wI .u64 (18446744073709551615 * 2 ^ (min k.toNat 64))
      some (cmplI .u64 t)))
def rx151 (x : Int) : SRes := ⟨.int .u64 x, [], []⟩
def r151 (g : Int → Option Int) : Dec := dV (asI .i64) fun (y0 : Int) => dEnd (ofG (g y0) rx151)
theorem r151_c {g : Int → Option Int} {y0 : Int} {x : Int} (hx : g y0 = some x) : r151 g [.int .i64 y0] [] = some (rx151 x) := (dV_eq (asI_c _)).trans (ofG_eq hx)
def s151 (g : Int → Option Int) : Summ := ⟨[.v], r151 g⟩
theorem r151_eq {g : Int → Option Int} {y0 : Int} {x : Int} (hx : g y0 = some x) : (s151 g).run [.int .i64 y0] [] = some (rx151 x) := r151_c hx
abbrev sums151 : List (Nat × Summ) := []
theorem leads151 (hS : SumsOK Try.prog (aget (sums151))) (k : Int) (res : Int) (h : num_MaskF k = some res) :
    Leads Try.prog 151 0 ⟨⟨151, 12, [(0, .int .i64 k)], [.code k151_9], [], false, none⟩, [], [], 0⟩ (fun v H _ => Res 0 (rx151 res) v H) := by
  unfold num_MaskF at h
  refine ev_ok tab_ok hS true 3000 ?_
  conv => whnf
  refine br.h h ?_ ?_ ?_
  · rfl
  · clear h; intro hb h; conv => whnf
    all_goals (cases h; exact Res.z rfl rfl rfl)
  clear h; intro hb h; conv => whnf
  refine br.h h ?_ ?_ ?_
  · rfl
  · clear h; intro hb h; conv => whnf
    all_goals (cases h; exact Res.z rfl rfl rfl)
  clear h; intro hb h; conv => whnf
  replace h := oreq.elim h; obtain ⟨hb, h⟩ := h
  first | (refine req.intro hb ?_; conv => whnf) | skip
  let t : Int := wI .u64 (18446744073709551615 * 2 ^ (min k.toNat 64))
  all_goals (cases h; exact Res.z rfl rfl rfl)
theorem ok151 (hS : SumsOK Try.prog (aget (sums151))) : SumOK Try.prog 151 (s151 (num_MaskF)) := by
  refine SumOK.of_leads tab_ok (fun ar os r ha hr => ?_) ⟨Try.f151, rfl, by decide, rfl⟩
  replace hr : r151 (num_MaskF) ar (conts os) = some r := hr
  unfold r151 at hr
  generalize hc : conts os = C at hr
  replace hr := dV.elim hr; obtain ⟨v0, l1, y0, rfl, e0, hr⟩ := hr; obtain rfl := asI_eq _ _ _ e0
  replace hr := dFin hr; obtain ⟨rfl, rfl, x, h, rfl⟩ := hr
  obtain rfl := kinds_nil hc
  exact ⟨_, rfl, leads151 hS _ x h⟩
def num_Mask : Int → Option Int := num_MaskF
theorem lift151 : SumOK Try.prog 151 (s151 num_Mask) := ok151 (SumsOK.of_tab trivial)
def R01_Mask_s1 (k : Int) (n : Int) (i : Int) : Option (Sum (Int × Int) Int) :=
  cond (decide (i < k))
    (
    cond (decide (k ≤ 64))
      (
      some (.inl (iorI .u64 (wI .u64 (n * 2 ^ 1)) 1, wI .i64 (i + 1))))
      (
      some (.inr (n))))
    (
    some (.inr (n)))
def R01_MaskF (k : Int) : Option Int :=
  iter (fun st => R01_Mask_s1 k st.1 st.2) FUEL (0, 0)
def rx130 (x : Int) : SRes := ⟨.int .u64 x, [], []⟩
def r130 (g : Int → Option Int) : Dec := dV (asI .i64) fun (y0 : Int) => dEnd (ofG (g y0) rx130)
theorem r130_c {g : Int → Option Int} {y0 : Int} {x : Int} (hx : g y0 = some x) : r130 g [.int .i64 y0] [] = some (rx130 x) := (dV_eq (asI_c _)).trans (ofG_eq hx)
def s130 (g : Int → Option Int) : Summ := ⟨[.v], r130 g⟩
theorem r130_eq {g : Int → Option Int} {y0 : Int} {x : Int} (hx : g y0 = some x) : (s130 g).run [.int .i64 y0] [] = some (rx130 x) := r130_c hx
abbrev sums130 : List (Nat × Summ) := []
def head130_1 (k : Int) (n : Int) (i : Int) : VM :=
  ⟨⟨130, 18, [(0, .int .i64 k), (3, .int .u64 n), (4, .int .i64 i)], [.code k130_10, .inLoop k130_10, .inBlock 0, .code k130_15], [], false, none⟩, [], [], 0⟩
theorem loop130_1 (hS : SumsOK Try.prog (aget (sums130))) (k : Int) (res : Int) : ∀ fuel (st : Int × Int) (o : Int), iter (fun st => R01_Mask_s1 k st.1 st.2) fuel st = some o → (o = res) →
    Leads Try.prog 130 0 (head130_1 k st.1 st.2) (fun v H _ => Res 0 (rx130 res) v H) := by
  intro fuel st o h hc
  refine iter_leads (head := fun st => head130_1 k st.1 st.2) (C := fun o => (o = res)) ?_ fuel st o h hc
  clear h hc o st fuel
  intro st o h hc
  obtain ⟨n, i⟩ := st
  replace h : R01_Mask_s1 k n i = some o := h
  show Leads Try.prog 130 0 (head130_1 k n i) (fun v H _ => Res 0 (rx130 res) v H)
  unfold R01_Mask_s1 at h
  refine ev_ok tab_ok hS true 3000 ?_
  conv => whnf
  refine br.h2 h ?_ ?_ ?_
  · rfl
  · clear h; intro hb h; conv => whnf
    all_goals (cases h; cases hc; exact Res.z rfl rfl rfl)
  clear h; intro hb h; conv => whnf
  refine br.h h ?_ ?_ ?_
  · rfl
  · clear h; intro hb h; conv => whnf
    cases h; simp only [Sum.elim_inl, head130_1] at hc
    exact lrA0 hc [] rfl
  clear h; intro hb h; conv => whnf
  all_goals (cases h; cases hc; exact Res.z rfl rfl rfl)
theorem leads130 (hS : SumsOK Try.prog (aget (sums130))) (k : Int) (res : Int) (h : R01_MaskF k = some res) :
    Leads Try.prog 130 0 ⟨⟨130, 18, [(0, .int .i64 k)], [.code k130_18], [], false, none⟩, [], [], 0⟩ (fun v H _ => Res 0 (rx130 res) v H) := by
  unfold R01_MaskF at h
  refine ev_ok tab_ok hS true 3000 ?_
  conv => whnf
  have hl := loop130_1 hS _ res _ _ _ h rfl; simp only [head130_1] at hl
  exact lrA0 hl [] rfl
theorem ok130 (hS : SumsOK Try.prog (aget (sums130))) : SumOK Try.prog 130 (s130 (R01_MaskF)) := by
  refine SumOK.of_leads tab_ok (fun ar os r ha hr => ?_) ⟨Try.f130, rfl, by decide, rfl⟩
  replace hr : r130 (R01_MaskF) ar (conts os) = some r := hr
  unfold r130 at hr
  generalize hc : conts os = C at hr
  replace hr := dV.elim hr; obtain ⟨v0, l1, y0, rfl, e0, hr⟩ := hr; obtain rfl := asI_eq _ _ _ e0
  replace hr := dFin hr; obtain ⟨rfl, rfl, x, h, rfl⟩ := hr
  obtain rfl := kinds_nil hc
  exact ⟨_, rfl, leads130 hS _ x h⟩
def R01_Mask : Int → Option Int := R01_MaskF
theorem lift130 : SumOK Try.prog 130 (s130 R01_Mask) := ok130 (SumsOK.of_tab trivial)
end Go.Vm.Code
namespace Go.Vm.Code
open Go Go.Vm
def adr (a : api_Addr) : Bool := a.V6 || (decide (a.Hi = 0) && decide (a.Lo < 4294967296))
def adB (a : api_Addr) : List UInt8 := cond a.V6 (be a.Hi.toNat 8 ++ be a.Lo.toNat 8) (be a.Lo.toNat 4)
theorem adB_len (a : api_Addr) : (adB a).length ≤ 16 := by unfold adB; cases a.V6 <;> simp
theorem tuRight_eq (a : api_Addr) : addr_Right a = some (adr a) := by
  unfold addr_Right addr_RightF adr
  cases a.V6 with
  | true => rfl
  | false =>
    rw [cond_false, Bool.false_or]
    by_cases h : a.Hi = 0
    · rw [h]; rfl
    · rw [beq_eq_false_iff_ne.2 h, cond_false, decide_eq_false h]; rfl
theorem raRight_eq (a : api_Addr) : R04_Right a = some (adr a) := tuRight_eq a
def inU (a : api_Addr) : Prop := (0 ≤ a.Hi ∧ a.Hi < 2 ^ 64) ∧ 0 ≤ a.Lo ∧ a.Lo < 2 ^ 64
theorem tuPut_eq {a : api_Addr} (h : inU a) (hr : adr a = true) : addr_Put a = some (adB a) := by
  unfold addr_Put addr_PutF adB
  rw [tuRight_eq, Option.bind_some, hr, Bool.not_true, cond_false]
  cases a.V6 with
  | true =>
    rw [cond_true, octet_Put_eq h.1.1, octet_Put_eq h.2.1]
    simp only [Option.bind_some, putS]
    rw [if_pos (by omega), if_pos (by omega), oreq_p (by simp)]; rfl
  | false =>
    rw [cond_false, octet_Put_eq h.2.1]
    simp only [Option.bind_some, putS]
    rw [if_pos (by omega)]; rfl
theorem raPut_eq {a : api_Addr} (h : inU a) (hr : adr a = true) : R04_Put a = some (adB a) := by
  unfold R04_Put R04_PutF adB
  rw [raRight_eq, Option.bind_some, hr, Bool.not_true, cond_false]
  cases a.V6 with
  | true =>
    rw [cond_true, R02_Put_eq h.1.1 h.1.2, R02_Put_eq h.2.1 h.2.2]
    simp only [Option.bind_some, putS]
    rw [if_pos (by omega), if_pos (by omega), oreq_p (by simp)]; rfl
  | false =>
    rw [cond_false, R02_Put_eq h.2.1 h.2.2]
    simp only [Option.bind_some, putS]
    rw [if_pos (by omega)]; rfl
def tupR (t : api_Tuple) : Bool := decide (0 ≤ t.Proto ∧ t.Proto ≤ 255) && (decide (0 ≤ t.SPort ∧ t.SPort ≤ 65535) && (decide (0 ≤ t.DPort ∧ t.DPort ≤ 65535) && (adr t.Src && (adr t.Dst && (t.Src.V6 == t.Dst.V6)))))
def tupB (t : api_Tuple) : List UInt8 := be (cond t.Src.V6 6 4) 1 ++ be t.Proto.toNat 1 ++ adB t.Src ++ adB t.Dst ++ be t.SPort.toNat 2 ++ be t.DPort.toNat 2
def tupS (t : api_Tuple) : List UInt8 := cond (tupR t) (tupB t) []
theorem tuWithin_eq {m : Int} {l : List Int} (hl : l.length < 2 ^ 40) : tuple_within m l = some (l.all fun e => decide (0 ≤ e ∧ e ≤ m)) := by
  unfold tuple_within tuple_withinF
  have key := iter_eq (step := fun (st : Int) => tuple_within_s1 m l st) (fun st => (l.drop st.toNat).all fun e => decide (0 ≤ e ∧ e ≤ m)) (fun st => 0 ≤ st ∧ st ≤ l.length) (fun st => (l.length - st).toNat) ?_ FUEL 0 ⟨by omega, by omega⟩ (by rw [FUEL_eq]; omega)
  · rw [key]; simp
  rintro p ⟨g1, g2⟩
  obtain ⟨i, rfl⟩ := Int.eq_ofNat_of_zero_le g1
  simp only [Int.toNat_natCast]
  unfold tuple_within_s1
  by_cases hi : i < l.length
  · have e1 : ((l.drop i).all fun e => decide (0 ≤ e ∧ e ≤ m)) = (decide (0 ≤ l[i] ∧ l[i] ≤ m) && (l.drop (i + 1)).all fun e => decide (0 ≤ e ∧ e ≤ m)) := by rw [List.drop_eq_getElem_cons hi]; rfl
    by_cases h1 : l[i] < 0
    · refine .inl ?_
      simp (disch := omega) only [cond_p, oreq_p, Int.toNat_natCast, List.getElem?_eq_getElem, Option.bind_some]
      rw [e1, decide_eq_false (by omega)]; rfl
    · by_cases h2 : l[i] > m
      · refine .inl ?_
        simp (disch := omega) only [cond_p, cond_n, oreq_p, Int.toNat_natCast, List.getElem?_eq_getElem, Option.bind_some]
        rw [e1, decide_eq_false (by omega)]; rfl
      · refine .inr ⟨((i + 1 : Nat) : Int), ?_, ⟨by omega, by omega⟩, by omega, ?_⟩
        · simp (disch := omega) only [cond_p, cond_n, oreq_p, Int.toNat_natCast, List.getElem?_eq_getElem, Option.bind_some, wI64]; rfl
        · simp only [Int.toNat_natCast]
          rw [e1, decide_eq_true (by omega), Bool.true_and]
  · refine .inl ?_
    rw [cond_n (by omega), List.drop_eq_nil_of_le (by omega)]; rfl
theorem tRight_eq (t : api_Tuple) : tuple_Right t = some (tupR t) := by
  unfold tuple_Right tuple_RightF tupR
  rw [tuWithin_eq (by simp), tuWithin_eq (by simp), tuRight_eq, tuRight_eq]
  simp only [Option.bind_some, List.all_cons, List.all_nil, Bool.and_true]
  generalize decide (0 ≤ t.Proto ∧ t.Proto ≤ 255) = a
  generalize decide (0 ≤ t.SPort ∧ t.SPort ≤ 65535) = b
  generalize decide (0 ≤ t.DPort ∧ t.DPort ≤ 65535) = c
  generalize adr t.Src = d
  generalize adr t.Dst = e
  cases a <;> cases b <;> cases c <;> cases d <;> cases e <;> rfl
theorem tuIn13_eq (n m : Int) : R13_in n m = some (decide (0 ≤ n ∧ n ≤ m)) := by
  unfold R13_in R13_inF
  by_cases h : n ≥ 0
  · rw [cond_p h]; congr 1; rw [Bool.eq_iff_iff, decide_eq_true_eq, decide_eq_true_eq]; omega
  · rw [cond_n h]; congr 1; symm; exact decide_eq_false (by omega)
theorem rtRight_eq (t : api_Tuple) : R13_Right t = some (tupR t) := by
  unfold R13_Right R13_RightF tupR
  rw [tuIn13_eq, tuIn13_eq, tuIn13_eq, raRight_eq, raRight_eq]
  simp only [Option.bind_some]
  generalize decide (0 ≤ t.Proto ∧ t.Proto ≤ 255) = a
  generalize decide (0 ≤ t.SPort ∧ t.SPort ≤ 65535) = b
  generalize decide (0 ≤ t.DPort ∧ t.DPort ≤ 65535) = c
  generalize adr t.Src = d
  generalize adr t.Dst = e
  generalize (t.Src.V6 == t.Dst.V6) = f
  cases a <;> cases b <;> cases c <;> cases d <;> cases e <;> cases f <;> rfl
theorem tupR_iff {t : api_Tuple} (h : tupR t = true) : (0 ≤ t.Proto ∧ t.Proto ≤ 255) ∧ (0 ≤ t.SPort ∧ t.SPort ≤ 65535) ∧ (0 ≤ t.DPort ∧ t.DPort ≤ 65535) ∧ adr t.Src = true ∧ adr t.Dst = true := by
  unfold tupR at h
  simp only [Bool.and_eq_true, decide_eq_true_eq] at h
  exact ⟨h.1, h.2.1, h.2.2.1, h.2.2.2.1, h.2.2.2.2.1⟩
theorem tPut_eq {t : api_Tuple} (hs : inU t.Src) (hd : inU t.Dst) : tuple_Put t = some (tupS t) := by
  unfold tuple_Put tuple_PutF tupS
  rw [tRight_eq, Option.bind_some]
  cases hr : tupR t with
  | false => rfl
  | true =>
    obtain ⟨⟨a1, a2⟩, ⟨b1, b2⟩, ⟨c1, c2⟩, d, e⟩ := tupR_iff hr
    have ls := adB_len t.Src
    have ld := adB_len t.Dst
    rw [Bool.not_true, cond_false, cond_true, tuPut_eq hs d, tuPut_eq hd e]
    have ek : tuple_kind t.Src.V6 = some ((cond t.Src.V6 6 4 : Nat) : Int) := by cases t.Src.V6 <;> rfl
    have k1 : (cond t.Src.V6 6 4 : Nat) ≤ 6 := by cases t.Src.V6 <;> decide
    unfold tupB
    rw [ek]
    generalize (cond t.Src.V6 6 4 : Nat) = k at *
    simp only [Option.bind_some]
    obtain ⟨P, hP⟩ := Int.eq_ofNat_of_zero_le a1
    obtain ⟨S, hS⟩ := Int.eq_ofNat_of_zero_le b1
    obtain ⟨D, hD⟩ := Int.eq_ofNat_of_zero_le c1
    rw [hP] at a2 ⊢; rw [hS] at b2 ⊢; rw [hD] at c2 ⊢
    have e1 : wI .u64 (iorI .i64 (wI .i64 ((k : Int) * 2 ^ 8)) (P : Int)) = ((k * 256 + P : Nat) : Int) := by
      rw [wI64 (n := (k : Int) * 2 ^ 8) (by omega) (by omega), iorI64_low 8 (by omega) (by omega) (by omega) (by omega) (by omega), wU64 (by omega) (by omega)]; omega
    have e2 : iorI .u64 (wI .u64 ((wI .u64 (S : Int)) * 2 ^ 16)) (wI .u64 (D : Int)) = ((S * 65536 + D : Nat) : Int) := by
      rw [wU64 (n := (S : Int)) (by omega) (by omega), wU64 (n := (D : Int)) (by omega) (by omega), wU64 (n := (S : Int) * 2 ^ 16) (by omega) (by omega), iorU64_low 16 (by omega) (by omega) (by omega) (by omega) (by omega)]; omega
    rw [e1, e2, octet_Put_eq (by omega), octet_Put_eq (by omega)]
    simp only [Option.bind_some, putS]
    rw [if_pos (by omega), if_pos (by omega)]
    have f1 : be (k * 256 + P) 2 = be k 1 ++ be P 1 := by
      refine be_of (by simp) ?_
      rw [val_append, val_be, val_be]; simp only [be_len]; omega
    have f2 : be (S * 65536 + D) 4 = be S 2 ++ be D 2 := by
      refine be_of (by simp) ?_
      rw [val_append, val_be, val_be]; simp only [be_len]; omega
    simp only [Int.toNat_natCast, show (2 : Int).toNat = 2 from rfl, show (4 : Int).toNat = 4 from rfl, f1, f2]
    rw [oreq_p (by simp; omega), oreq_p (by simp; omega), oreq_p (by simp; omega)]
    simp
theorem rtPut_eq {t : api_Tuple} (hs : inU t.Src) (hd : inU t.Dst) : R13_Put t = some (tupS t) := by
  unfold R13_Put R13_PutF tupS
  rw [rtRight_eq, Option.bind_some]
  cases hr : tupR t with
  | false => rfl
  | true =>
    obtain ⟨⟨a1, a2⟩, ⟨b1, b2⟩, ⟨c1, c2⟩, d, e⟩ := tupR_iff hr
    have ls := adB_len t.Src
    have ld := adB_len t.Dst
    rw [Bool.not_true, cond_false, cond_true, raPut_eq hs d, raPut_eq hd e]
    unfold tupB
    rw [wU64 (n := t.Proto) (by omega) (by omega), wU64 (n := t.SPort) (by omega) (by omega), wU64 (n := t.DPort) (by omega) (by omega)]
    simp (disch := omega) only [R02_Put_eq, Option.bind_some, putS]
    simp only [show (1 : Int) ≤ 1 ∧ (1 : Int) ≤ 8 from by omega, show (1 : Int) ≤ 2 ∧ (2 : Int) ≤ 8 from by omega, and_self, if_true, show (1 : Int).toNat = 1 from rfl, show (2 : Int).toNat = 2 from rfl, show (6 : Int).toNat = 6 from rfl, show (4 : Int).toNat = 4 from rfl]
    cases t.Src.V6
    · rw [cond_false, oreq_p (by simp), oreq_p (by simp; omega), oreq_p (by simp; omega), oreq_p (by simp; omega), oreq_p (by simp; omega)]; rfl
    · rw [cond_true, oreq_p (by simp), oreq_p (by simp; omega), oreq_p (by simp; omega), oreq_p (by simp; omega), oreq_p (by simp; omega)]; rfl
theorem tupS_len (t : api_Tuple) : (tupS t).length ≤ 40 := by
  have ls := adB_len t.Src
  have ld := adB_len t.Dst
  unfold tupS tupB
  cases tupR t <;> simp <;> omega
def mskI (k : Int) : Int := if 0 ≤ k ∧ k ≤ 64 then 2 ^ k.toNat - 1 else 0
theorem mask65 : ∀ k : Fin 65, cmplI .u64 (wI .u64 (18446744073709551615 * 2 ^ (min k.val 64))) = 2 ^ k.val - 1 := by decide +kernel
theorem Mask_eq (k : Int) : num_Mask k = some (mskI k) := by
  unfold num_Mask num_MaskF mskI
  by_cases h1 : k < 0
  · rw [cond_p h1, if_neg (by omega)]
  rw [cond_n h1]
  by_cases h2 : k > 64
  · rw [cond_p h2, if_neg (by omega)]
  rw [cond_n h2, oreq_p (by omega), if_pos (by omega)]
  have := mask65 ⟨k.toNat, by omega⟩
  simp only at this ⊢
  rw [this]
theorem pow64 {i : Nat} (h : i ≤ 64) : (2 : Int) ^ i ≤ 18446744073709551616 ∧ (1 : Int) ≤ 2 ^ i := by
  have a : (2 : Nat) ^ i ≤ 2 ^ 64 := Nat.pow_le_pow_right (by decide) h
  have b : 1 ≤ (2 : Nat) ^ i := Nat.one_le_two_pow
  have e : ((2 : Int) ^ i) = ((2 ^ i : Nat) : Int) := by push_cast; rfl
  rw [e]; omega
theorem rMask_eq (k : Int) : R01_Mask k = some (mskI k) := by
  unfold R01_Mask R01_MaskF mskI
  by_cases h1 : 0 ≤ k ∧ k ≤ 64
  · rw [if_pos h1]
    obtain ⟨j, rfl⟩ := Int.eq_ofNat_of_zero_le h1.1
    rw [Int.toNat_natCast]
    refine iter_eq (step := fun (st : Int × Int) => R01_Mask_s1 (j : Int) st.1 st.2) (fun _ => (2 : Int) ^ j - 1) (fun st => ∃ i : Nat, st.2 = i ∧ i ≤ j ∧ st.1 = 2 ^ i - 1) (fun st => (j - st.2).toNat) ?_ FUEL (0, 0) ⟨0, rfl, by omega, by simp⟩ (by rw [FUEL_eq]; simp only; omega)
    rintro ⟨n, p⟩ ⟨i, g1, g2, g3⟩
    simp only at g1 g3 ⊢
    subst g1 g3
    unfold R01_Mask_s1
    by_cases hi : i < j
    · refine .inr ⟨((2 : Int) ^ (i + 1) - 1, ((i + 1 : Nat) : Int)), ?_, ⟨i + 1, rfl, by omega, rfl⟩, by simp only; omega, trivial⟩
      have a := pow64 (i := i + 1) (by omega)
      have b := pow64 (i := i) (by omega)
      have e : (2 : Int) ^ (i + 1) = 2 ^ i * 2 := Int.pow_succ _ _
      rw [e] at a ⊢
      generalize (2 : Int) ^ i = x at *
      rw [cond_p (by omega), cond_p (by omega), wI64 (by omega) (by omega), wU64 (n := (x - 1) * 2 ^ 1) (by omega) (by omega), iorU64_low 1 (by omega) (by omega) (by omega) (by omega) (by omega)]
      congr 3
      omega
    · refine .inl ?_
      obtain rfl : i = j := by omega
      rw [cond_n (by omega)]
  · rw [if_neg h1]
    show iter _ (18446744073709551615 + 1) _ = _
    rw [iter]
    have : R01_Mask_s1 k 0 0 = some (.inr 0) := by
      unfold R01_Mask_s1
      by_cases h2 : 0 < k
      · rw [cond_p h2, cond_n (by omega)]
      · rw [cond_n h2]
    simp only [this]
end Go.Vm.Code
namespace Go.Vm.Code
open Go Go.Vm Go.Proofs
set_option maxRecDepth 100000
set_option maxHeartbeats 4000000
set_option linter.unusedVariables false
def R12_turnF (n : Int) (k : Int) : Option Int :=
  oreq (decide (0 ≤ k)) <|
  oreq (decide (0 ≤ (wI .i64 (64 - k)))) <|
  let t := n.fdiv (2 ^ (min (wI .i64 (64 - k)).toNat 64))
  let t1 := iorI .u64 (wI .u64 (n * 2 ^ (min k.toNat 64))) t
  some (t1)
def rx149 (x : Int) : SRes := ⟨.int .u64 x, [], []⟩
def r149 (g : Int → Int → Option Int) : Dec := dV (asI .u64) fun (y0 : Int) => dV (asI .i64) fun (y1 : Int) => dEnd (ofG (g y0 y1) rx149)
theorem r149_c {g : Int → Int → Option Int} {y0 : Int} {y1 : Int} {x : Int} (hx : g y0 y1 = some x) : r149 g [.int .u64 y0, .int .i64 y1] [] = some (rx149 x) := (dV_eq (asI_c _)).trans ((dV_eq (asI_c _)).trans (ofG_eq hx))
def s149 (g : Int → Int → Option Int) : Summ := ⟨[.v, .v], r149 g⟩
theorem r149_eq {g : Int → Int → Option Int} {y0 : Int} {y1 : Int} {x : Int} (hx : g y0 y1 = some x) : (s149 g).run [.int .u64 y0, .int .i64 y1] [] = some (rx149 x) := r149_c hx
abbrev sums149 : List (Nat × Summ) := []
theorem leads149 (hS : SumsOK Try.prog (aget (sums149))) (n : Int) (k : Int) (res : Int) (h : R12_turnF n k = some res) :
    Leads Try.prog 149 0 ⟨⟨149, 13, [(0, .int .u64 n), (1, .int .i64 k)], [.code k149_3], [], false, none⟩, [], [], 0⟩ (fun v H _ => Res 0 (rx149 res) v H) := by
  unfold R12_turnF at h
  refine ev_ok tab_ok hS true 3000 ?_
  conv => whnf
  replace h := oreq.elim h; obtain ⟨hb, h⟩ := h
  first | (refine req.intro hb ?_; conv => whnf) | skip
  replace h := oreq.elim h; obtain ⟨hb, h⟩ := h
  first | (refine req.intro hb ?_; conv => whnf) | skip
  let t : Int := n.fdiv (2 ^ (min (wI .i64 (64 - k)).toNat 64))
  let t1 : Int := iorI .u64 (wI .u64 (n * 2 ^ (min k.toNat 64))) t
  all_goals (cases h; exact Res.z rfl rfl rfl)
theorem ok149 (hS : SumsOK Try.prog (aget (sums149))) : SumOK Try.prog 149 (s149 (R12_turnF)) := by
  refine SumOK.of_leads tab_ok (fun ar os r ha hr => ?_) ⟨Try.f149, rfl, by decide, rfl⟩
  replace hr : r149 (R12_turnF) ar (conts os) = some r := hr
  unfold r149 at hr
  generalize hc : conts os = C at hr
  replace hr := dV.elim hr; obtain ⟨v0, l1, y0, rfl, e0, hr⟩ := hr; obtain rfl := asI_eq _ _ _ e0
  replace hr := dV.elim hr; obtain ⟨v1, l2, y1, rfl, e1, hr⟩ := hr; obtain rfl := asI_eq _ _ _ e1
  replace hr := dFin hr; obtain ⟨rfl, rfl, x, h, rfl⟩ := hr
  obtain rfl := kinds_nil hc
  exact ⟨_, rfl, leads149 hS _ _ x h⟩
def R12_turn : Int → Int → Option Int := R12_turnF
theorem lift149 : SumOK Try.prog 149 (s149 R12_turn) := ok149 (SumsOK.of_tab trivial)
def R12_RoundF (R12_turn : Int → Int → Option Int) (a : Int) (b : Int) (c : Int) (d : Int) : Option (Int × Int × Int × Int) :=
  (R12_turn b 13).bind fun t =>
  (R12_turn (wI .u64 (a + b)) 32).bind fun t1 =>
  (R12_turn d 16).bind fun t2 =>
  let t3 := wI .u64 (t1 + (ixorI .u64 t2 (wI .u64 (c + d))))
  (R12_turn (ixorI .u64 t2 (wI .u64 (c + d))) 21).bind fun t4 =>
  let t5 := wI .u64 ((wI .u64 (c + d)) + (ixorI .u64 t (wI .u64 (a + b))))
  (R12_turn (ixorI .u64 t (wI .u64 (a + b))) 17).bind fun t6 =>
  (R12_turn t5 32).bind fun t7 =>
  some ((t3, ixorI .u64 t6 t5, t7, ixorI .u64 t4 t3))
def rx136 (x : Int × Int × Int × Int) : SRes := ⟨.tuple ⟨[.int .u64 x.1, .int .u64 x.2.1, .int .u64 x.2.2.1, .int .u64 x.2.2.2]⟩, [], []⟩
def r136 (g : Int → Int → Int → Int → Option (Int × Int × Int × Int)) : Dec := dV (asI .u64) fun (y0 : Int) => dV (asI .u64) fun (y1 : Int) => dV (asI .u64) fun (y2 : Int) => dV (asI .u64) fun (y3 : Int) => dEnd (ofG (g y0 y1 y2 y3) rx136)
theorem r136_c {g : Int → Int → Int → Int → Option (Int × Int × Int × Int)} {y0 : Int} {y1 : Int} {y2 : Int} {y3 : Int} {x : Int × Int × Int × Int} (hx : g y0 y1 y2 y3 = some x) : r136 g [.int .u64 y0, .int .u64 y1, .int .u64 y2, .int .u64 y3] [] = some (rx136 x) := (dV_eq (asI_c _)).trans ((dV_eq (asI_c _)).trans ((dV_eq (asI_c _)).trans ((dV_eq (asI_c _)).trans (ofG_eq hx))))
def s136 (g : Int → Int → Int → Int → Option (Int × Int × Int × Int)) : Summ := ⟨[.v, .v, .v, .v], r136 g⟩
theorem r136_eq {g : Int → Int → Int → Int → Option (Int × Int × Int × Int)} {y0 : Int} {y1 : Int} {y2 : Int} {y3 : Int} {x : Int × Int × Int × Int} (hx : g y0 y1 y2 y3 = some x) : (s136 g).run [.int .u64 y0, .int .u64 y1, .int .u64 y2, .int .u64 y3] [] = some (rx136 x) := r136_c hx
abbrev sums136 (R12_turn : Int → Int → Option Int) : List (Nat × Summ) := [(149, s149 R12_turn)]
theorem leads136 (R12_turn : Int → Int → Option Int) (hS : SumsOK Try.prog (aget (sums136 R12_turn))) (a : Int) (b : Int) (c : Int) (d : Int) (res : Int × Int × Int × Int) (h : R12_RoundF R12_turn a b c d = some res) :
    Leads Try.prog 136 0 ⟨⟨136, 48, [(0, .int .u64 a), (1, .int .u64 b), (2, .int .u64 c), (3, .int .u64 d)], [.code k136_23], [], false, none⟩, [], [], 0⟩ (fun v H _ => Res 0 (rx136 res) v H) := by
  unfold R12_RoundF at h
  refine ev_ok tab_ok hS true 3000 ?_
  conv => whnf
  replace h := obind.elim h; obtain ⟨t, hy, h⟩ := h
  refine sumK.q rfl rfl (r149_eq hy) rfl rfl rfl ?_
  conv => whnf
  replace h := obind.elim h; obtain ⟨t1, hy, h⟩ := h
  refine sumK.q rfl rfl (r149_eq hy) rfl rfl rfl ?_
  conv => whnf
  replace h := obind.elim h; obtain ⟨t2, hy, h⟩ := h
  refine sumK.q rfl rfl (r149_eq hy) rfl rfl rfl ?_
  conv => whnf
  let t3 : Int := wI .u64 (t1 + (ixorI .u64 t2 (wI .u64 (c + d))))
  replace h := obind.elim h; obtain ⟨t4, hy, h⟩ := h
  refine sumK.q rfl rfl (r149_eq hy) rfl rfl rfl ?_
  conv => whnf
  let t5 : Int := wI .u64 ((wI .u64 (c + d)) + (ixorI .u64 t (wI .u64 (a + b))))
  replace h := obind.elim h; obtain ⟨t6, hy, h⟩ := h
  refine sumK.q rfl rfl (r149_eq hy) rfl rfl rfl ?_
  conv => whnf
  replace h := obind.elim h; obtain ⟨t7, hy, h⟩ := h
  refine sumK.q rfl rfl (r149_eq hy) rfl rfl rfl ?_
  conv => whnf
  all_goals (cases h; exact Res.z rfl rfl rfl)
theorem ok136 (R12_turn : Int → Int → Option Int) (hS : SumsOK Try.prog (aget (sums136 R12_turn))) : SumOK Try.prog 136 (s136 (R12_RoundF R12_turn)) := by
  refine SumOK.of_leads tab_ok (fun ar os r ha hr => ?_) ⟨Try.f136, rfl, by decide, rfl⟩
  replace hr : r136 (R12_RoundF R12_turn) ar (conts os) = some r := hr
  unfold r136 at hr
  generalize hc : conts os = C at hr
  replace hr := dV.elim hr; obtain ⟨v0, l1, y0, rfl, e0, hr⟩ := hr; obtain rfl := asI_eq _ _ _ e0
  replace hr := dV.elim hr; obtain ⟨v1, l2, y1, rfl, e1, hr⟩ := hr; obtain rfl := asI_eq _ _ _ e1
  replace hr := dV.elim hr; obtain ⟨v2, l3, y2, rfl, e2, hr⟩ := hr; obtain rfl := asI_eq _ _ _ e2
  replace hr := dV.elim hr; obtain ⟨v3, l4, y3, rfl, e3, hr⟩ := hr; obtain rfl := asI_eq _ _ _ e3
  replace hr := dFin hr; obtain ⟨rfl, rfl, x, h, rfl⟩ := hr
  obtain rfl := kinds_nil hc
  exact ⟨_, rfl, leads136 R12_turn hS _ _ _ _ x h⟩
def R12_Round : Int → Int → Int → Int → Option (Int × Int × Int × Int) := R12_RoundF R12_turn
theorem lift136 : SumOK Try.prog 136 (s136 R12_Round) := ok136 R12_turn (SumsOK.of_tab ⟨lift149, trivial⟩)
def R12_Mix_s1 (R12_Round : Int → Int → Int → Int → Option (Int × Int × Int × Int)) (rounds : Int) (a1 : Int) (b1 : Int) (c1 : Int) (d1 : Int) (i : Int) : Option (Sum (Int × Int × Int × Int × Int) Arr4_Int) :=
  cond (decide (i < rounds))
    (
    cond (decide (i < 64))
      (
      (R12_Round a1 b1 c1 d1).bind fun xr =>
      some (.inl (xr.1, xr.2.1, xr.2.2.1, xr.2.2.2, wI .i64 (i + 1))))
      (
      some (.inr (Arr4_Int.mk a1 b1 c1 d1))))
    (
    some (.inr (Arr4_Int.mk a1 b1 c1 d1)))
def R12_MixF (R12_Round : Int → Int → Int → Int → Option (Int × Int × Int × Int)) (a : Int) (b : Int) (c : Int) (d : Int) (rounds : Int) : Option Arr4_Int :=
  iter (fun st => R12_Mix_s1 R12_Round rounds st.1 st.2.1 st.2.2.1 st.2.2.2.1 st.2.2.2.2) FUEL (a, b, c, d, 0)
def rx137 (x : Arr4_Int) : SRes := ⟨.agg ⟨[.int .u64 x.e0, .int .u64 x.e1, .int .u64 x.e2, .int .u64 x.e3]⟩, [], []⟩
def r137 (g : Int → Int → Int → Int → Int → Option Arr4_Int) : Dec := dV (asI .u64) fun (y0 : Int) => dV (asI .u64) fun (y1 : Int) => dV (asI .u64) fun (y2 : Int) => dV (asI .u64) fun (y3 : Int) => dV (asI .i64) fun (y4 : Int) => dEnd (ofG (g y0 y1 y2 y3 y4) rx137)
theorem r137_c {g : Int → Int → Int → Int → Int → Option Arr4_Int} {y0 : Int} {y1 : Int} {y2 : Int} {y3 : Int} {y4 : Int} {x : Arr4_Int} (hx : g y0 y1 y2 y3 y4 = some x) : r137 g [.int .u64 y0, .int .u64 y1, .int .u64 y2, .int .u64 y3, .int .i64 y4] [] = some (rx137 x) := (dV_eq (asI_c _)).trans ((dV_eq (asI_c _)).trans ((dV_eq (asI_c _)).trans ((dV_eq (asI_c _)).trans ((dV_eq (asI_c _)).trans (ofG_eq hx)))))
def s137 (g : Int → Int → Int → Int → Int → Option Arr4_Int) : Summ := ⟨[.v, .v, .v, .v, .v], r137 g⟩
theorem r137_eq {g : Int → Int → Int → Int → Int → Option Arr4_Int} {y0 : Int} {y1 : Int} {y2 : Int} {y3 : Int} {y4 : Int} {x : Arr4_Int} (hx : g y0 y1 y2 y3 y4 = some x) : (s137 g).run [.int .u64 y0, .int .u64 y1, .int .u64 y2, .int .u64 y3, .int .i64 y4] [] = some (rx137 x) := r137_c hx
abbrev sums137 (R12_Round : Int → Int → Int → Int → Option (Int × Int × Int × Int)) : List (Nat × Summ) := [(136, s136 R12_Round)]
def head137_1 (rounds : Int) (a1 : Int) (b1 : Int) (c1 : Int) (d1 : Int) (i : Int) : VM :=
  ⟨⟨137, 36, [(0, .int .u64 a1), (1, .int .u64 b1), (2, .int .u64 c1), (3, .int .u64 d1), (4, .int .i64 rounds), (10, .pointer (some ⟨0, 0, none⟩)), (11, .int .i64 i)], [.code k137_9, .inLoop k137_9, .inBlock 0, .code k137_14], [], false, none⟩, [], [(0, .cells [.int .u64 0, .int .u64 0, .int .u64 0, .int .u64 0])], 1⟩
theorem loop137_1 (R12_Round : Int → Int → Int → Int → Option (Int × Int × Int × Int)) (hS : SumsOK Try.prog (aget (sums137 R12_Round))) (rounds : Int) (res : Arr4_Int) : ∀ fuel (st : Int × Int × Int × Int × Int) (o : Arr4_Int), iter (fun st => R12_Mix_s1 R12_Round rounds st.1 st.2.1 st.2.2.1 st.2.2.2.1 st.2.2.2.2) fuel st = some o → (o = res) →
    Leads Try.prog 137 0 (head137_1 rounds st.1 st.2.1 st.2.2.1 st.2.2.2.1 st.2.2.2.2) (fun v H _ => Res 0 (rx137 res) v H) := by
  intro fuel st o h hc
  refine iter_leads (head := fun st => head137_1 rounds st.1 st.2.1 st.2.2.1 st.2.2.2.1 st.2.2.2.2) (C := fun o => (o = res)) ?_ fuel st o h hc
  clear h hc o st fuel
  intro st o h hc
  obtain ⟨a1, b1, c1, d1, i⟩ := st
  replace h : R12_Mix_s1 R12_Round rounds a1 b1 c1 d1 i = some o := h
  show Leads Try.prog 137 0 (head137_1 rounds a1 b1 c1 d1 i) (fun v H _ => Res 0 (rx137 res) v H)
  unfold R12_Mix_s1 at h
  refine ev_ok tab_ok hS true 3000 ?_
  conv => whnf
  refine br.h2 h ?_ ?_ ?_
  · rfl
  · clear h; intro hb h; conv => whnf
    all_goals (cases h; cases hc; exact Res.z rfl rfl rfl)
  clear h; intro hb h; conv => whnf
  refine br.h2 h ?_ ?_ ?_
  · rfl
  · clear h; intro hb h; conv => whnf
    all_goals (cases h; cases hc; exact Res.z rfl rfl rfl)
  clear h; intro hb h; conv => whnf
  replace h := obind.elim h; obtain ⟨xr, hy, h⟩ := h
  refine sumK.q rfl rfl (r136_eq hy) rfl rfl rfl ?_
  conv => whnf
  cases h; simp only [Sum.elim_inl, head137_1] at hc
  exact lrA0 hc [(0, 0)] rfl
theorem leads137 (R12_Round : Int → Int → Int → Int → Option (Int × Int × Int × Int)) (hS : SumsOK Try.prog (aget (sums137 R12_Round))) (a : Int) (b : Int) (c : Int) (d : Int) (rounds : Int) (res : Arr4_Int) (h : R12_MixF R12_Round a b c d rounds = some res) :
    Leads Try.prog 137 0 ⟨⟨137, 36, [(0, .int .u64 a), (1, .int .u64 b), (2, .int .u64 c), (3, .int .u64 d), (4, .int .i64 rounds)], [.code k137_16], [], false, none⟩, [], [], 0⟩ (fun v H _ => Res 0 (rx137 res) v H) := by
  unfold R12_MixF at h
  refine ev_ok tab_ok hS true 3000 ?_
  conv => whnf
  have hl := loop137_1 R12_Round hS _ res _ _ _ h rfl; simp only [head137_1] at hl
  exact lrA0 hl [(0, 0)] rfl
theorem ok137 (R12_Round : Int → Int → Int → Int → Option (Int × Int × Int × Int)) (hS : SumsOK Try.prog (aget (sums137 R12_Round))) : SumOK Try.prog 137 (s137 (R12_MixF R12_Round)) := by
  refine SumOK.of_leads tab_ok (fun ar os r ha hr => ?_) ⟨Try.f137, rfl, by decide, rfl⟩
  replace hr : r137 (R12_MixF R12_Round) ar (conts os) = some r := hr
  unfold r137 at hr
  generalize hc : conts os = C at hr
  replace hr := dV.elim hr; obtain ⟨v0, l1, y0, rfl, e0, hr⟩ := hr; obtain rfl := asI_eq _ _ _ e0
  replace hr := dV.elim hr; obtain ⟨v1, l2, y1, rfl, e1, hr⟩ := hr; obtain rfl := asI_eq _ _ _ e1
  replace hr := dV.elim hr; obtain ⟨v2, l3, y2, rfl, e2, hr⟩ := hr; obtain rfl := asI_eq _ _ _ e2
  replace hr := dV.elim hr; obtain ⟨v3, l4, y3, rfl, e3, hr⟩ := hr; obtain rfl := asI_eq _ _ _ e3
  replace hr := dV.elim hr; obtain ⟨v4, l5, y4, rfl, e4, hr⟩ := hr; obtain rfl := asI_eq _ _ _ e4
  replace hr := dFin hr; obtain ⟨rfl, rfl, x, h, rfl⟩ := hr
  obtain rfl := kinds_nil hc
  exact ⟨_, rfl, leads137 R12_Round hS _ _ _ _ _ x h⟩
def R12_Mix : Int → Int → Int → Int → Int → Option Arr4_Int := R12_MixF R12_Round
theorem lift137 : SumOK Try.prog 137 (s137 R12_Mix) := ok137 R12_Round (SumsOK.of_tab ⟨lift136, trivial⟩)
def sip_NewF (k : api_Key) : Option sip_Hasher :=
  some (sip_Hasher.mk true (Arr4_Int.mk (ixorI .u64 8317987319222330741 k.A) (ixorI .u64 7237128888997146477 k.B) (ixorI .u64 7816392313619706465 k.A) (ixorI .u64 8387220255154660723 k.B)) 0 0)
def rx132 (x : sip_Hasher) : SRes := ⟨.pointer (some ⟨0, 0, none⟩), [[.bool x.made, .int .u64 x.s.e0, .int .u64 x.s.e1, .int .u64 x.s.e2, .int .u64 x.s.e3, .int .u64 x.last, .int .i64 x.count]], []⟩
def r132 (g : api_Key → Option sip_Hasher) : Dec := dV uvapi_Key fun (y0 : api_Key) => dEnd (ofG (g y0) rx132)
theorem r132_c {g : api_Key → Option sip_Hasher} {y0 : api_Key} {x : sip_Hasher} (hx : g y0 = some x) : r132 g [.agg ⟨[.int .u64 y0.A, .int .u64 y0.B]⟩] [] = some (rx132 x) := (dV_eq (uvapi_Key_c _)).trans (ofG_eq hx)
def s132 (g : api_Key → Option sip_Hasher) : Summ := ⟨[.v], r132 g⟩
theorem r132_eq {g : api_Key → Option sip_Hasher} {y0 : api_Key} {x : sip_Hasher} (hx : g y0 = some x) : (s132 g).run [.agg ⟨[.int .u64 y0.A, .int .u64 y0.B]⟩] [] = some (rx132 x) := r132_c hx
abbrev sums132 : List (Nat × Summ) := []
theorem leads132 (hS : SumsOK Try.prog (aget (sums132))) (k : api_Key) (res : sip_Hasher) (h : sip_NewF k = some res) :
    Leads Try.prog 132 0 ⟨⟨132, 18, [(0, .agg ⟨[.int .u64 k.A, .int .u64 k.B]⟩)], [.code k132_3], [], false, none⟩, [], [], 0⟩ (fun v H _ => Res 0 (rx132 res) v H) := by
  unfold sip_NewF at h
  refine ev_ok tab_ok hS true 3000 ?_
  conv => whnf
  all_goals (cases h)
  all_goals exact Res.of [1] rfl (nw_s (rfl) (hs_cells rfl) nw_0) (by decide) (js_l (by decide) js_0) wr_0
theorem ok132 (hS : SumsOK Try.prog (aget (sums132))) : SumOK Try.prog 132 (s132 (sip_NewF)) := by
  refine SumOK.of_leads tab_ok (fun ar os r ha hr => ?_) ⟨Try.f132, rfl, by decide, rfl⟩
  replace hr : r132 (sip_NewF) ar (conts os) = some r := hr
  unfold r132 at hr
  generalize hc : conts os = C at hr
  replace hr := dV.elim hr; obtain ⟨v0, l1, y0, rfl, e0, hr⟩ := hr; obtain rfl := uvapi_Key_eq _ _ e0
  replace hr := dFin hr; obtain ⟨rfl, rfl, x, h, rfl⟩ := hr
  obtain rfl := kinds_nil hc
  exact ⟨_, rfl, leads132 hS _ x h⟩
def sip_New : api_Key → Option sip_Hasher := sip_NewF
theorem lift132 : SumOK Try.prog 132 (s132 sip_New) := ok132 (SumsOK.of_tab trivial)
def math_bits_RotateLeft64F (x : Int) (k : Int) : Option Int :=
  oreq (decide (0 ≤ (andI .u64 (wI .u64 k) 63))) <|
  let t := wI .u64 (x * 2 ^ (min (andI .u64 (wI .u64 k) 63).toNat 64))
  let t1 := wI .u64 (64 - (andI .u64 (wI .u64 k) 63))
  oreq (decide (0 ≤ t1)) <|
  let t2 := iorI .u64 t (x.fdiv (2 ^ (min t1.toNat 64)))
  some (t2)
def rx159 (x : Int) : SRes := ⟨.int .u64 x, [], []⟩
def r159 (g : Int → Int → Option Int) : Dec := dV (asI .u64) fun (y0 : Int) => dV (asI .i64) fun (y1 : Int) => dEnd (ofG (g y0 y1) rx159)
theorem r159_c {g : Int → Int → Option Int} {y0 : Int} {y1 : Int} {x : Int} (hx : g y0 y1 = some x) : r159 g [.int .u64 y0, .int .i64 y1] [] = some (rx159 x) := (dV_eq (asI_c _)).trans ((dV_eq (asI_c _)).trans (ofG_eq hx))
def s159 (g : Int → Int → Option Int) : Summ := ⟨[.v, .v], r159 g⟩
theorem r159_eq {g : Int → Int → Option Int} {y0 : Int} {y1 : Int} {x : Int} (hx : g y0 y1 = some x) : (s159 g).run [.int .u64 y0, .int .i64 y1] [] = some (rx159 x) := r159_c hx
abbrev sums159 : List (Nat × Summ) := []
theorem leads159 (hS : SumsOK Try.prog (aget (sums159))) (x : Int) (k : Int) (res : Int) (h : math_bits_RotateLeft64F x k = some res) :
    Leads Try.prog 159 0 ⟨⟨159, 17, [(0, .int .u64 x), (1, .int .i64 k)], [.code k159_5], [], false, none⟩, [], [], 0⟩ (fun v H _ => Res 0 (rx159 res) v H) := by
  unfold math_bits_RotateLeft64F at h
  refine ev_ok tab_ok hS true 3000 ?_
  conv => whnf
  replace h := oreq.elim h; obtain ⟨hb, h⟩ := h
  first | (refine req.intro hb ?_; conv => whnf) | skip
  let t : Int := wI .u64 (x * 2 ^ (min (andI .u64 (wI .u64 k) 63).toNat 64))
  let t1 : Int := wI .u64 (64 - (andI .u64 (wI .u64 k) 63))
  replace h := oreq.elim h; obtain ⟨hb, h⟩ := h
  first | (refine req.intro hb ?_; conv => whnf) | skip
  let t2 : Int := iorI .u64 t (x.fdiv (2 ^ (min t1.toNat 64)))
  all_goals (cases h; exact Res.z rfl rfl rfl)
theorem ok159 (hS : SumsOK Try.prog (aget (sums159))) : SumOK Try.prog 159 (s159 (math_bits_RotateLeft64F)) := by
  refine SumOK.of_leads tab_ok (fun ar os r ha hr => ?_) ⟨Try.f159, rfl, by decide, rfl⟩
  replace hr : r159 (math_bits_RotateLeft64F) ar (conts os) = some r := hr
  unfold r159 at hr
  generalize hc : conts os = C at hr
  replace hr := dV.elim hr; obtain ⟨v0, l1, y0, rfl, e0, hr⟩ := hr; obtain rfl := asI_eq _ _ _ e0
  replace hr := dV.elim hr; obtain ⟨v1, l2, y1, rfl, e1, hr⟩ := hr; obtain rfl := asI_eq _ _ _ e1
  replace hr := dFin hr; obtain ⟨rfl, rfl, x, h, rfl⟩ := hr
  obtain rfl := kinds_nil hc
  exact ⟨_, rfl, leads159 hS _ _ x h⟩
def math_bits_RotateLeft64 : Int → Int → Option Int := math_bits_RotateLeft64F
theorem lift159 : SumOK Try.prog 159 (s159 math_bits_RotateLeft64) := ok159 (SumsOK.of_tab trivial)
def sip_state_roundF (math_bits_RotateLeft64 : Int → Int → Option Int) (s : Arr4_Int) : Option Arr4_Int :=
  (math_bits_RotateLeft64 s.e1 13).bind fun xr =>
  (math_bits_RotateLeft64 (wI .u64 (s.e0 + s.e1)) 32).bind fun xr1 =>
  (math_bits_RotateLeft64 s.e3 16).bind fun xr2 =>
  let t := wI .u64 (xr1 + (ixorI .u64 xr2 (wI .u64 (s.e2 + s.e3))))
  (math_bits_RotateLeft64 (ixorI .u64 xr2 (wI .u64 (s.e2 + s.e3))) 21).bind fun xr3 =>
  let t1 := wI .u64 ((wI .u64 (s.e2 + s.e3)) + (ixorI .u64 xr (wI .u64 (s.e0 + s.e1))))
  (math_bits_RotateLeft64 (ixorI .u64 xr (wI .u64 (s.e0 + s.e1))) 17).bind fun xr4 =>
  (math_bits_RotateLeft64 t1 32).bind fun xr5 =>
  some (Arr4_Int.mk t (ixorI .u64 xr4 t1) xr5 (ixorI .u64 xr3 t))
def rx154 (x : Arr4_Int) : SRes := ⟨.tuple ⟨[]⟩, [], [some [.int .u64 x.e0, .int .u64 x.e1, .int .u64 x.e2, .int .u64 x.e3]]⟩
def r154 (g : Arr4_Int → Option Arr4_Int) : Dec := dPt 0 unArr4_Int fun (y0 : Arr4_Int) => dEnd (ofG (g y0) rx154)
theorem r154_c {g : Arr4_Int → Option Arr4_Int} {y0 : Arr4_Int} {x : Arr4_Int} (hx : g y0 = some x) : r154 g [.pointer (some ⟨0, 0, none⟩)] [some [.int .u64 y0.e0, .int .u64 y0.e1, .int .u64 y0.e2, .int .u64 y0.e3]] = some (rx154 x) := (dPt_eq (unArr4_Int_c _)).trans (ofG_eq hx)
def s154 (g : Arr4_Int → Option Arr4_Int) : Summ := ⟨[.pt 4], r154 g⟩
theorem r154_eq {g : Arr4_Int → Option Arr4_Int} {y0 : Arr4_Int} {x : Arr4_Int} (hx : g y0 = some x) : (s154 g).run [.pointer (some ⟨0, 0, none⟩)] [some [.int .u64 y0.e0, .int .u64 y0.e1, .int .u64 y0.e2, .int .u64 y0.e3]] = some (rx154 x) := r154_c hx
abbrev sums154 (math_bits_RotateLeft64 : Int → Int → Option Int) : List (Nat × Summ) := [(159, s159 math_bits_RotateLeft64)]
theorem leads154 (math_bits_RotateLeft64 : Int → Int → Option Int) (hS : SumsOK Try.prog (aget (sums154 math_bits_RotateLeft64))) (s : Arr4_Int) (res : Arr4_Int) (h : sip_state_roundF math_bits_RotateLeft64 s = some res) :
    Leads Try.prog 154 1 ⟨⟨154, 114, [(0, .pointer (some ⟨0, 0, none⟩))], [.code k154_18], [], false, none⟩, [], [(0, .cells [.int .u64 s.e0, .int .u64 s.e1, .int .u64 s.e2, .int .u64 s.e3])], 1⟩ (fun v H _ => Res 1 (rx154 res) v H) := by
  unfold sip_state_roundF at h
  refine ev_ok tab_ok hS true 3000 ?_
  conv => whnf
  replace h := obind.elim h; obtain ⟨xr, hy, h⟩ := h
  refine sumK.q rfl rfl (r159_eq hy) rfl rfl rfl ?_
  conv => whnf
  replace h := obind.elim h; obtain ⟨xr1, hy, h⟩ := h
  refine sumK.q rfl rfl (r159_eq hy) rfl rfl rfl ?_
  conv => whnf
  replace h := obind.elim h; obtain ⟨xr2, hy, h⟩ := h
  refine sumK.q rfl rfl (r159_eq hy) rfl rfl rfl ?_
  conv => whnf
  let t : Int := wI .u64 (xr1 + (ixorI .u64 xr2 (wI .u64 (s.e2 + s.e3))))
  replace h := obind.elim h; obtain ⟨xr3, hy, h⟩ := h
  refine sumK.q rfl rfl (r159_eq hy) rfl rfl rfl ?_
  conv => whnf
  let t1 : Int := wI .u64 ((wI .u64 (s.e2 + s.e3)) + (ixorI .u64 xr (wI .u64 (s.e0 + s.e1))))
  replace h := obind.elim h; obtain ⟨xr4, hy, h⟩ := h
  refine sumK.q rfl rfl (r159_eq hy) rfl rfl rfl ?_
  conv => whnf
  replace h := obind.elim h; obtain ⟨xr5, hy, h⟩ := h
  refine sumK.q rfl rfl (r159_eq hy) rfl rfl rfl ?_
  conv => whnf
  all_goals (cases h)
  all_goals exact Res.of [] rfl nw_0 (by decide) js_0 (wr_s (rfl) (hs_cells rfl) wr_0)
theorem ok154 (math_bits_RotateLeft64 : Int → Int → Option Int) (hS : SumsOK Try.prog (aget (sums154 math_bits_RotateLeft64))) : SumOK Try.prog 154 (s154 (sip_state_roundF math_bits_RotateLeft64)) := by
  refine SumOK.of_leads tab_ok (fun ar os r ha hr => ?_) ⟨Try.f154, rfl, by decide, rfl⟩
  replace hr : r154 (sip_state_roundF math_bits_RotateLeft64) ar (conts os) = some r := hr
  unfold r154 at hr
  generalize hc : conts os = C at hr
  have hq := dPt.elim hr; clear hr; obtain ⟨c0, l1, C, y0, rfl, rfl, e0, hr⟩ := hq; obtain rfl := unArr4_Int_eq _ _ e0
  replace hr := dFin hr; obtain ⟨rfl, rfl, x, h, rfl⟩ := hr
  obtain ⟨os, rfl, ha, hc⟩ := kinds_some ha hc
  obtain rfl := kinds_nil hc
  exact ⟨_, rfl, leads154 math_bits_RotateLeft64 hS _ x h⟩
def sip_state_round : Arr4_Int → Option Arr4_Int := sip_state_roundF math_bits_RotateLeft64
theorem lift154 : SumOK Try.prog 154 (s154 sip_state_round) := ok154 math_bits_RotateLeft64 (SumsOK.of_tab ⟨lift159, trivial⟩)
def sip_state_mix_s1 (sip_state_round : Arr4_Int → Option Arr4_Int) (t : Int) (t7 : Int) (s1 : Int) (s2 : Int) (s3 : Int) (s4 : Int) : Option (Sum (Int × Int × Int × Int × Int) Arr4_Int) :=
  cond (decide (t7 < t))
    (
    (sip_state_round (Arr4_Int.mk s1 s2 s3 s4)).bind fun xr =>
    some (.inl (wI .i64 (t7 + 1), xr.e0, xr.e1, xr.e2, xr.e3)))
    (
    some (.inr (Arr4_Int.mk s1 s2 s3 s4)))
def sip_state_mixF (sip_state_round : Arr4_Int → Option Arr4_Int) (s : Arr4_Int) (rounds : Int) : Option Arr4_Int :=
  let t := if (if 64 < rounds then 64 else rounds) > 0 then if 64 < rounds then 64 else rounds else 0
  iter (fun st => sip_state_mix_s1 sip_state_round t st.1 st.2.1 st.2.2.1 st.2.2.2.1 st.2.2.2.2) FUEL (0, s.e0, s.e1, s.e2, s.e3)
def rx148 (x : Arr4_Int) : SRes := ⟨.tuple ⟨[]⟩, [], [some [.int .u64 x.e0, .int .u64 x.e1, .int .u64 x.e2, .int .u64 x.e3]]⟩
def r148 (g : Arr4_Int → Int → Option Arr4_Int) : Dec := dPt 0 unArr4_Int fun (y0 : Arr4_Int) => dV (asI .i64) fun (y1 : Int) => dEnd (ofG (g y0 y1) rx148)
theorem r148_c {g : Arr4_Int → Int → Option Arr4_Int} {y0 : Arr4_Int} {y1 : Int} {x : Arr4_Int} (hx : g y0 y1 = some x) : r148 g [.pointer (some ⟨0, 0, none⟩), .int .i64 y1] [some [.int .u64 y0.e0, .int .u64 y0.e1, .int .u64 y0.e2, .int .u64 y0.e3]] = some (rx148 x) := (dPt_eq (unArr4_Int_c _)).trans ((dV_eq (asI_c _)).trans (ofG_eq hx))
def s148 (g : Arr4_Int → Int → Option Arr4_Int) : Summ := ⟨[.pt 4, .v], r148 g⟩
theorem r148_eq {g : Arr4_Int → Int → Option Arr4_Int} {y0 : Arr4_Int} {y1 : Int} {x : Arr4_Int} (hx : g y0 y1 = some x) : (s148 g).run [.pointer (some ⟨0, 0, none⟩), .int .i64 y1] [some [.int .u64 y0.e0, .int .u64 y0.e1, .int .u64 y0.e2, .int .u64 y0.e3]] = some (rx148 x) := r148_c hx
abbrev sums148 (sip_state_round : Arr4_Int → Option Arr4_Int) : List (Nat × Summ) := [(154, s154 sip_state_round)]
def head148_1 (t : Int) (t7 : Int) (s1 : Int) (s2 : Int) (s3 : Int) (s4 : Int) : VM :=
  ⟨⟨148, 12, [(0, .pointer (some ⟨0, 0, none⟩)), (6, .int .i64 t), (7, .int .i64 t7)], [.code k148_8, .inLoop k148_8, .inBlock 0], [], false, none⟩, [], [(0, .cells [.int .u64 s1, .int .u64 s2, .int .u64 s3, .int .u64 s4])], 1⟩
theorem loop148_1 (sip_state_round : Arr4_Int → Option Arr4_Int) (hS : SumsOK Try.prog (aget (sums148 sip_state_round))) (t : Int) (res : Arr4_Int) : ∀ fuel (st : Int × Int × Int × Int × Int) (o : Arr4_Int), iter (fun st => sip_state_mix_s1 sip_state_round t st.1 st.2.1 st.2.2.1 st.2.2.2.1 st.2.2.2.2) fuel st = some o → (o = res) →
    Leads Try.prog 148 1 (head148_1 t st.1 st.2.1 st.2.2.1 st.2.2.2.1 st.2.2.2.2) (fun v H _ => Res 1 (rx148 res) v H) := by
  intro fuel st o h hc
  refine iter_leads (head := fun st => head148_1 t st.1 st.2.1 st.2.2.1 st.2.2.2.1 st.2.2.2.2) (C := fun o => (o = res)) ?_ fuel st o h hc
  clear h hc o st fuel
  intro st o h hc
  obtain ⟨t7, s1, s2, s3, s4⟩ := st
  replace h : sip_state_mix_s1 sip_state_round t t7 s1 s2 s3 s4 = some o := h
  show Leads Try.prog 148 1 (head148_1 t t7 s1 s2 s3 s4) (fun v H _ => Res 1 (rx148 res) v H)
  unfold sip_state_mix_s1 at h
  refine ev_ok tab_ok hS true 3000 ?_
  conv => whnf
  refine br.h2 h ?_ ?_ ?_
  · rfl
  · clear h; intro hb h; conv => whnf
    all_goals (cases h; cases hc)
    all_goals exact Res.of [] rfl nw_0 (by decide) js_0 (wr_s (rfl) (hs_cells rfl) wr_0)
  clear h; intro hb h; conv => whnf
  replace h := obind.elim h; obtain ⟨xr, hy, h⟩ := h
  refine sumK.introF [0] (sumRun_of (aqs := [.pointer (some ⟨0, 0, none⟩)]) (ws := [.win 0 0 4 true]) (n := 0) (m := 0) (t' := 1) (ra_cons rfl rfl ra_nil) rfl (by rfl) (r154_eq hy) rfl rfl rfl rfl (wb_win rfl rfl rfl ⟨rfl, Nat.le_of_ble_eq_true rfl⟩ rfl rfl wb_nil) an_nil rfl) ?_
  conv => whnf
  cases h; simp only [Sum.elim_inl, head148_1] at hc
  exact lrA0 hc [(0, 0)] rfl
theorem leads148 (sip_state_round : Arr4_Int → Option Arr4_Int) (hS : SumsOK Try.prog (aget (sums148 sip_state_round))) (s : Arr4_Int) (rounds : Int) (res : Arr4_Int) (h : sip_state_mixF sip_state_round s rounds = some res) :
    Leads Try.prog 148 1 ⟨⟨148, 12, [(0, .pointer (some ⟨0, 0, none⟩)), (1, .int .i64 rounds)], [.code k148_11], [], false, none⟩, [], [(0, .cells [.int .u64 s.e0, .int .u64 s.e1, .int .u64 s.e2, .int .u64 s.e3])], 1⟩ (fun v H _ => Res 1 (rx148 res) v H) := by
  unfold sip_state_mixF at h
  refine ev_ok tab_ok hS true 3000 ?_
  conv => whnf
  let t : Int := if (if 64 < rounds then 64 else rounds) > 0 then if 64 < rounds then 64 else rounds else 0
  have hl := loop148_1 sip_state_round hS _ res _ _ _ h rfl; simp only [head148_1] at hl
  exact lrA0 hl [(0, 0)] rfl
theorem ok148 (sip_state_round : Arr4_Int → Option Arr4_Int) (hS : SumsOK Try.prog (aget (sums148 sip_state_round))) : SumOK Try.prog 148 (s148 (sip_state_mixF sip_state_round)) := by
  refine SumOK.of_leads tab_ok (fun ar os r ha hr => ?_) ⟨Try.f148, rfl, by decide, rfl⟩
  replace hr : r148 (sip_state_mixF sip_state_round) ar (conts os) = some r := hr
  unfold r148 at hr
  generalize hc : conts os = C at hr
  have hq := dPt.elim hr; clear hr; obtain ⟨c0, l1, C, y0, rfl, rfl, e0, hr⟩ := hq; obtain rfl := unArr4_Int_eq _ _ e0
  replace hr := dV.elim hr; obtain ⟨v1, l2, y1, rfl, e1, hr⟩ := hr; obtain rfl := asI_eq _ _ _ e1
  replace hr := dFin hr; obtain ⟨rfl, rfl, x, h, rfl⟩ := hr
  obtain ⟨os, rfl, ha, hc⟩ := kinds_some ha hc
  obtain rfl := kinds_nil hc
  exact ⟨_, rfl, leads148 sip_state_round hS _ _ x h⟩
def sip_state_mix : Arr4_Int → Int → Option Arr4_Int := sip_state_mixF sip_state_round
theorem lift148 : SumOK Try.prog 148 (s148 sip_state_mix) := ok148 sip_state_round (SumsOK.of_tab ⟨lift154, trivial⟩)
def sip_state_takeF (sip_state_mix : Arr4_Int → Int → Option Arr4_Int) (s : Arr4_Int) (m : Int) : Option Arr4_Int :=
  (sip_state_mix (Arr4_Int.mk s.e0 s.e1 s.e2 (ixorI .u64 s.e3 m)) 2).bind fun m1 =>
  some (Arr4_Int.mk (ixorI .u64 m1.e0 m) m1.e1 m1.e2 m1.e3)
def rx147 (x : Arr4_Int) : SRes := ⟨.tuple ⟨[]⟩, [], [some [.int .u64 x.e0, .int .u64 x.e1, .int .u64 x.e2, .int .u64 x.e3]]⟩
def r147 (g : Arr4_Int → Int → Option Arr4_Int) : Dec := dPt 0 unArr4_Int fun (y0 : Arr4_Int) => dV (asI .u64) fun (y1 : Int) => dEnd (ofG (g y0 y1) rx147)
theorem r147_c {g : Arr4_Int → Int → Option Arr4_Int} {y0 : Arr4_Int} {y1 : Int} {x : Arr4_Int} (hx : g y0 y1 = some x) : r147 g [.pointer (some ⟨0, 0, none⟩), .int .u64 y1] [some [.int .u64 y0.e0, .int .u64 y0.e1, .int .u64 y0.e2, .int .u64 y0.e3]] = some (rx147 x) := (dPt_eq (unArr4_Int_c _)).trans ((dV_eq (asI_c _)).trans (ofG_eq hx))
def s147 (g : Arr4_Int → Int → Option Arr4_Int) : Summ := ⟨[.pt 4, .v], r147 g⟩
theorem r147_eq {g : Arr4_Int → Int → Option Arr4_Int} {y0 : Arr4_Int} {y1 : Int} {x : Arr4_Int} (hx : g y0 y1 = some x) : (s147 g).run [.pointer (some ⟨0, 0, none⟩), .int .u64 y1] [some [.int .u64 y0.e0, .int .u64 y0.e1, .int .u64 y0.e2, .int .u64 y0.e3]] = some (rx147 x) := r147_c hx
abbrev sums147 (sip_state_mix : Arr4_Int → Int → Option Arr4_Int) : List (Nat × Summ) := [(148, s148 sip_state_mix)]
theorem leads147 (sip_state_mix : Arr4_Int → Int → Option Arr4_Int) (hS : SumsOK Try.prog (aget (sums147 sip_state_mix))) (s : Arr4_Int) (m : Int) (res : Arr4_Int) (h : sip_state_takeF sip_state_mix s m = some res) :
    Leads Try.prog 147 1 ⟨⟨147, 22, [(0, .pointer (some ⟨0, 0, none⟩)), (1, .int .u64 m)], [.code k147_4], [], false, none⟩, [], [(0, .cells [.int .u64 s.e0, .int .u64 s.e1, .int .u64 s.e2, .int .u64 s.e3])], 1⟩ (fun v H _ => Res 1 (rx147 res) v H) := by
  unfold sip_state_takeF at h
  refine ev_ok tab_ok hS true 3000 ?_
  conv => whnf
  replace h := obind.elim h; obtain ⟨m1, hy, h⟩ := h
  refine sumK.introF [0] (sumRun_of (aqs := [.pointer (some ⟨0, 0, none⟩), .int .i64 2]) (ws := [.win 0 0 4 true]) (n := 0) (m := 0) (t' := 8) (ra_cons rfl rfl (ra_cons rfl rfl ra_nil)) rfl (by rfl) (r148_eq hy) rfl rfl rfl rfl (wb_win rfl rfl rfl ⟨rfl, Nat.le_of_ble_eq_true rfl⟩ rfl rfl wb_nil) an_nil rfl) ?_
  conv => whnf
  all_goals (cases h)
  all_goals exact Res.of [] rfl nw_0 (by decide) js_0 (wr_s (rfl) (hs_cells rfl) wr_0)
theorem ok147 (sip_state_mix : Arr4_Int → Int → Option Arr4_Int) (hS : SumsOK Try.prog (aget (sums147 sip_state_mix))) : SumOK Try.prog 147 (s147 (sip_state_takeF sip_state_mix)) := by
  refine SumOK.of_leads tab_ok (fun ar os r ha hr => ?_) ⟨Try.f147, rfl, by decide, rfl⟩
  replace hr : r147 (sip_state_takeF sip_state_mix) ar (conts os) = some r := hr
  unfold r147 at hr
  generalize hc : conts os = C at hr
  have hq := dPt.elim hr; clear hr; obtain ⟨c0, l1, C, y0, rfl, rfl, e0, hr⟩ := hq; obtain rfl := unArr4_Int_eq _ _ e0
  replace hr := dV.elim hr; obtain ⟨v1, l2, y1, rfl, e1, hr⟩ := hr; obtain rfl := asI_eq _ _ _ e1
  replace hr := dFin hr; obtain ⟨rfl, rfl, x, h, rfl⟩ := hr
  obtain ⟨os, rfl, ha, hc⟩ := kinds_some ha hc
  obtain rfl := kinds_nil hc
  exact ⟨_, rfl, leads147 sip_state_mix hS _ _ x h⟩
def sip_state_take : Arr4_Int → Int → Option Arr4_Int := sip_state_takeF sip_state_mix
theorem lift147 : SumOK Try.prog 147 (s147 sip_state_take) := ok147 sip_state_mix (SumsOK.of_tab ⟨lift148, trivial⟩)
def sip_Hasher_Write_s1 (sip_state_take : Arr4_Int → Int → Option Arr4_Int) (ha0 : sip_Hasher) (s : List UInt8) (t18 : Int) (xh : Int) (xh1 : Int) (xh2 : Int) (xh3 : Int) (xh4 : Int) (xh5 : Int) : Option (Sum (Int × Int × Int × Int × Int × Int × Int) sip_Hasher) :=
  cond (decide (t18 < (s.length : Int)))
    (
    oreq (decide ((0 : Int) ≤ t18 ∧ t18 < (s.length : Int))) <|
    ((bI s)[t18.toNat]?).bind fun (e : Int) =>
    oreq (decide (0 ≤ (wI .i64 (8 * (xh5.tmod 8))))) <|
    let t := wI .u64 ((wI .u64 e) * 2 ^ (min (wI .i64 (8 * (xh5.tmod 8))).toNat 64))
    cond (((wI .i64 (xh5 + 1)).tmod 8) == 0)
      (
      (sip_state_take (Arr4_Int.mk xh xh1 xh2 xh3) (iorI .u64 xh4 t)).bind fun t1 =>
      some (.inl (wI .i64 (t18 + 1), t1.e0, t1.e1, t1.e2, t1.e3, 0, wI .i64 (xh5 + 1))))
      (
      some (.inl (wI .i64 (t18 + 1), xh, xh1, xh2, xh3, iorI .u64 xh4 t, wI .i64 (xh5 + 1)))))
    (
    some (.inr (sip_Hasher.mk ha0.made (Arr4_Int.mk xh xh1 xh2 xh3) xh4 xh5)))
def sip_Hasher_WriteF (sip_state_take : Arr4_Int → Int → Option Arr4_Int) (ha0 : sip_Hasher) (s : List UInt8) : Option sip_Hasher :=
  cond (!ha0.made)
    (
    some (ha0))
    (
    iter (fun st => sip_Hasher_Write_s1 sip_state_take ha0 s st.1 st.2.1 st.2.2.1 st.2.2.2.1 st.2.2.2.2.1 st.2.2.2.2.2.1 st.2.2.2.2.2.2) FUEL (0, ha0.s.e0, ha0.s.e1, ha0.s.e2, ha0.s.e3, ha0.last, ha0.count))
def rx133 (x : sip_Hasher) : SRes := ⟨.tuple ⟨[]⟩, [], [some [.bool x.made, .int .u64 x.s.e0, .int .u64 x.s.e1, .int .u64 x.s.e2, .int .u64 x.s.e3, .int .u64 x.last, .int .i64 x.count]]⟩
def r133 (g : sip_Hasher → (List UInt8) → Option sip_Hasher) : Dec := dPt 0 unsip_Hasher fun (y0 : sip_Hasher) => dV asS fun (y1 : List UInt8) => dEnd (ofG (g y0 y1) rx133)
theorem r133_c {g : sip_Hasher → (List UInt8) → Option sip_Hasher} {y0 : sip_Hasher} {y1 : List UInt8} {x : sip_Hasher} (hx : g y0 y1 = some x) : r133 g [.pointer (some ⟨0, 0, none⟩), .string ⟨⟨y1⟩⟩] [some [.bool y0.made, .int .u64 y0.s.e0, .int .u64 y0.s.e1, .int .u64 y0.s.e2, .int .u64 y0.s.e3, .int .u64 y0.last, .int .i64 y0.count]] = some (rx133 x) := (dPt_eq (unsip_Hasher_c _)).trans ((dV_eq (asS_c)).trans (ofG_eq hx))
def s133 (g : sip_Hasher → (List UInt8) → Option sip_Hasher) : Summ := ⟨[.pt 7, .v], r133 g⟩
theorem r133_eq {g : sip_Hasher → (List UInt8) → Option sip_Hasher} {y0 : sip_Hasher} {y1 : List UInt8} {x : sip_Hasher} (hx : g y0 y1 = some x) : (s133 g).run [.pointer (some ⟨0, 0, none⟩), .string ⟨⟨y1⟩⟩] [some [.bool y0.made, .int .u64 y0.s.e0, .int .u64 y0.s.e1, .int .u64 y0.s.e2, .int .u64 y0.s.e3, .int .u64 y0.last, .int .i64 y0.count]] = some (rx133 x) := r133_c hx
abbrev sums133 (sip_state_take : Arr4_Int → Int → Option Arr4_Int) : List (Nat × Summ) := [(147, s147 sip_state_take)]
def head133_1 (ha0 : sip_Hasher) (s : List UInt8) (t18 : Int) (xh : Int) (xh1 : Int) (xh2 : Int) (xh3 : Int) (xh4 : Int) (xh5 : Int) : VM :=
  ⟨⟨133, 63, [(0, .pointer (some ⟨0, 0, none⟩)), (16, .slice (some ⟨1, 0, none⟩) s.length 1), (17, .int .i64 (s.length : Int)), (18, .int .i64 t18)], [.code k133_22, .inLoop k133_22, .inBlock 0], [], false, none⟩, [], [(0, .cells [.bool ha0.made, .int .u64 xh, .int .u64 xh1, .int .u64 xh2, .int .u64 xh3, .int .u64 xh4, .int .i64 xh5]), (1, .row true (vI .u8 (bI s)))], 2⟩
theorem loop133_1 (sip_state_take : Arr4_Int → Int → Option Arr4_Int) (hS : SumsOK Try.prog (aget (sums133 sip_state_take))) (ha0 : sip_Hasher) (s : List UInt8) (res : sip_Hasher) : ∀ fuel (st : Int × Int × Int × Int × Int × Int × Int) (o : sip_Hasher), iter (fun st => sip_Hasher_Write_s1 sip_state_take ha0 s st.1 st.2.1 st.2.2.1 st.2.2.2.1 st.2.2.2.2.1 st.2.2.2.2.2.1 st.2.2.2.2.2.2) fuel st = some o → (o = res) →
    Leads Try.prog 133 1 (head133_1 ha0 s st.1 st.2.1 st.2.2.1 st.2.2.2.1 st.2.2.2.2.1 st.2.2.2.2.2.1 st.2.2.2.2.2.2) (fun v H _ => Res 1 (rx133 res) v H) := by
  intro fuel st o h hc
  refine iter_leads (head := fun st => head133_1 ha0 s st.1 st.2.1 st.2.2.1 st.2.2.2.1 st.2.2.2.2.1 st.2.2.2.2.2.1 st.2.2.2.2.2.2) (C := fun o => (o = res)) ?_ fuel st o h hc
  clear h hc o st fuel
  intro st o h hc
  obtain ⟨t18, xh, xh1, xh2, xh3, xh4, xh5⟩ := st
  replace h : sip_Hasher_Write_s1 sip_state_take ha0 s t18 xh xh1 xh2 xh3 xh4 xh5 = some o := h
  show Leads Try.prog 133 1 (head133_1 ha0 s t18 xh xh1 xh2 xh3 xh4 xh5) (fun v H _ => Res 1 (rx133 res) v H)
  unfold sip_Hasher_Write_s1 at h
  refine ev_ok tab_ok hS true 3000 ?_
  conv => whnf
  refine br.h2 h ?_ ?_ ?_
  · rfl
  · clear h; intro hb h; conv => whnf
    all_goals (cases h; cases hc)
    all_goals exact Res.of [] rfl nw_0 (by decide) js_0 (wr_s (rfl) (hs_cells rfl) wr_0)
  clear h; intro hb h; conv => whnf
  replace h := oreq.elim h; obtain ⟨hb, h⟩ := h
  first | (refine req.intro hb ?_; conv => whnf) | skip
  replace h := obind.elim h; obtain ⟨e, hy, h⟩ := h
  refine rd.I hy (by first | rfl | (rw [Nat.zero_add, Nat.mul_one]; try rfl; done) | omega) ?_
  conv => whnf
  replace h := oreq.elim h; obtain ⟨hb, h⟩ := h
  first | (refine req.intro hb ?_; conv => whnf) | skip
  let t : Int := wI .u64 ((wI .u64 e) * 2 ^ (min (wI .i64 (8 * (xh5.tmod 8))).toNat 64))
  refine br.h2 h ?_ ?_ ?_
  · rfl
  · clear h; intro hb h; conv => whnf
    cases h; simp only [Sum.elim_inl, head133_1] at hc
    exact lrA0 hc [(0, 0), (1, 1)] rfl
  clear h; intro hb h; conv => whnf
  replace h := obind.elim h; obtain ⟨t1, hy, h⟩ := h
  refine sumK.introF [0] (sumRun_of (aqs := [.pointer (some ⟨0, 0, none⟩), .int .u64 (iorI .u64 xh4 t)]) (ws := [.win 0 1 4 true]) (n := 0) (m := 0) (t' := 22) (ra_cons rfl rfl (ra_cons rfl rfl ra_nil)) rfl (by rfl) (r147_eq hy) rfl rfl rfl rfl (wb_win rfl rfl rfl ⟨rfl, Nat.le_of_ble_eq_true rfl⟩ rfl rfl wb_nil) an_nil rfl) ?_
  conv => whnf
  cases h; simp only [Sum.elim_inl, head133_1] at hc
  exact lrA0 hc [(0, 0), (1, 1)] rfl
theorem leads133 (sip_state_take : Arr4_Int → Int → Option Arr4_Int) (hS : SumsOK Try.prog (aget (sums133 sip_state_take))) (ha0 : sip_Hasher) (s : List UInt8) (res : sip_Hasher) (h : sip_Hasher_WriteF sip_state_take ha0 s = some res) :
    Leads Try.prog 133 1 ⟨⟨133, 63, [(0, .pointer (some ⟨0, 0, none⟩)), (1, .string ⟨⟨s⟩⟩)], [.code k133_26], [], false, none⟩, [], [(0, .cells [.bool ha0.made, .int .u64 ha0.s.e0, .int .u64 ha0.s.e1, .int .u64 ha0.s.e2, .int .u64 ha0.s.e3, .int .u64 ha0.last, .int .i64 ha0.count])], 1⟩ (fun v H _ => Res 1 (rx133 res) v H) := by
  unfold sip_Hasher_WriteF at h
  refine ev_ok tab_ok hS true 3000 ?_
  conv => whnf
  refine br.h h ?_ ?_ ?_
  · rfl
  · clear h; intro hb h; conv => whnf
    all_goals (cases h)
    all_goals exact Res.of [] rfl nw_0 (by decide) js_0 (wr_s (rfl) (hs_cells rfl) wr_0)
  clear h; intro hb h; conv => whnf
  refine pk_s2b ?_
  conv => whnf
  have hl := loop133_1 sip_state_take hS _ _ res _ _ _ h rfl; simp only [head133_1] at hl
  exact lrA0 hl [(0, 0), (1, 1)] rfl
theorem ok133 (sip_state_take : Arr4_Int → Int → Option Arr4_Int) (hS : SumsOK Try.prog (aget (sums133 sip_state_take))) : SumOK Try.prog 133 (s133 (sip_Hasher_WriteF sip_state_take)) := by
  refine SumOK.of_leads tab_ok (fun ar os r ha hr => ?_) ⟨Try.f133, rfl, by decide, rfl⟩
  replace hr : r133 (sip_Hasher_WriteF sip_state_take) ar (conts os) = some r := hr
  unfold r133 at hr
  generalize hc : conts os = C at hr
  have hq := dPt.elim hr; clear hr; obtain ⟨c0, l1, C, y0, rfl, rfl, e0, hr⟩ := hq; obtain rfl := unsip_Hasher_eq _ _ e0
  replace hr := dV.elim hr; obtain ⟨v1, l2, y1, rfl, e1, hr⟩ := hr; obtain rfl := asS_eq _ _ e1
  replace hr := dFin hr; obtain ⟨rfl, rfl, x, h, rfl⟩ := hr
  obtain ⟨os, rfl, ha, hc⟩ := kinds_some ha hc
  obtain rfl := kinds_nil hc
  exact ⟨_, rfl, leads133 sip_state_take hS _ _ x h⟩
def sip_Hasher_Write : sip_Hasher → (List UInt8) → Option sip_Hasher := sip_Hasher_WriteF sip_state_take
theorem lift133 : SumOK Try.prog 133 (s133 sip_Hasher_Write) := ok133 sip_state_take (SumsOK.of_tab ⟨lift147, trivial⟩)
def sip_Hasher_SumF (sip_state_mix : Arr4_Int → Int → Option Arr4_Int) (sip_state_take : Arr4_Int → Int → Option Arr4_Int) (ha0 : sip_Hasher) : Option (Int × sip_Hasher) :=
  cond (!ha0.made)
    (
    some ((0, ha0)))
    (
    let t := iorI .u64 ha0.last (wI .u64 ((wI .u64 ha0.count) * 2 ^ 56))
    (sip_state_take ha0.s t).bind fun t1 =>
    (sip_state_mix (Arr4_Int.mk t1.e0 t1.e1 (ixorI .u64 t1.e2 255) t1.e3) 4).bind fun m =>
    let t2 := ixorI .u64 (ixorI .u64 (ixorI .u64 m.e0 m.e1) m.e2) m.e3
    some ((t2, ha0)))
def rx134 (x : Int × sip_Hasher) : SRes := ⟨.int .u64 x.1, [], [some [.bool x.2.made, .int .u64 x.2.s.e0, .int .u64 x.2.s.e1, .int .u64 x.2.s.e2, .int .u64 x.2.s.e3, .int .u64 x.2.last, .int .i64 x.2.count]]⟩
def r134 (g : sip_Hasher → Option (Int × sip_Hasher)) : Dec := dPt 0 unsip_Hasher fun (y0 : sip_Hasher) => dEnd (ofG (g y0) rx134)
theorem r134_c {g : sip_Hasher → Option (Int × sip_Hasher)} {y0 : sip_Hasher} {x : Int × sip_Hasher} (hx : g y0 = some x) : r134 g [.pointer (some ⟨0, 0, none⟩)] [some [.bool y0.made, .int .u64 y0.s.e0, .int .u64 y0.s.e1, .int .u64 y0.s.e2, .int .u64 y0.s.e3, .int .u64 y0.last, .int .i64 y0.count]] = some (rx134 x) := (dPt_eq (unsip_Hasher_c _)).trans (ofG_eq hx)
def s134 (g : sip_Hasher → Option (Int × sip_Hasher)) : Summ := ⟨[.pt 7], r134 g⟩
theorem r134_eq {g : sip_Hasher → Option (Int × sip_Hasher)} {y0 : sip_Hasher} {x : Int × sip_Hasher} (hx : g y0 = some x) : (s134 g).run [.pointer (some ⟨0, 0, none⟩)] [some [.bool y0.made, .int .u64 y0.s.e0, .int .u64 y0.s.e1, .int .u64 y0.s.e2, .int .u64 y0.s.e3, .int .u64 y0.last, .int .i64 y0.count]] = some (rx134 x) := r134_c hx
abbrev sums134 (sip_state_mix : Arr4_Int → Int → Option Arr4_Int) (sip_state_take : Arr4_Int → Int → Option Arr4_Int) : List (Nat × Summ) := [(148, s148 sip_state_mix), (147, s147 sip_state_take)]
theorem leads134 (sip_state_mix : Arr4_Int → Int → Option Arr4_Int) (sip_state_take : Arr4_Int → Int → Option Arr4_Int) (hS : SumsOK Try.prog (aget (sums134 sip_state_mix sip_state_take))) (ha0 : sip_Hasher) (res : Int × sip_Hasher) (h : sip_Hasher_SumF sip_state_mix sip_state_take ha0 = some res) :
    Leads Try.prog 134 1 ⟨⟨134, 45, [(0, .pointer (some ⟨0, 0, none⟩))], [.code k134_17], [], false, none⟩, [], [(0, .cells [.bool ha0.made, .int .u64 ha0.s.e0, .int .u64 ha0.s.e1, .int .u64 ha0.s.e2, .int .u64 ha0.s.e3, .int .u64 ha0.last, .int .i64 ha0.count])], 1⟩ (fun v H _ => Res 1 (rx134 res) v H) := by
  unfold sip_Hasher_SumF at h
  refine ev_ok tab_ok hS true 3000 ?_
  conv => whnf
  refine br.h h ?_ ?_ ?_
  · rfl
  · clear h; intro hb h; conv => whnf
    all_goals (cases h)
    all_goals exact Res.of [] rfl nw_0 (by decide) js_0 (wr_s (rfl) (hs_cells rfl) wr_0)
  clear h; intro hb h; conv => whnf
  let t : Int := iorI .u64 ha0.last (wI .u64 ((wI .u64 ha0.count) * 2 ^ 56))
  replace h := obind.elim h; obtain ⟨t1, hy, h⟩ := h
  refine sumK.introF [1] (sumRun_of (aqs := [.pointer (some ⟨0, 0, none⟩), .int .u64 t]) (ws := [.win 1 0 4 true]) (n := 0) (m := 0) (t' := 12) (ra_cons rfl rfl (ra_cons rfl rfl ra_nil)) rfl (by rfl) (r147_eq hy) rfl rfl rfl rfl (wb_win rfl rfl rfl ⟨rfl, Nat.le_of_ble_eq_true rfl⟩ rfl rfl wb_nil) an_nil rfl) ?_
  conv => whnf
  replace h := obind.elim h; obtain ⟨m, hy, h⟩ := h
  refine sumK.introF [1] (sumRun_of (aqs := [.pointer (some ⟨0, 0, none⟩), .int .i64 4]) (ws := [.win 1 0 4 true]) (n := 0) (m := 0) (t' := 12) (ra_cons rfl rfl (ra_cons rfl rfl ra_nil)) rfl (by rfl) (r148_eq hy) rfl rfl rfl rfl (wb_win rfl rfl rfl ⟨rfl, Nat.le_of_ble_eq_true rfl⟩ rfl rfl wb_nil) an_nil rfl) ?_
  conv => whnf
  let t2 : Int := ixorI .u64 (ixorI .u64 (ixorI .u64 m.e0 m.e1) m.e2) m.e3
  all_goals (cases h)
  all_goals exact Res.of [] rfl nw_0 (by decide) js_0 (wr_s (rfl) (hs_cells rfl) wr_0)
theorem ok134 (sip_state_mix : Arr4_Int → Int → Option Arr4_Int) (sip_state_take : Arr4_Int → Int → Option Arr4_Int) (hS : SumsOK Try.prog (aget (sums134 sip_state_mix sip_state_take))) : SumOK Try.prog 134 (s134 (sip_Hasher_SumF sip_state_mix sip_state_take)) := by
  refine SumOK.of_leads tab_ok (fun ar os r ha hr => ?_) ⟨Try.f134, rfl, by decide, rfl⟩
  replace hr : r134 (sip_Hasher_SumF sip_state_mix sip_state_take) ar (conts os) = some r := hr
  unfold r134 at hr
  generalize hc : conts os = C at hr
  have hq := dPt.elim hr; clear hr; obtain ⟨c0, l1, C, y0, rfl, rfl, e0, hr⟩ := hq; obtain rfl := unsip_Hasher_eq _ _ e0
  replace hr := dFin hr; obtain ⟨rfl, rfl, x, h, rfl⟩ := hr
  obtain ⟨os, rfl, ha, hc⟩ := kinds_some ha hc
  obtain rfl := kinds_nil hc
  exact ⟨_, rfl, leads134 sip_state_mix sip_state_take hS _ x h⟩
def sip_Hasher_Sum : sip_Hasher → Option (Int × sip_Hasher) := sip_Hasher_SumF sip_state_mix sip_state_take
theorem lift134 : SumOK Try.prog 134 (s134 sip_Hasher_Sum) := ok134 sip_state_mix sip_state_take (SumsOK.of_tab ⟨lift148, lift147, trivial⟩)
end Go.Vm.Code
namespace Go.Vm.Code
open Go Go.Vm
def trn (x k : Int) : Int := (R12_turn x k).getD 0
theorem turn_eq {x k : Int} (h0 : 0 ≤ k) (h1 : k ≤ 64) : R12_turn x k = some (trn x k) := by
  unfold trn R12_turn R12_turnF
  rw [oreq_p h0, wI64 (n := 64 - k) (by omega) (by omega), oreq_p (by omega)]; rfl
theorem rot_turn {x k : Int} (h : k = 13 ∨ k = 16 ∨ k = 17 ∨ k = 21 ∨ k = 32) : math_bits_RotateLeft64 x k = R12_turn x k := by
  have e1 : andI .u64 (wI .u64 k) 63 = k := by rcases h with rfl | rfl | rfl | rfl | rfl <;> decide +kernel
  have e2 : wI .u64 (64 - k) = 64 - k := wU64 (by omega) (by omega)
  have e3 : wI .i64 (64 - k) = 64 - k := wI64 (by omega) (by omega)
  unfold math_bits_RotateLeft64 math_bits_RotateLeft64F R12_turn R12_turnF
  rw [e1, e2, e3]
theorem rot_eq {x k : Int} (h : k = 13 ∨ k = 16 ∨ k = 17 ∨ k = 21 ∨ k = 32) : math_bits_RotateLeft64 x k = some (trn x k) := by
  rw [rot_turn h]; exact turn_eq (by omega) (by omega)
def rnd (s : Arr4_Int) : Arr4_Int :=
  let a1 := wI .u64 (s.e0 + s.e1)
  let b1 := ixorI .u64 (trn s.e1 13) a1
  let c1 := wI .u64 (s.e2 + s.e3)
  let d1 := ixorI .u64 (trn s.e3 16) c1
  let t := wI .u64 (trn a1 32 + d1)
  let t1 := wI .u64 (c1 + b1)
  ⟨t, ixorI .u64 (trn b1 17) t1, trn t1 32, ixorI .u64 (trn d1 21) t⟩
theorem round_eq (s : Arr4_Int) : sip_state_round s = some (rnd s) := by
  unfold sip_state_round sip_state_roundF
  simp only [rot_eq (k := 13) (by omega), rot_eq (k := 16) (by omega), rot_eq (k := 17) (by omega), rot_eq (k := 21) (by omega), rot_eq (k := 32) (by omega), Option.bind_some]
  rfl
theorem Round_eq (a b c d : Int) : R12_Round a b c d = some ((rnd ⟨a, b, c, d⟩).e0, (rnd ⟨a, b, c, d⟩).e1, (rnd ⟨a, b, c, d⟩).e2, (rnd ⟨a, b, c, d⟩).e3) := by
  unfold R12_Round R12_RoundF
  simp only [turn_eq (k := 13) (by omega) (by omega), turn_eq (k := 16) (by omega) (by omega), turn_eq (k := 17) (by omega) (by omega), turn_eq (k := 21) (by omega) (by omega), turn_eq (k := 32) (by omega) (by omega), Option.bind_some]
  rfl
def rnds : Nat → Arr4_Int → Arr4_Int
  | 0, q => q
  | n + 1, q => rnds n (rnd q)
def cnt (n : Int) : Nat := (if (if 64 < n then 64 else n) > 0 then if 64 < n then 64 else n else 0 : Int).toNat
theorem mix_eq (s : Arr4_Int) (n : Int) : sip_state_mix s n = some (rnds (cnt n) s) := by
  unfold sip_state_mix sip_state_mixF cnt
  generalize ht : (if (if 64 < n then 64 else n) > 0 then if 64 < n then 64 else n else 0 : Int) = t
  have hb : 0 ≤ t ∧ t ≤ 64 := by rw [← ht]; split <;> split <;> omega
  have key := iter_eq (step := fun (st : Int × Int × Int × Int × Int) => sip_state_mix_s1 sip_state_round t st.1 st.2.1 st.2.2.1 st.2.2.2.1 st.2.2.2.2) (fun st => rnds (t - st.1).toNat ⟨st.2.1, st.2.2.1, st.2.2.2.1, st.2.2.2.2⟩) (fun st => 0 ≤ st.1 ∧ st.1 ≤ t) (fun st => (t - st.1).toNat) ?_ FUEL (0, s.e0, s.e1, s.e2, s.e3) ⟨by simp, hb.1⟩ (by rw [FUEL_eq]; simp only; omega)
  · simp only [] at key ⊢
    rw [key]; simp
  rintro ⟨i, a, b, c, d⟩ ⟨g1, g2⟩
  simp only at g1 g2 ⊢
  unfold sip_state_mix_s1
  by_cases hi : i < t
  · refine .inr ⟨(i + 1, (rnd ⟨a, b, c, d⟩).e0, (rnd ⟨a, b, c, d⟩).e1, (rnd ⟨a, b, c, d⟩).e2, (rnd ⟨a, b, c, d⟩).e3), ?_, ⟨by simp only; omega, by simp only; omega⟩, by simp only; omega, ?_⟩
    · rw [cond_p hi, round_eq, Option.bind_some, wI64 (by omega) (by omega)]
    · simp only []
      have e : (t - i).toNat = (t - (i + 1)).toNat + 1 := by omega
      rw [e]; rfl
  · refine .inl ?_
    rw [cond_n hi]
    have e : (t - i).toNat = 0 := by omega
    simp only [e, rnds]
theorem Mix_eq (a b c d n : Int) : R12_Mix a b c d n = some (rnds (cnt n) ⟨a, b, c, d⟩) := by
  unfold R12_Mix R12_MixF
  have hc : ∀ i : Int, 0 ≤ i → i ≤ cnt n → (i < cnt n ↔ i < n ∧ i < 64) := by
    intro i h0 h1
    revert h1
    unfold cnt
    split <;> split <;> omega
  have hb : (cnt n : Int) ≤ 64 := by unfold cnt; split <;> split <;> omega
  have key := iter_eq (step := fun (st : Int × Int × Int × Int × Int) => R12_Mix_s1 R12_Round n st.1 st.2.1 st.2.2.1 st.2.2.2.1 st.2.2.2.2) (fun st => rnds (cnt n - st.2.2.2.2).toNat ⟨st.1, st.2.1, st.2.2.1, st.2.2.2.1⟩) (fun st => 0 ≤ st.2.2.2.2 ∧ st.2.2.2.2 ≤ cnt n) (fun st => (cnt n - st.2.2.2.2).toNat) ?_ FUEL (a, b, c, d, 0) ⟨by simp, by simp⟩ (by rw [FUEL_eq]; simp only; omega)
  · rw [key]; simp
  rintro ⟨a, b, c, d, i⟩ ⟨g1, g2⟩
  simp only at g1 g2 ⊢
  unfold R12_Mix_s1
  have hh := hc i g1 g2
  by_cases hi : i < cnt n
  · obtain ⟨h1, h2⟩ := hh.1 hi
    refine .inr ⟨((rnd ⟨a, b, c, d⟩).e0, (rnd ⟨a, b, c, d⟩).e1, (rnd ⟨a, b, c, d⟩).e2, (rnd ⟨a, b, c, d⟩).e3, i + 1), ?_, ⟨by simp only; omega, by simp only; omega⟩, by simp only; omega, ?_⟩
    · rw [cond_p h1, cond_p h2, Round_eq, Option.bind_some, wI64 (by omega) (by omega)]
    · simp only []
      have e : ((cnt n : Int) - i).toNat = ((cnt n : Int) - (i + 1)).toNat + 1 := by omega
      rw [e]; rfl
  · refine .inl ?_
    have e : ((cnt n : Int) - i).toNat = 0 := by omega
    simp only [e, rnds]
    by_cases h1 : i < n
    · rw [cond_p h1, cond_n (by omega)]
    · rw [cond_n h1]
def tak (s : Arr4_Int) (m : Int) : Arr4_Int :=
  let q := rnds 2 ⟨s.e0, s.e1, s.e2, ixorI .u64 s.e3 m⟩
  ⟨ixorI .u64 q.e0 m, q.e1, q.e2, q.e3⟩
theorem take_eq (s : Arr4_Int) (m : Int) : sip_state_take s m = some (tak s m) := by
  unfold sip_state_take sip_state_takeF
  rw [mix_eq, show cnt 2 = 2 from rfl, Option.bind_some]
  simp only [tak]
def wrT (T : Arr4_Int → Int → Arr4_Int) (h : sip_Hasher) (b : UInt8) : sip_Hasher :=
  let m := iorI .u64 h.last (wI .u64 ((b.toNat : Int) * 2 ^ (8 * (h.count.toNat % 8))))
  if (h.count.toNat + 1) % 8 = 0 then ⟨h.made, T h.s m, 0, h.count + 1⟩ else ⟨h.made, h.s, m, h.count + 1⟩
theorem WriteF_eq (T : Arr4_Int → Int → Arr4_Int) {h : sip_Hasher} {s : List UInt8} (hm : h.made = true) (h0 : 0 ≤ h.count) (h1 : h.count + s.length < 2 ^ 62) : sip_Hasher_WriteF (fun q m => some (T q m)) h s = some (s.foldl (wrT T) h) := by
  unfold sip_Hasher_WriteF
  rw [hm, Bool.not_true, cond_false]
  have key := iter_eq (step := fun (st : Int × Int × Int × Int × Int × Int × Int) => sip_Hasher_Write_s1 (fun q m => some (T q m)) h s st.1 st.2.1 st.2.2.1 st.2.2.2.1 st.2.2.2.2.1 st.2.2.2.2.2.1 st.2.2.2.2.2.2)
    (fun st => (s.drop st.1.toNat).foldl (wrT T) ⟨true, ⟨st.2.1, st.2.2.1, st.2.2.2.1, st.2.2.2.2.1⟩, st.2.2.2.2.2.1, st.2.2.2.2.2.2⟩) (fun st => 0 ≤ st.1 ∧ st.1 ≤ s.length ∧ st.2.2.2.2.2.2 = h.count + st.1) (fun st => (s.length - st.1).toNat) ?_ FUEL (0, h.s.e0, h.s.e1, h.s.e2, h.s.e3, h.last, h.count) ⟨by simp, by simp, by simp⟩ (by rw [FUEL_eq]; simp only; omega)
  · rw [key]
    simp only [Int.toNat_zero, List.drop_zero]
    rw [← hm]
  rintro ⟨p, a, b, c, d, l, n⟩ ⟨g1, g2, g3⟩
  simp only at g1 g2 g3 ⊢
  obtain ⟨i, rfl⟩ := Int.eq_ofNat_of_zero_le g1
  obtain ⟨k, hk⟩ := Int.eq_ofNat_of_zero_le (show 0 ≤ n by omega)
  subst hk
  simp only [Int.toNat_natCast]
  unfold sip_Hasher_Write_s1
  by_cases hi : i < s.length
  · have hb := s[i].toNat_lt
    have e1 : (bI s)[i]? = some (s[i].toNat : Int) := by simp [bI, hi]
    have e2 : ((k : Int).tmod 8) = ((k % 8 : Nat) : Int) := by rw [Int.tmod_eq_emod_of_nonneg (by omega)]; rfl
    have e3 : min (8 * ((k % 8 : Nat) : Int)).toNat 64 = 8 * (k % 8) := by omega
    have e4 : (((k : Int) + 1).tmod 8 == 0) = decide ((k + 1) % 8 = 0) := by
      rw [Int.tmod_eq_emod_of_nonneg (by omega), Bool.eq_iff_iff, beq_iff_eq, decide_eq_true_eq]; omega
    refine .inr ⟨(((i + 1 : Nat) : Int), (wrT T ⟨true, ⟨a, b, c, d⟩, l, k⟩ s[i]).s.e0, (wrT T ⟨true, ⟨a, b, c, d⟩, l, k⟩ s[i]).s.e1, (wrT T ⟨true, ⟨a, b, c, d⟩, l, k⟩ s[i]).s.e2, (wrT T ⟨true, ⟨a, b, c, d⟩, l, k⟩ s[i]).s.e3, (wrT T ⟨true, ⟨a, b, c, d⟩, l, k⟩ s[i]).last, (k : Int) + 1), ?_, ⟨by simp only; omega, by simp only; omega, by simp only; omega⟩, by simp only; omega, ?_⟩
    · simp (disch := omega) only [cond_p, oreq_p, Int.toNat_natCast, e1, Option.bind_some, e2, wI64, e3, e4, wU64 (n := (s[i].toNat : Int)), cond_dec]
      unfold wrT
      simp only [Int.toNat_natCast]
      split <;> rfl
    · simp only [Int.toNat_natCast]
      rw [List.drop_eq_getElem_cons hi, List.foldl_cons]
      congr 1
      unfold wrT
      simp only [Int.toNat_natCast]
      split <;> rfl
  · refine .inl ?_
    rw [cond_n (by omega), List.drop_eq_nil_of_le (by omega), hm]; rfl
def wrB : sip_Hasher → UInt8 → sip_Hasher := wrT tak
theorem Write_eq {h : sip_Hasher} {s : List UInt8} (hm : h.made = true) (h0 : 0 ≤ h.count) (h1 : h.count + s.length < 2 ^ 62) : sip_Hasher_Write h s = some (s.foldl wrB h) := by
  unfold sip_Hasher_Write
  rw [show sip_state_take = fun q m => some (tak q m) from funext fun q => funext fun m => take_eq q m]
  exact WriteF_eq tak hm h0 h1
theorem wrT_made (T : Arr4_Int → Int → Arr4_Int) (h : sip_Hasher) (b : UInt8) : (wrT T h b).made = h.made := by unfold wrT; simp only; split <;> rfl
theorem wrT_count (T : Arr4_Int → Int → Arr4_Int) (h : sip_Hasher) (b : UInt8) : (wrT T h b).count = h.count + 1 := by unfold wrT; simp only; split <;> rfl
theorem wrB_made (h : sip_Hasher) (b : UInt8) : (wrB h b).made = h.made := wrT_made tak h b
theorem wrB_count (h : sip_Hasher) (b : UInt8) : (wrB h b).count = h.count + 1 := wrT_count tak h b
theorem wrL : ∀ (s : List UInt8) (h : sip_Hasher), (s.foldl wrB h).made = h.made ∧ (s.foldl wrB h).count = h.count + s.length
  | [], h => ⟨rfl, by simp⟩
  | b :: s, h => by
    obtain ⟨a1, a2⟩ := wrL s (wrB h b)
    rw [List.foldl_cons, a1, a2, wrB_made, wrB_count, List.length_cons]
    exact ⟨rfl, by omega⟩
def sumV (h : sip_Hasher) : Int :=
  let t := tak h.s (iorI .u64 h.last (wI .u64 ((wI .u64 h.count) * 2 ^ 56)))
  let m := rnds 4 ⟨t.e0, t.e1, ixorI .u64 t.e2 255, t.e3⟩
  ixorI .u64 (ixorI .u64 (ixorI .u64 m.e0 m.e1) m.e2) m.e3
theorem Sum_eq {h : sip_Hasher} (hm : h.made = true) : sip_Hasher_Sum h = some (sumV h, h) := by
  unfold sip_Hasher_Sum sip_Hasher_SumF
  rw [hm, Bool.not_true, cond_false]
  simp only [take_eq, mix_eq, Option.bind_some, show cnt 4 = 4 from rfl, sumV]
def newV (k : api_Key) : sip_Hasher := ⟨true, ⟨ixorI .u64 8317987319222330741 k.A, ixorI .u64 7237128888997146477 k.B, ixorI .u64 7816392313619706465 k.A, ixorI .u64 8387220255154660723 k.B⟩, 0, 0⟩
theorem New_eq (k : api_Key) : sip_New k = some (newV k) := rfl
end Go.Vm.Code
namespace Go.Vm.Code
open Go Go.Vm Go.Proofs
set_option maxRecDepth 100000
set_option maxHeartbeats 4000000
set_option linter.unusedVariables false
def R12_word_s1 (s : List UInt8) (n : Int) (i : Int) : Option (Sum (Int × Int) Int) :=
  cond (decide (i ≥ 0))
    (
    oreq (decide (0 ≤ i)) <|
    (s[i.toNat]?).bind fun (b : UInt8) =>
    let t := wI .u64 ((wI .u64 (n * 2 ^ 8)) + (wI .u64 (b.toNat : Int)))
    some (.inl (t, wI .i64 (i - 1))))
    (
    some (.inr (n)))
def R12_wordF (s : List UInt8) : Option Int :=
  iter (fun st => R12_word_s1 s st.1 st.2) FUEL (0, wI .i64 ((s.length : Int) - 1))
def rx135 (x : Int) : SRes := ⟨.int .u64 x, [], []⟩
def r135 (g : (List UInt8) → Option Int) : Dec := dV asS fun (y0 : List UInt8) => dEnd (ofG (g y0) rx135)
theorem r135_c {g : (List UInt8) → Option Int} {y0 : List UInt8} {x : Int} (hx : g y0 = some x) : r135 g [.string ⟨⟨y0⟩⟩] [] = some (rx135 x) := (dV_eq (asS_c)).trans (ofG_eq hx)
def s135 (g : (List UInt8) → Option Int) : Summ := ⟨[.v], r135 g⟩
theorem r135_eq {g : (List UInt8) → Option Int} {y0 : List UInt8} {x : Int} (hx : g y0 = some x) : (s135 g).run [.string ⟨⟨y0⟩⟩] [] = some (rx135 x) := r135_c hx
abbrev sums135 : List (Nat × Summ) := []
def head135_1 (s : List UInt8) (n : Int) (i : Int) : VM :=
  ⟨⟨135, 20, [(0, .string ⟨⟨s⟩⟩), (3, .int .u64 n), (4, .int .i64 i)], [.code k135_10, .inLoop k135_10, .inBlock 0, .code k135_15], [], false, none⟩, [], [], 0⟩
theorem loop135_1 (hS : SumsOK Try.prog (aget (sums135))) (s : List UInt8) (res : Int) : ∀ fuel (st : Int × Int) (o : Int), iter (fun st => R12_word_s1 s st.1 st.2) fuel st = some o → (o = res) →
    Leads Try.prog 135 0 (head135_1 s st.1 st.2) (fun v H _ => Res 0 (rx135 res) v H) := by
  intro fuel st o h hc
  refine iter_leads (head := fun st => head135_1 s st.1 st.2) (C := fun o => (o = res)) ?_ fuel st o h hc
  clear h hc o st fuel
  intro st o h hc
  obtain ⟨n, i⟩ := st
  replace h : R12_word_s1 s n i = some o := h
  show Leads Try.prog 135 0 (head135_1 s n i) (fun v H _ => Res 0 (rx135 res) v H)
  unfold R12_word_s1 at h
  refine ev_ok tab_ok hS true 3000 ?_
  conv => whnf
  refine br.h2 h ?_ ?_ ?_
  · rfl
  · clear h; intro hb h; conv => whnf
    all_goals (cases h; cases hc; exact Res.z rfl rfl rfl)
  clear h; intro hb h; conv => whnf
  replace h := oreq.elim h; obtain ⟨hb, h⟩ := h
  first | (refine req.intro hb ?_; conv => whnf) | skip
  replace h := obind.elim h; obtain ⟨b, hy, h⟩ := h
  refine rdS.intro hy ?_
  conv => whnf
  let t : Int := wI .u64 ((wI .u64 (n * 2 ^ 8)) + (wI .u64 (b.toNat : Int)))
  cases h; simp only [Sum.elim_inl, head135_1] at hc
  exact lrA0 hc [] rfl
theorem leads135 (hS : SumsOK Try.prog (aget (sums135))) (s : List UInt8) (res : Int) (h : R12_wordF s = some res) :
    Leads Try.prog 135 0 ⟨⟨135, 20, [(0, .string ⟨⟨s⟩⟩)], [.code k135_18], [], false, none⟩, [], [], 0⟩ (fun v H _ => Res 0 (rx135 res) v H) := by
  unfold R12_wordF at h
  refine ev_ok tab_ok hS true 3000 ?_
  conv => whnf
  have hl := loop135_1 hS _ res _ _ _ h rfl; simp only [head135_1] at hl
  exact lrA0 hl [] rfl
theorem ok135 (hS : SumsOK Try.prog (aget (sums135))) : SumOK Try.prog 135 (s135 (R12_wordF)) := by
  refine SumOK.of_leads tab_ok (fun ar os r ha hr => ?_) ⟨Try.f135, rfl, by decide, rfl⟩
  replace hr : r135 (R12_wordF) ar (conts os) = some r := hr
  unfold r135 at hr
  generalize hc : conts os = C at hr
  replace hr := dV.elim hr; obtain ⟨v0, l1, y0, rfl, e0, hr⟩ := hr; obtain rfl := asS_eq _ _ e0
  replace hr := dFin hr; obtain ⟨rfl, rfl, x, h, rfl⟩ := hr
  obtain rfl := kinds_nil hc
  exact ⟨_, rfl, leads135 hS _ x h⟩
def R12_word : (List UInt8) → Option Int := R12_wordF
theorem lift135 : SumOK Try.prog 135 (s135 R12_word) := ok135 (SumsOK.of_tab trivial)
def R12_Hash_s1 (R12_Round : Int → Int → Int → Int → Option (Int × Int × Int × Int)) (s : List UInt8) (t : Int) (i : Int) (a1 : Int) (b1 : Int) (c1 : Int) (d1 : Int) (m : Int) (n : Int) : Option (Sum (Int × Int × Int × Int × Int × Int) (Sum (Int × Int × Int × Int × Int) Int)) :=
  cond (decide (n < 2))
    (
    (R12_Round a1 b1 c1 d1).bind fun xr =>
    some (.inl (xr.1, xr.2.1, xr.2.2.1, xr.2.2.2, m, wI .i64 (n + 1))))
    (
    some (.inr (.inl (ixorI .u64 a1 m, b1, c1, d1, wI .i64 (i + 8)))))
def R12_Hash_s2 (R12_Mix : Int → Int → Int → Int → Int → Option Arr4_Int) (R12_Round : Int → Int → Int → Int → Option (Int × Int × Int × Int)) (R12_word : (List UInt8) → Option Int) (s : List UInt8) (t : Int) (a : Int) (b : Int) (c : Int) (d : Int) (i : Int) : Option (Sum (Int × Int × Int × Int × Int) Int) :=
  cond (decide (i ≤ t))
    (
    let t1 := if (s.length : Int) < (wI .i64 (i + 8)) then (s.length : Int) else wI .i64 (i + 8)
    oreq (decide ((0 : Int) ≤ t1 ∧ t1 ≤ (s.length : Int) ∧ (0 : Int) ≤ i ∧ i ≤ (t1.toNat : Int))) <|
    let t2 := (s.drop i.toNat).take (t1.toNat - i.toNat)
    (R12_word t2).bind fun w =>
    cond (i == t)
      (
      oreq (decide ((0 : Int) ≤ i ∧ i ≤ (s.length : Int))) <|
      let t3 := (s.drop i.toNat).take (s.length - i.toNat)
      (R12_word t3).bind fun w1 =>
      let t4 := wI .u64 ((wI .u64 ((s.length : Int).tmod 256)) * 2 ^ 56)
      iter (fun st => R12_Hash_s1 R12_Round s t i st.1 st.2.1 st.2.2.1 st.2.2.2.1 st.2.2.2.2.1 st.2.2.2.2.2) FUEL (a, b, c, ixorI .u64 d (wI .u64 (w1 + t4)), wI .u64 (w1 + t4), 0))
      (
      iter (fun st => R12_Hash_s1 R12_Round s t i st.1 st.2.1 st.2.2.1 st.2.2.2.1 st.2.2.2.2.1 st.2.2.2.2.2) FUEL (a, b, c, ixorI .u64 d w, w, 0)))
    (
    (R12_Mix a b (ixorI .u64 c 255) d 4).bind fun m1 =>
    let t5 := ixorI .u64 (ixorI .u64 m1.e0 m1.e1) m1.e2
    some (.inr (ixorI .u64 t5 m1.e3)))
def R12_HashF (R12_Mix : Int → Int → Int → Int → Int → Option Arr4_Int) (R12_Round : Int → Int → Int → Int → Option (Int × Int × Int × Int)) (R12_word : (List UInt8) → Option Int) (k : api_Key) (s : List UInt8) : Option Int :=
  let t := wI .i64 ((wI .i64 ((s.length : Int).tdiv 8)) * 8)
  iter (fun st => R12_Hash_s2 R12_Mix R12_Round R12_word s t st.1 st.2.1 st.2.2.1 st.2.2.2.1 st.2.2.2.2) FUEL (ixorI .u64 8317987319222330741 k.A, ixorI .u64 7237128888997146477 k.B, ixorI .u64 7816392313619706465 k.A, ixorI .u64 8387220255154660723 k.B, 0)
def rx95 (x : Int) : SRes := ⟨.int .u64 x, [], []⟩
def r95 (g : api_Key → (List UInt8) → Option Int) : Dec := dV uvapi_Key fun (y0 : api_Key) => dV asS fun (y1 : List UInt8) => dEnd (ofG (g y0 y1) rx95)
theorem r95_c {g : api_Key → (List UInt8) → Option Int} {y0 : api_Key} {y1 : List UInt8} {x : Int} (hx : g y0 y1 = some x) : r95 g [.agg ⟨[.int .u64 y0.A, .int .u64 y0.B]⟩, .string ⟨⟨y1⟩⟩] [] = some (rx95 x) := (dV_eq (uvapi_Key_c _)).trans ((dV_eq (asS_c)).trans (ofG_eq hx))
def s95 (g : api_Key → (List UInt8) → Option Int) : Summ := ⟨[.v, .v], r95 g⟩
theorem r95_eq {g : api_Key → (List UInt8) → Option Int} {y0 : api_Key} {y1 : List UInt8} {x : Int} (hx : g y0 y1 = some x) : (s95 g).run [.agg ⟨[.int .u64 y0.A, .int .u64 y0.B]⟩, .string ⟨⟨y1⟩⟩] [] = some (rx95 x) := r95_c hx
abbrev sums95 (R12_Mix : Int → Int → Int → Int → Int → Option Arr4_Int) (R12_Round : Int → Int → Int → Int → Option (Int × Int × Int × Int)) (R12_word : (List UInt8) → Option Int) : List (Nat × Summ) := [(137, s137 R12_Mix), (136, s136 R12_Round), (135, s135 R12_word)]
def head95_1 (s : List UInt8) (t : Int) (i : Int) (a1 : Int) (b1 : Int) (c1 : Int) (d1 : Int) (m : Int) (n : Int) : VM :=
  ⟨⟨95, 95, [(1, .string ⟨⟨s⟩⟩), (5, .int .u64 a1), (6, .int .u64 b1), (7, .int .u64 c1), (8, .int .u64 d1), (9, .int .i64 t), (10, .int .i64 i), (11, .int .u64 m), (12, .int .i64 n)], [.code k95_22, .inLoop k95_22, .inBlock 2, .code k95_26, .inBlock 1, .code k95_32, .inLoop k95_34, .inBlock 0, .code k95_43], [], false, none⟩, [], [], 15⟩
def head95_2 (s : List UInt8) (t : Int) (a : Int) (b : Int) (c : Int) (d : Int) (i : Int) : VM :=
  ⟨⟨95, 95, [(1, .string ⟨⟨s⟩⟩), (5, .int .u64 a), (6, .int .u64 b), (7, .int .u64 c), (8, .int .u64 d), (9, .int .i64 t), (10, .int .i64 i)], [.code k95_34, .inLoop k95_34, .inBlock 0, .code k95_43], [], false, none⟩, [], [], 15⟩
theorem loop95_1 (R12_Mix : Int → Int → Int → Int → Int → Option Arr4_Int) (R12_Round : Int → Int → Int → Int → Option (Int × Int × Int × Int)) (R12_word : (List UInt8) → Option Int) (hS : SumsOK Try.prog (aget (sums95 R12_Mix R12_Round R12_word))) (s : List UInt8) (t : Int) (i : Int) (res : Int) : ∀ fuel (st : Int × Int × Int × Int × Int × Int) (o : Sum (Int × Int × Int × Int × Int) Int), iter (fun st => R12_Hash_s1 R12_Round s t i st.1 st.2.1 st.2.2.1 st.2.2.2.1 st.2.2.2.2.1 st.2.2.2.2.2) fuel st = some o → (Sum.elim (fun s0 => Leads Try.prog 95 0 (head95_2 s t s0.1 s0.2.1 s0.2.2.1 s0.2.2.2.1 s0.2.2.2.2) (fun v H _ => Res 0 (rx95 res) v H)) (fun r0 => r0 = res) o) →
    Leads Try.prog 95 0 (head95_1 s t i st.1 st.2.1 st.2.2.1 st.2.2.2.1 st.2.2.2.2.1 st.2.2.2.2.2) (fun v H _ => Res 0 (rx95 res) v H) := by
  intro fuel st o h hc
  refine iter_leads (head := fun st => head95_1 s t i st.1 st.2.1 st.2.2.1 st.2.2.2.1 st.2.2.2.2.1 st.2.2.2.2.2) (C := fun o => (Sum.elim (fun s0 => Leads Try.prog 95 0 (head95_2 s t s0.1 s0.2.1 s0.2.2.1 s0.2.2.2.1 s0.2.2.2.2) (fun v H _ => Res 0 (rx95 res) v H)) (fun r0 => r0 = res) o)) ?_ fuel st o h hc
  clear h hc o st fuel
  intro st o h hc
  obtain ⟨a1, b1, c1, d1, m, n⟩ := st
  replace h : R12_Hash_s1 R12_Round s t i a1 b1 c1 d1 m n = some o := h
  show Leads Try.prog 95 0 (head95_1 s t i a1 b1 c1 d1 m n) (fun v H _ => Res 0 (rx95 res) v H)
  unfold R12_Hash_s1 at h
  refine ev_ok tab_ok hS true 3000 ?_
  conv => whnf
  refine br.h2 h ?_ ?_ ?_
  · rfl
  · clear h; intro hb h; conv => whnf
    cases h; simp only [Sum.elim_inr, Sum.elim_inl, head95_2] at hc
    exact lrA0 hc [] rfl
  clear h; intro hb h; conv => whnf
  replace h := obind.elim h; obtain ⟨xr, hy, h⟩ := h
  refine sumK.q rfl rfl (r136_eq hy) rfl rfl rfl ?_
  conv => whnf
  cases h; simp only [Sum.elim_inl, head95_1] at hc
  exact lrA0 hc [] rfl
theorem loop95_2 (R12_Mix : Int → Int → Int → Int → Int → Option Arr4_Int) (R12_Round : Int → Int → Int → Int → Option (Int × Int × Int × Int)) (R12_word : (List UInt8) → Option Int) (hS : SumsOK Try.prog (aget (sums95 R12_Mix R12_Round R12_word))) (s : List UInt8) (t : Int) (res : Int) : ∀ fuel (st : Int × Int × Int × Int × Int) (o : Int), iter (fun st => R12_Hash_s2 R12_Mix R12_Round R12_word s t st.1 st.2.1 st.2.2.1 st.2.2.2.1 st.2.2.2.2) fuel st = some o → (o = res) →
    Leads Try.prog 95 0 (head95_2 s t st.1 st.2.1 st.2.2.1 st.2.2.2.1 st.2.2.2.2) (fun v H _ => Res 0 (rx95 res) v H) := by
  intro fuel st o h hc
  refine iter_leads (head := fun st => head95_2 s t st.1 st.2.1 st.2.2.1 st.2.2.2.1 st.2.2.2.2) (C := fun o => (o = res)) ?_ fuel st o h hc
  clear h hc o st fuel
  intro st o h hc
  obtain ⟨a, b, c, d, i⟩ := st
  replace h : R12_Hash_s2 R12_Mix R12_Round R12_word s t a b c d i = some o := h
  show Leads Try.prog 95 0 (head95_2 s t a b c d i) (fun v H _ => Res 0 (rx95 res) v H)
  unfold R12_Hash_s2 at h
  refine ev_ok tab_ok hS true 3000 ?_
  conv => whnf
  refine br.h2 h ?_ ?_ ?_
  · rfl
  · clear h; intro hb h; conv => whnf
    replace h := obind.elim h; obtain ⟨m1, hy, h⟩ := h
    refine sumK.q rfl rfl (r137_eq hy) rfl rfl rfl ?_
    conv => whnf
    let t5 : Int := ixorI .u64 (ixorI .u64 m1.e0 m1.e1) m1.e2
    all_goals (cases h; cases hc; exact Res.z rfl rfl rfl)
  clear h; intro hb h; conv => whnf
  let t1 : Int := if (s.length : Int) < (wI .i64 (i + 8)) then (s.length : Int) else wI .i64 (i + 8)
  replace h := oreq.elim h; obtain ⟨hb, h⟩ := h
  first | (refine req.intro hb ?_; conv => whnf) | skip
  let t2 : List UInt8 := (s.drop i.toNat).take (t1.toNat - i.toNat)
  replace h := obind.elim h; obtain ⟨w, hy, h⟩ := h
  refine sumK.q rfl rfl (r135_eq hy) rfl rfl rfl ?_
  conv => whnf
  refine br.h2 h ?_ ?_ ?_
  · rfl
  · clear h; intro hb h; conv => whnf
    have hl := loop95_1 R12_Mix R12_Round R12_word hS _ _ _ res _ _ _ h hc; simp only [head95_1] at hl
    exact lrA0 hl [] rfl
  clear h; intro hb h; conv => whnf
  replace h := oreq.elim h; obtain ⟨hb, h⟩ := h
  first | (refine req.intro hb ?_; conv => whnf) | skip
  let t3 : List UInt8 := (s.drop i.toNat).take (s.length - i.toNat)
  replace h := obind.elim h; obtain ⟨w1, hy, h⟩ := h
  refine sumK.q rfl rfl (r135_eq hy) rfl rfl rfl ?_
  conv => whnf
  let t4 : Int := wI .u64 ((wI .u64 ((s.length : Int).tmod 256)) * 2 ^ 56)
  have hl := loop95_1 R12_Mix R12_Round R12_word hS _ _ _ res _ _ _ h hc; simp only [head95_1] at hl
  exact lrA0 hl [] rfl
theorem leads95 (R12_Mix : Int → Int → Int → Int → Int → Option Arr4_Int) (R12_Round : Int → Int → Int → Int → Option (Int × Int × Int × Int)) (R12_word : (List UInt8) → Option Int) (hS : SumsOK Try.prog (aget (sums95 R12_Mix R12_Round R12_word))) (k : api_Key) (s : List UInt8) (res : Int) (h : R12_HashF R12_Mix R12_Round R12_word k s = some res) :
    Leads Try.prog 95 0 ⟨⟨95, 95, [(0, .agg ⟨[.int .u64 k.A, .int .u64 k.B]⟩), (1, .string ⟨⟨s⟩⟩)], [.code k95_48], [], false, none⟩, [], [], 0⟩ (fun v H _ => Res 0 (rx95 res) v H) := by
  unfold R12_HashF at h
  refine ev_ok tab_ok hS true 3000 ?_
  conv => whnf
  let t : Int := wI .i64 ((wI .i64 ((s.length : Int).tdiv 8)) * 8)
  have hl := loop95_2 R12_Mix R12_Round R12_word hS _ _ res _ _ _ h rfl; simp only [head95_2] at hl
  exact lrA0 hl [] rfl
theorem ok95 (R12_Mix : Int → Int → Int → Int → Int → Option Arr4_Int) (R12_Round : Int → Int → Int → Int → Option (Int × Int × Int × Int)) (R12_word : (List UInt8) → Option Int) (hS : SumsOK Try.prog (aget (sums95 R12_Mix R12_Round R12_word))) : SumOK Try.prog 95 (s95 (R12_HashF R12_Mix R12_Round R12_word)) := by
  refine SumOK.of_leads tab_ok (fun ar os r ha hr => ?_) ⟨Try.f95, rfl, by decide, rfl⟩
  replace hr : r95 (R12_HashF R12_Mix R12_Round R12_word) ar (conts os) = some r := hr
  unfold r95 at hr
  generalize hc : conts os = C at hr
  replace hr := dV.elim hr; obtain ⟨v0, l1, y0, rfl, e0, hr⟩ := hr; obtain rfl := uvapi_Key_eq _ _ e0
  replace hr := dV.elim hr; obtain ⟨v1, l2, y1, rfl, e1, hr⟩ := hr; obtain rfl := asS_eq _ _ e1
  replace hr := dFin hr; obtain ⟨rfl, rfl, x, h, rfl⟩ := hr
  obtain rfl := kinds_nil hc
  exact ⟨_, rfl, leads95 R12_Mix R12_Round R12_word hS _ _ x h⟩
def R12_Hash : api_Key → (List UInt8) → Option Int := R12_HashF R12_Mix R12_Round R12_word
theorem lift95 : SumOK Try.prog 95 (s95 R12_Hash) := ok95 R12_Mix R12_Round R12_word (SumsOK.of_tab ⟨lift137, lift136, lift135, trivial⟩)
end Go.Vm.Code
namespace Go.Vm.Code
open Go Go.Vm
theorem iorU64_hi (k : Nat) {a b : Int} (h0 : 0 ≤ a) (h1 : a * 2 ^ k < 18446744073709551616) (hb0 : 0 ≤ b) (hb : b < 2 ^ k) (hb1 : b < 18446744073709551616) : iorI .u64 b (a * 2 ^ k) = a * 2 ^ k + b := by
  obtain ⟨n, rfl⟩ := Int.eq_ofNat_of_zero_le h0
  obtain ⟨m, rfl⟩ := Int.eq_ofNat_of_zero_le hb0
  have e : ((n : Int) * 2 ^ k) = ((n * 2 ^ k : Nat) : Int) := by push_cast; rfl
  rw [e] at h1 ⊢
  rw [iorU64 (by omega) (by omega), Nat.or_comm, or_low (by exact_mod_cast hb)]; push_cast; rfl
def wrd : List UInt8 → Nat
  | [] => 0
  | b :: l => b.toNat + 256 * wrd l
theorem wrd_lt : ∀ l : List UInt8, wrd l < 256 ^ l.length
  | [] => by simp [wrd]
  | b :: l => by
    have := wrd_lt l
    have hb := b.toNat_lt
    rw [wrd, List.length_cons, Nat.pow_succ]; omega
theorem wrd_snoc : ∀ (l : List UInt8) (b : UInt8), wrd (l ++ [b]) = wrd l + 256 ^ l.length * b.toNat
  | [], b => by simp [wrd]
  | c :: l, b => by
    have := wrd_snoc l b
    rw [List.cons_append, wrd, this, wrd, List.length_cons, Nat.pow_succ, Nat.mul_add, Nat.mul_comm (256 ^ l.length) 256, Nat.mul_assoc]; omega
theorem pow_le8 {j : Nat} (h : j ≤ 8) : 256 ^ j ≤ 18446744073709551616 := by
  have : (256 : Nat) ^ j ≤ 256 ^ 8 := Nat.pow_le_pow_right (by decide) h
  simpa using this
theorem word_eq12 {s : List UInt8} (hs : s.length ≤ 8) : R12_word s = some (wrd s : Int) := by
  unfold R12_word R12_wordF
  rw [wI64 (by omega) (by omega)]
  have key := iter_eq (step := fun (st : Int × Int) => R12_word_s1 s st.1 st.2) (fun st => ((st.1.toNat * 256 ^ (st.2 + 1).toNat + wrd (s.take (st.2 + 1).toNat) : Nat) : Int)) (fun st => 0 ≤ st.1 ∧ -1 ≤ st.2 ∧ st.2 < s.length ∧ st.1.toNat < 256 ^ (s.length - (st.2 + 1).toNat)) (fun st => (st.2 + 1).toNat) ?_ FUEL (0, (s.length : Int) - 1) ⟨by simp, by simp only; omega, by simp only; omega, by simp⟩ (by rw [FUEL_eq]; simp only; omega)
  · rw [key]
    have e : ((s.length : Int) - 1 + 1).toNat = s.length := by omega
    simp only [e]; simp
  rintro ⟨n, i⟩ ⟨g1, g2, g3, g4⟩
  simp only at g1 g2 g3 g4 ⊢
  obtain ⟨v, rfl⟩ := Int.eq_ofNat_of_zero_le g1
  simp only [Int.toNat_natCast] at g4 ⊢
  unfold R12_word_s1
  by_cases hi : i ≥ 0
  · obtain ⟨j, rfl⟩ := Int.eq_ofNat_of_zero_le hi
    have e1 : ((j : Int) + 1).toNat = j + 1 := by omega
    have e2 : ((j : Int) - 1 + 1).toNat = j := by omega
    rw [e1] at g4 ⊢
    have hj : j < s.length := by omega
    have hb := s[j].toNat_lt
    have hv : v * 256 + s[j].toNat < 256 ^ (s.length - j) := by
      rw [show s.length - j = (s.length - (j + 1)) + 1 by omega, Nat.pow_succ]; omega
    have hv2 := pow_le8 (j := s.length - j) (by omega)
    refine .inr ⟨(((v * 256 + s[j].toNat : Nat) : Int), (j : Int) - 1), ?_, ⟨by simp only; omega, by simp only; omega, by simp only; omega, ?_⟩, by simp only; omega, ?_⟩
    · rw [cond_p hi, oreq_p hi, Int.toNat_natCast, List.getElem?_eq_getElem hj, Option.bind_some, wU64 (n := (v : Int) * 2 ^ 8) (by omega) (by omega), wU64 (n := (s[j].toNat : Int)) (by omega) (by omega), wU64 (by omega) (by omega), wI64 (by omega) (by omega)]
      simp only []
      congr 3 <;> omega
    · simp only [e2, Int.toNat_natCast]; exact hv
    · simp only [e2, Int.toNat_natCast]
      rw [List.take_succ_eq_append_getElem hj, wrd_snoc, List.length_take, Nat.min_eq_left (by omega), Nat.pow_succ, Nat.add_mul, Nat.mul_assoc, Nat.mul_comm (256 ^ j) 256, Nat.mul_comm (256 ^ j) s[j].toNat]
      congr 1
      omega
  · refine .inl ?_
    rw [cond_n hi]
    have e1 : (i + 1).toNat = 0 := by omega
    rw [e1]; simp [wrd]
def finQ (q : Arr4_Int) : Int :=
  let m := rnds 4 ⟨q.e0, q.e1, ixorI .u64 q.e2 255, q.e3⟩
  ixorI .u64 (ixorI .u64 (ixorI .u64 m.e0 m.e1) m.e2) m.e3
theorem part_eq (T : Arr4_Int → Int → Arr4_Int) : ∀ (l : List UInt8) (h : sip_Hasher) (j v : Nat), h.count.toNat % 8 = j → 0 ≤ h.count → h.last = (v : Int) → v < 256 ^ j → j + l.length < 8 → l.foldl (wrT T) h = ⟨h.made, h.s, ((v + 256 ^ j * wrd l : Nat) : Int), h.count + l.length⟩
  | [], h, j, v, hj, h0, hv, hlt, hl => by
    obtain ⟨m, s, la, c⟩ := h
    simp only at hv; subst hv
    simp [wrd]
  | b :: l, h, j, v, hj, h0, hv, hlt, hl => by
    rw [List.length_cons] at hl
    have hb := b.toNat_lt
    have hp : (256 : Nat) ^ j = 2 ^ (8 * j) := by rw [Nat.pow_mul]
    have hp2 := pow_le8 (j := j + 1) (by omega)
    rw [Nat.pow_succ] at hp2
    have hb2 : b.toNat * 256 ^ j ≤ 255 * 256 ^ j := Nat.mul_le_mul_right _ (by omega)
    have hpI : (2 : Int) ^ (8 * j) = ((256 ^ j : Nat) : Int) := by rw [hp]; push_cast; rfl
    have e1 : wI .u64 ((b.toNat : Int) * 2 ^ (8 * j)) = (b.toNat : Int) * 2 ^ (8 * j) := by
      rw [hpI, ← Int.natCast_mul]; exact wU64 (by omega) (by omega)
    have e2 : iorI .u64 (v : Int) ((b.toNat : Int) * 2 ^ (8 * j)) = ((v + 256 ^ j * b.toNat : Nat) : Int) := by
      rw [iorU64_hi (8 * j) (by omega) (by rw [hpI, ← Int.natCast_mul]; omega) (by omega) (by rw [hpI]; omega) (by omega), hpI, ← Int.natCast_mul, Nat.mul_comm]; omega
    have hw : wrT T h b = ⟨h.made, h.s, ((v + 256 ^ j * b.toNat : Nat) : Int), h.count + 1⟩ := by
      unfold wrT
      rw [hj, hv, if_neg (by omega), e1, e2]
    rw [List.foldl_cons, hw, part_eq T l _ (j + 1) (v + 256 ^ j * b.toNat) (by simp only; omega) (by simp only; omega) rfl (by rw [Nat.pow_succ, Nat.mul_comm (256 ^ j) b.toNat]; omega) (by omega)]
    simp only [wrd, Nat.pow_succ, List.length_cons]
    congr 1
    · rw [Nat.mul_add, ← Nat.mul_assoc, Nat.add_assoc]
    · omega
theorem full_eq (T : Arr4_Int → Int → Arr4_Int) {l : List UInt8} {h : sip_Hasher} (hl : l.length = 8) (hc : h.count.toNat % 8 = 0) (h0 : 0 ≤ h.count) (hv : h.last = 0) : l.foldl (wrT T) h = ⟨h.made, T h.s (wrd l : Int), 0, h.count + 8⟩ := by
  obtain ⟨l7, b, rfl⟩ : ∃ l7 b, l = l7 ++ [b] := ⟨l.dropLast, l.getLast (by intro e; rw [e] at hl; simp at hl), (List.dropLast_concat_getLast _).symm⟩
  have h7 : l7.length = 7 := by simp at hl; omega
  have hb := b.toNat_lt
  have hw := wrd_lt l7
  rw [h7] at hw
  rw [List.foldl_append, part_eq T l7 h 0 0 hc h0 (by rw [hv]; rfl) (by simp) (by omega), h7, wrd_snoc, h7]
  simp only [List.foldl_cons, List.foldl_nil, wrT, Nat.pow_zero, Nat.one_mul, Nat.zero_add]
  have e0 : (h.count + ((7 : Nat) : Int)).toNat % 8 = 7 := by omega
  have e00 : ((h.count + ((7 : Nat) : Int)).toNat + 1) % 8 = 0 := by omega
  rw [e0, if_pos e00]
  have e1 : wI .u64 ((b.toNat : Int) * 2 ^ (8 * 7)) = (b.toNat : Int) * 2 ^ (8 * 7) := wU64 (by omega) (by omega)
  have e2 : iorI .u64 (wrd l7 : Int) ((b.toNat : Int) * 2 ^ (8 * 7)) = ((wrd l7 + 256 ^ 7 * b.toNat : Nat) : Int) := by
    rw [iorU64_hi (8 * 7) (by omega) (by omega) (by omega) (by omega) (by omega)]; omega
  rw [e1, e2]
  congr 1
  omega
def hashR (T : Arr4_Int → Int → Arr4_Int) (fin : Arr4_Int → Int) (n : Nat) (q : Arr4_Int) (l : List UInt8) : Int :=
  if h : 8 ≤ l.length then hashR T fin n (T q (wrd (l.take 8) : Int)) (l.drop 8) else fin (T q ((wrd l + n % 256 * 2 ^ 56 : Nat) : Int))
termination_by l.length
decreasing_by simp; omega
theorem fold_hashR (T : Arr4_Int → Int → Arr4_Int) (fin : Arr4_Int → Int) : ∀ (k : Nat) (l : List UInt8) (h : sip_Hasher), l.length ≤ k → h.count.toNat % 8 = 0 → 0 ≤ h.count → h.last = 0 → ∀ n : Nat, (n : Int) = h.count + l.length →
    fin (T (l.foldl (wrT T) h).s (iorI .u64 (l.foldl (wrT T) h).last (wI .u64 ((wI .u64 (l.foldl (wrT T) h).count) * 2 ^ 56)))) = hashR T fin n h.s l := by
  intro k
  induction k with
  | zero =>
    intro l h hl hc h0 hv n hn
    obtain rfl : l = [] := List.length_eq_zero_iff.1 (by omega)
    rw [hashR, dif_neg (by simp)]
    simp only [List.foldl_nil, hv, wrd]
    congr 2
    simp at hn
    rw [← hn]
    have e1 : wI .u64 ((wI .u64 (n : Int)) * 2 ^ 56) = ((n % 256 : Nat) : Int) * 2 ^ 56 := by rw [wU64m, wU64m]; omega
    rw [e1, iorU64_hi 56 (by omega) (by omega) (by omega) (by omega) (by omega)]; omega
  | succ k ih =>
    intro l h hl hc h0 hv n hn
    by_cases h8 : 8 ≤ l.length
    · rw [hashR, dif_pos h8]
      have hs : l.foldl (wrT T) h = (l.drop 8).foldl (wrT T) ⟨h.made, T h.s (wrd (l.take 8) : Int), 0, h.count + 8⟩ := by
        rw [← full_eq T (l := l.take 8) (by simp; omega) hc h0 hv, ← List.foldl_append, List.take_append_drop]
      rw [hs]
      exact ih (l.drop 8) ⟨h.made, T h.s (wrd (l.take 8) : Int), 0, h.count + 8⟩ (by simp; omega) (by simp only; omega) (by simp only; omega) rfl n (by simp; omega)
    · rw [hashR, dif_neg h8, part_eq T l h 0 0 hc h0 (by rw [hv]; rfl) (by simp) (by omega)]
      simp only [Nat.zero_add, Nat.pow_zero, Nat.one_mul]
      congr 2
      rw [← hn]
      have hw : wrd l < 256 ^ 7 := Nat.lt_of_lt_of_le (wrd_lt l) (Nat.pow_le_pow_right (by decide) (by omega))
      have e1 : wI .u64 ((wI .u64 (n : Int)) * 2 ^ 56) = ((n % 256 : Nat) : Int) * 2 ^ 56 := by rw [wU64m, wU64m]; omega
      rw [e1, iorU64_hi 56 (by omega) (by omega) (by omega) (by omega) (by omega)]; omega
theorem inner12G (r : Arr4_Int → Arr4_Int) (s : List UInt8) (t i a b c d m : Int) (hi : 0 ≤ i ∧ i < 2 ^ 62) : iter (fun (st : Int × Int × Int × Int × Int × Int) => R12_Hash_s1 (fun a b c d => some ((r ⟨a, b, c, d⟩).e0, (r ⟨a, b, c, d⟩).e1, (r ⟨a, b, c, d⟩).e2, (r ⟨a, b, c, d⟩).e3)) s t i st.1 st.2.1 st.2.2.1 st.2.2.2.1 st.2.2.2.2.1 st.2.2.2.2.2) FUEL (a, b, c, d, m, 0) =
    some (.inl (ixorI .u64 (r (r ⟨a, b, c, d⟩)).e0 m, (r (r ⟨a, b, c, d⟩)).e1, (r (r ⟨a, b, c, d⟩)).e2, (r (r ⟨a, b, c, d⟩)).e3, i + 8)) := by
  have e8 : wI .i64 (i + 8) = i + 8 := wI64 (by omega) (by omega)
  show iter _ (18446744073709551613 + 1 + 1 + 1) _ = _
  rw [iter]
  have s1 : ∀ (a b c d n : Int), n < 2 → 0 ≤ n → R12_Hash_s1 (fun a b c d => some ((r ⟨a, b, c, d⟩).e0, (r ⟨a, b, c, d⟩).e1, (r ⟨a, b, c, d⟩).e2, (r ⟨a, b, c, d⟩).e3)) s t i a b c d m n = some (.inl ((r ⟨a, b, c, d⟩).e0, (r ⟨a, b, c, d⟩).e1, (r ⟨a, b, c, d⟩).e2, (r ⟨a, b, c, d⟩).e3, m, n + 1)) := by
    intro a b c d n h1 h0
    unfold R12_Hash_s1
    rw [cond_p h1, Option.bind_some, wI64 (n := n + 1) (by omega) (by omega)]
  have s2 : ∀ (a b c d : Int), R12_Hash_s1 (fun a b c d => some ((r ⟨a, b, c, d⟩).e0, (r ⟨a, b, c, d⟩).e1, (r ⟨a, b, c, d⟩).e2, (r ⟨a, b, c, d⟩).e3)) s t i a b c d m 2 = some (.inr (.inl (ixorI .u64 a m, b, c, d, i + 8))) := by
    intro a b c d
    unfold R12_Hash_s1
    rw [cond_n (by decide), e8]
  rw [s1 a b c d 0 (by decide) (by decide)]
  simp only []
  rw [iter]
  simp only [show (0 : Int) + 1 = 1 from rfl]
  rw [s1 _ _ _ _ 1 (by decide) (by decide)]
  simp only []
  rw [iter]
  simp only [show (1 : Int) + 1 = 2 from rfl]
  rw [s2]
theorem inner12 (s : List UInt8) (t i a b c d m : Int) (hi : 0 ≤ i ∧ i < 2 ^ 62) : iter (fun (st : Int × Int × Int × Int × Int × Int) => R12_Hash_s1 R12_Round s t i st.1 st.2.1 st.2.2.1 st.2.2.2.1 st.2.2.2.2.1 st.2.2.2.2.2) FUEL (a, b, c, ixorI .u64 d m, m, 0) =
    some (.inl ((tak ⟨a, b, c, d⟩ m).e0, (tak ⟨a, b, c, d⟩ m).e1, (tak ⟨a, b, c, d⟩ m).e2, (tak ⟨a, b, c, d⟩ m).e3, i + 8)) := by
  have e : R12_Round = fun a b c d => some ((rnd ⟨a, b, c, d⟩).e0, (rnd ⟨a, b, c, d⟩).e1, (rnd ⟨a, b, c, d⟩).e2, (rnd ⟨a, b, c, d⟩).e3) := by
    funext a b c d; exact Round_eq a b c d
  rw [e, inner12G rnd s t i a b c (ixorI .u64 d m) m hi]
  simp only [tak, rnds]
theorem R12_Hash_eq {k : api_Key} {s : List UInt8} (h : s.length < 2 ^ 60) : R12_Hash k s = some (hashR tak finQ s.length (newV k).s s) := by
  unfold R12_Hash R12_HashF
  have ew : wI .i64 ((wI .i64 ((s.length : Int).tdiv 8)) * 8) = ((s.length / 8 * 8 : Nat) : Int) := by
    rw [Int.tdiv_eq_ediv_of_nonneg (by omega), wI64 (n := (s.length : Int) / 8) (by omega) (by omega), wI64 (by omega) (by omega)]; omega
  rw [ew]
  simp only []
  generalize hw : s.length / 8 * 8 = w
  have hw1 : w ≤ s.length ∧ s.length < w + 8 ∧ w % 8 = 0 := by omega
  have key := iter_eq (step := fun (st : Int × Int × Int × Int × Int) => R12_Hash_s2 R12_Mix R12_Round R12_word s (w : Int) st.1 st.2.1 st.2.2.1 st.2.2.2.1 st.2.2.2.2)
    (fun st => if st.2.2.2.2 ≤ w then hashR tak finQ s.length ⟨st.1, st.2.1, st.2.2.1, st.2.2.2.1⟩ (s.drop st.2.2.2.2.toNat) else finQ ⟨st.1, st.2.1, st.2.2.1, st.2.2.2.1⟩)
    (fun st => ∃ i : Nat, st.2.2.2.2 = i ∧ i % 8 = 0 ∧ i ≤ w + 8) (fun st => (w + 8 - st.2.2.2.2).toNat) ?_ FUEL ((newV k).s.e0, (newV k).s.e1, (newV k).s.e2, (newV k).s.e3, 0) ⟨0, rfl, by omega, by omega⟩ (by rw [FUEL_eq]; simp only; omega)
  · refine Eq.trans key ?_
    simp only [Int.toNat_zero, List.drop_zero]
    rw [if_pos (by omega)]
  rintro ⟨a, b, c, d, p⟩ ⟨i, g1, g2, g3⟩
  simp only at g1 ⊢
  subst g1
  unfold R12_Hash_s2
  by_cases hi : i ≤ w
  · rw [cond_p (by omega), if_pos (show (i : Int) ≤ w by omega), Int.toNat_natCast]
    have e8 : wI .i64 ((i : Int) + 8) = (i : Int) + 8 := wI64 (by omega) (by omega)
    by_cases hl : i = w
    · subst hl
      have e1 : (if (s.length : Int) < (i : Int) + 8 then (s.length : Int) else (i : Int) + 8) = s.length := by rw [if_pos (by omega)]
      have hlen : (s.drop i).length ≤ 7 := by simp; omega
      have et : (s.drop i).take (s.length - i) = s.drop i := List.take_of_length_le (by simp)
      have hv : wrd (s.drop i) < 256 ^ 7 := Nat.lt_of_lt_of_le (wrd_lt _) (Nat.pow_le_pow_right (by decide) hlen)
      have em : wI .u64 ((wrd (s.drop i) : Int) + wI .u64 ((wI .u64 ((s.length : Int).tmod 256)) * 2 ^ 56)) = ((wrd (s.drop i) + s.length % 256 * 2 ^ 56 : Nat) : Int) := by
        rw [Int.tmod_eq_emod_of_nonneg (by omega), wU64 (n := (s.length : Int) % 256) (by omega) (by omega), wU64 (n := (s.length : Int) % 256 * 2 ^ 56) (by omega) (by omega), wU64 (by omega) (by omega)]; omega
      refine .inr ⟨((tak ⟨a, b, c, d⟩ ((wrd (s.drop i) + s.length % 256 * 2 ^ 56 : Nat) : Int)).e0, (tak ⟨a, b, c, d⟩ ((wrd (s.drop i) + s.length % 256 * 2 ^ 56 : Nat) : Int)).e1, (tak ⟨a, b, c, d⟩ ((wrd (s.drop i) + s.length % 256 * 2 ^ 56 : Nat) : Int)).e2, (tak ⟨a, b, c, d⟩ ((wrd (s.drop i) + s.length % 256 * 2 ^ 56 : Nat) : Int)).e3, (i : Int) + 8), ?_, ⟨i + 8, by simp only; omega, by omega, by omega⟩, by simp only; omega, ?_⟩
      · simp only [e8, e1]
        rw [oreq_p (by omega), Int.toNat_natCast, et, word_eq12 (by omega), Option.bind_some, beq_self_eq_true, cond_true, oreq_p (by omega), Option.bind_some, em]
        exact inner12 s (i : Int) (i : Int) a b c d _ (by omega)
      · simp only []
        rw [if_neg (show ¬ (i : Int) + 8 ≤ i by omega), hashR, dif_neg (by omega)]
    · have h8 : i + 8 ≤ s.length := by omega
      have e1 : (if (s.length : Int) < (i : Int) + 8 then (s.length : Int) else (i : Int) + 8) = (i : Int) + 8 := by
        split
        · omega
        · rfl
      have e2 : ((i : Int) + 8).toNat - i = 8 := by omega
      have e3 : ((i : Int) == (w : Int)) = false := by rw [beq_eq_false_iff_ne]; omega
      refine .inr ⟨((tak ⟨a, b, c, d⟩ (wrd ((s.drop i).take 8) : Int)).e0, (tak ⟨a, b, c, d⟩ (wrd ((s.drop i).take 8) : Int)).e1, (tak ⟨a, b, c, d⟩ (wrd ((s.drop i).take 8) : Int)).e2, (tak ⟨a, b, c, d⟩ (wrd ((s.drop i).take 8) : Int)).e3, (i : Int) + 8), ?_, ⟨i + 8, by simp only; omega, by omega, by omega⟩, by simp only; omega, ?_⟩
      · simp only [e8, e1]
        rw [oreq_p (by omega), e2, word_eq12 (by rw [List.length_take]; omega), Option.bind_some, e3, cond_false]
        exact inner12 s (w : Int) (i : Int) a b c d _ (by omega)
      · simp only []
        rw [if_pos (show (i : Int) + 8 ≤ w by omega), show ((i : Int) + 8).toNat = i + 8 by omega]
        conv => rhs; rw [hashR, dif_pos (by simp; omega), List.drop_drop]
  · refine .inl ?_
    rw [cond_n (by omega), if_neg (show ¬ (i : Int) ≤ w by omega), Mix_eq, Option.bind_some, show cnt 4 = 4 from rfl]
    rfl
end Go.Vm.Code
namespace Go.Vm.Code
open Go Go.Vm Go.Proofs
set_option maxRecDepth 100000
set_option maxHeartbeats 4000000
set_option linter.unusedVariables false
def R14_RightF (l : api_Layout) : Option Bool :=
  cond (l.Wide)
    (
    cond (decide (l.Slot ≥ 0))
      (
      cond (decide (l.Slot ≤ 12))
        (
        cond (decide (l.Gen ≥ 0))
          (
          some (decide (l.Gen ≤ (wI .i64 (63 - l.Slot)))))
          (
          some (false)))
        (
        some (false)))
      (
      some (false)))
    (
    cond (decide (l.Slot ≥ 0))
      (
      cond (decide (l.Slot ≤ 12))
        (
        cond (decide (l.Gen ≥ 0))
          (
          some (decide (l.Gen ≤ (wI .i64 (16 - l.Slot)))))
          (
          some (false)))
        (
        some (false)))
      (
      some (false)))
def rx146 (x : Bool) : SRes := ⟨.bool x, [], []⟩
def r146 (g : api_Layout → Option Bool) : Dec := dV uvapi_Layout fun (y0 : api_Layout) => dEnd (ofG (g y0) rx146)
theorem r146_c {g : api_Layout → Option Bool} {y0 : api_Layout} {x : Bool} (hx : g y0 = some x) : r146 g [.agg ⟨[.bool y0.Wide, .int .i64 y0.Slot, .int .i64 y0.Gen]⟩] [] = some (rx146 x) := (dV_eq (uvapi_Layout_c _)).trans (ofG_eq hx)
def s146 (g : api_Layout → Option Bool) : Summ := ⟨[.v], r146 g⟩
theorem r146_eq {g : api_Layout → Option Bool} {y0 : api_Layout} {x : Bool} (hx : g y0 = some x) : (s146 g).run [.agg ⟨[.bool y0.Wide, .int .i64 y0.Slot, .int .i64 y0.Gen]⟩] [] = some (rx146 x) := r146_c hx
abbrev sums146 : List (Nat × Summ) := []
theorem leads146 (hS : SumsOK Try.prog (aget (sums146))) (l : api_Layout) (res : Bool) (h : R14_RightF l = some res) :
    Leads Try.prog 146 0 ⟨⟨146, 28, [(0, .agg ⟨[.bool l.Wide, .int .i64 l.Slot, .int .i64 l.Gen]⟩)], [.code k146_10], [], false, none⟩, [], [], 0⟩ (fun v H _ => Res 0 (rx146 res) v H) := by
  unfold R14_RightF at h
  refine ev_ok tab_ok hS true 3000 ?_
  conv => whnf
  refine br.h h ?_ ?_ ?_
  · rfl
  · clear h; intro hb h; conv => whnf
    refine br.h2 h ?_ ?_ ?_
    · rfl
    · clear h; intro hb h; conv => whnf
      all_goals (cases h; exact Res.z rfl rfl rfl)
    clear h; intro hb h; conv => whnf
    refine br.h2 h ?_ ?_ ?_
    · rfl
    · clear h; intro hb h; conv => whnf
      all_goals (cases h; exact Res.z rfl rfl rfl)
    clear h; intro hb h; conv => whnf
    refine br.h h ?_ ?_ ?_
    · rfl
    · clear h; intro hb h; conv => whnf
      all_goals (cases h; exact Res.z rfl rfl rfl)
    clear h; intro hb h; conv => whnf
    all_goals (cases h; exact Res.z rfl rfl rfl)
  clear h; intro hb h; conv => whnf
  refine br.h2 h ?_ ?_ ?_
  · rfl
  · clear h; intro hb h; conv => whnf
    all_goals (cases h; exact Res.z rfl rfl rfl)
  clear h; intro hb h; conv => whnf
  refine br.h2 h ?_ ?_ ?_
  · rfl
  · clear h; intro hb h; conv => whnf
    all_goals (cases h; exact Res.z rfl rfl rfl)
  clear h; intro hb h; conv => whnf
  refine br.h h ?_ ?_ ?_
  · rfl
  · clear h; intro hb h; conv => whnf
    all_goals (cases h; exact Res.z rfl rfl rfl)
  clear h; intro hb h; conv => whnf
  all_goals (cases h; exact Res.z rfl rfl rfl)
theorem ok146 (hS : SumsOK Try.prog (aget (sums146))) : SumOK Try.prog 146 (s146 (R14_RightF)) := by
  refine SumOK.of_leads tab_ok (fun ar os r ha hr => ?_) ⟨Try.f146, rfl, by decide, rfl⟩
  replace hr : r146 (R14_RightF) ar (conts os) = some r := hr
  unfold r146 at hr
  generalize hc : conts os = C at hr
  replace hr := dV.elim hr; obtain ⟨v0, l1, y0, rfl, e0, hr⟩ := hr; obtain rfl := uvapi_Layout_eq _ _ e0
  replace hr := dFin hr; obtain ⟨rfl, rfl, x, h, rfl⟩ := hr
  obtain rfl := kinds_nil hc
  exact ⟨_, rfl, leads146 hS _ x h⟩
def R14_Right : api_Layout → Option Bool := R14_RightF
theorem lift146 : SumOK Try.prog 146 (s146 R14_Right) := ok146 (SumsOK.of_tab trivial)
def R14_WidthF (R14_Right : api_Layout → Option Bool) (l : api_Layout) : Option Int :=
  (R14_Right l).bind fun xr =>
  cond (!xr)
    (
    some (0))
    (
    cond (l.Wide)
      (
      some (64))
      (
      some (16)))
def rx131 (x : Int) : SRes := ⟨.int .i64 x, [], []⟩
def r131 (g : api_Layout → Option Int) : Dec := dV uvapi_Layout fun (y0 : api_Layout) => dEnd (ofG (g y0) rx131)
theorem r131_c {g : api_Layout → Option Int} {y0 : api_Layout} {x : Int} (hx : g y0 = some x) : r131 g [.agg ⟨[.bool y0.Wide, .int .i64 y0.Slot, .int .i64 y0.Gen]⟩] [] = some (rx131 x) := (dV_eq (uvapi_Layout_c _)).trans (ofG_eq hx)
def s131 (g : api_Layout → Option Int) : Summ := ⟨[.v], r131 g⟩
theorem r131_eq {g : api_Layout → Option Int} {y0 : api_Layout} {x : Int} (hx : g y0 = some x) : (s131 g).run [.agg ⟨[.bool y0.Wide, .int .i64 y0.Slot, .int .i64 y0.Gen]⟩] [] = some (rx131 x) := r131_c hx
abbrev sums131 (R14_Right : api_Layout → Option Bool) : List (Nat × Summ) := [(146, s146 R14_Right)]
theorem leads131 (R14_Right : api_Layout → Option Bool) (hS : SumsOK Try.prog (aget (sums131 R14_Right))) (l : api_Layout) (res : Int) (h : R14_WidthF R14_Right l = some res) :
    Leads Try.prog 131 0 ⟨⟨131, 8, [(0, .agg ⟨[.bool l.Wide, .int .i64 l.Slot, .int .i64 l.Gen]⟩)], [.code k131_15], [], false, none⟩, [], [], 0⟩ (fun v H _ => Res 0 (rx131 res) v H) := by
  unfold R14_WidthF at h
  refine ev_ok tab_ok hS true 3000 ?_
  conv => whnf
  replace h := obind.elim h; obtain ⟨xr, hy, h⟩ := h
  refine sumK.q rfl rfl (r146_eq hy) rfl rfl rfl ?_
  conv => whnf
  refine br.h h ?_ ?_ ?_
  · rfl
  · clear h; intro hb h; conv => whnf
    all_goals (cases h; exact Res.z rfl rfl rfl)
  clear h; intro hb h; conv => whnf
  refine br.h h ?_ ?_ ?_
  · rfl
  · clear h; intro hb h; conv => whnf
    all_goals (cases h; exact Res.z rfl rfl rfl)
  clear h; intro hb h; conv => whnf
  all_goals (cases h; exact Res.z rfl rfl rfl)
theorem ok131 (R14_Right : api_Layout → Option Bool) (hS : SumsOK Try.prog (aget (sums131 R14_Right))) : SumOK Try.prog 131 (s131 (R14_WidthF R14_Right)) := by
  refine SumOK.of_leads tab_ok (fun ar os r ha hr => ?_) ⟨Try.f131, rfl, by decide, rfl⟩
  replace hr : r131 (R14_WidthF R14_Right) ar (conts os) = some r := hr
  unfold r131 at hr
  generalize hc : conts os = C at hr
  replace hr := dV.elim hr; obtain ⟨v0, l1, y0, rfl, e0, hr⟩ := hr; obtain rfl := uvapi_Layout_eq _ _ e0
  replace hr := dFin hr; obtain ⟨rfl, rfl, x, h, rfl⟩ := hr
  obtain rfl := kinds_nil hc
  exact ⟨_, rfl, leads131 R14_Right hS _ x h⟩
def R14_Width : api_Layout → Option Int := R14_WidthF R14_Right
theorem lift131 : SumOK Try.prog 131 (s131 R14_Width) := ok131 R14_Right (SumsOK.of_tab ⟨lift146, trivial⟩)
def R14_MaskF (R01_Mask : Int → Option Int) (R12_Hash : api_Key → (List UInt8) → Option Int) (R13_Put : api_Tuple → Option (List UInt8)) (R14_Width : api_Layout → Option Int) (l : api_Layout) (k : api_Key) (t : api_Tuple) (n : Int) : Option Int :=
  (R13_Put t).bind fun p =>
  (R12_Hash k p).bind fun xh =>
  (R14_Width l).bind fun w =>
  (R01_Mask w).bind fun m =>
  some (andI .u64 (ixorI .u64 n xh) m)
def rx92 (x : Int) : SRes := ⟨.int .u64 x, [], []⟩
def r92 (g : api_Layout → api_Key → api_Tuple → Int → Option Int) : Dec := dV uvapi_Layout fun (y0 : api_Layout) => dV uvapi_Key fun (y1 : api_Key) => dV uvapi_Tuple fun (y2 : api_Tuple) => dV (asI .u64) fun (y3 : Int) => dEnd (ofG (g y0 y1 y2 y3) rx92)
theorem r92_c {g : api_Layout → api_Key → api_Tuple → Int → Option Int} {y0 : api_Layout} {y1 : api_Key} {y2 : api_Tuple} {y3 : Int} {x : Int} (hx : g y0 y1 y2 y3 = some x) : r92 g [.agg ⟨[.bool y0.Wide, .int .i64 y0.Slot, .int .i64 y0.Gen]⟩, .agg ⟨[.int .u64 y1.A, .int .u64 y1.B]⟩, .agg ⟨[.int .i64 y2.Proto, .bool y2.Src.V6, .int .u64 y2.Src.Hi, .int .u64 y2.Src.Lo, .bool y2.Dst.V6, .int .u64 y2.Dst.Hi, .int .u64 y2.Dst.Lo, .int .i64 y2.SPort, .int .i64 y2.DPort]⟩, .int .u64 y3] [] = some (rx92 x) := (dV_eq (uvapi_Layout_c _)).trans ((dV_eq (uvapi_Key_c _)).trans ((dV_eq (uvapi_Tuple_c _)).trans ((dV_eq (asI_c _)).trans (ofG_eq hx))))
def s92 (g : api_Layout → api_Key → api_Tuple → Int → Option Int) : Summ := ⟨[.v, .v, .v, .v], r92 g⟩
theorem r92_eq {g : api_Layout → api_Key → api_Tuple → Int → Option Int} {y0 : api_Layout} {y1 : api_Key} {y2 : api_Tuple} {y3 : Int} {x : Int} (hx : g y0 y1 y2 y3 = some x) : (s92 g).run [.agg ⟨[.bool y0.Wide, .int .i64 y0.Slot, .int .i64 y0.Gen]⟩, .agg ⟨[.int .u64 y1.A, .int .u64 y1.B]⟩, .agg ⟨[.int .i64 y2.Proto, .bool y2.Src.V6, .int .u64 y2.Src.Hi, .int .u64 y2.Src.Lo, .bool y2.Dst.V6, .int .u64 y2.Dst.Hi, .int .u64 y2.Dst.Lo, .int .i64 y2.SPort, .int .i64 y2.DPort]⟩, .int .u64 y3] [] = some (rx92 x) := r92_c hx
abbrev sums92 (R01_Mask : Int → Option Int) (R12_Hash : api_Key → (List UInt8) → Option Int) (R13_Put : api_Tuple → Option (List UInt8)) (R14_Width : api_Layout → Option Int) : List (Nat × Summ) := [(130, s130 R01_Mask), (95, s95 R12_Hash), (129, s129 R13_Put), (131, s131 R14_Width)]
theorem leads92 (R01_Mask : Int → Option Int) (R12_Hash : api_Key → (List UInt8) → Option Int) (R13_Put : api_Tuple → Option (List UInt8)) (R14_Width : api_Layout → Option Int) (hS : SumsOK Try.prog (aget (sums92 R01_Mask R12_Hash R13_Put R14_Width))) (l : api_Layout) (k : api_Key) (t : api_Tuple) (n : Int) (res : Int) (h : R14_MaskF R01_Mask R12_Hash R13_Put R14_Width l k t n = some res) :
    Leads Try.prog 92 0 ⟨⟨92, 19, [(0, .agg ⟨[.bool l.Wide, .int .i64 l.Slot, .int .i64 l.Gen]⟩), (1, .agg ⟨[.int .u64 k.A, .int .u64 k.B]⟩), (2, .agg ⟨[.int .i64 t.Proto, .bool t.Src.V6, .int .u64 t.Src.Hi, .int .u64 t.Src.Lo, .bool t.Dst.V6, .int .u64 t.Dst.Hi, .int .u64 t.Dst.Lo, .int .i64 t.SPort, .int .i64 t.DPort]⟩), (3, .int .u64 n)], [.code k92_3], [], false, none⟩, [], [], 0⟩ (fun v H _ => Res 0 (rx92 res) v H) := by
  unfold R14_MaskF at h
  refine ev_ok tab_ok hS true 3000 ?_
  conv => whnf
  replace h := obind.elim h; obtain ⟨p, hy, h⟩ := h
  refine sumK.q rfl rfl (r129_eq hy) rfl rfl rfl ?_
  conv => whnf
  replace h := obind.elim h; obtain ⟨xh, hy, h⟩ := h
  refine sumK.q rfl rfl (r95_eq hy) rfl rfl rfl ?_
  conv => whnf
  replace h := obind.elim h; obtain ⟨w, hy, h⟩ := h
  refine sumK.q rfl rfl (r131_eq hy) rfl rfl rfl ?_
  conv => whnf
  replace h := obind.elim h; obtain ⟨m, hy, h⟩ := h
  refine sumK.q rfl rfl (r130_eq hy) rfl rfl rfl ?_
  conv => whnf
  all_goals (cases h; exact Res.z rfl rfl rfl)
theorem ok92 (R01_Mask : Int → Option Int) (R12_Hash : api_Key → (List UInt8) → Option Int) (R13_Put : api_Tuple → Option (List UInt8)) (R14_Width : api_Layout → Option Int) (hS : SumsOK Try.prog (aget (sums92 R01_Mask R12_Hash R13_Put R14_Width))) : SumOK Try.prog 92 (s92 (R14_MaskF R01_Mask R12_Hash R13_Put R14_Width)) := by
  refine SumOK.of_leads tab_ok (fun ar os r ha hr => ?_) ⟨Try.f92, rfl, by decide, rfl⟩
  replace hr : r92 (R14_MaskF R01_Mask R12_Hash R13_Put R14_Width) ar (conts os) = some r := hr
  unfold r92 at hr
  generalize hc : conts os = C at hr
  replace hr := dV.elim hr; obtain ⟨v0, l1, y0, rfl, e0, hr⟩ := hr; obtain rfl := uvapi_Layout_eq _ _ e0
  replace hr := dV.elim hr; obtain ⟨v1, l2, y1, rfl, e1, hr⟩ := hr; obtain rfl := uvapi_Key_eq _ _ e1
  replace hr := dV.elim hr; obtain ⟨v2, l3, y2, rfl, e2, hr⟩ := hr; obtain rfl := uvapi_Tuple_eq _ _ e2
  replace hr := dV.elim hr; obtain ⟨v3, l4, y3, rfl, e3, hr⟩ := hr; obtain rfl := asI_eq _ _ _ e3
  replace hr := dFin hr; obtain ⟨rfl, rfl, x, h, rfl⟩ := hr
  obtain rfl := kinds_nil hc
  exact ⟨_, rfl, leads92 R01_Mask R12_Hash R13_Put R14_Width hS _ _ _ _ x h⟩
def R14_Mask : api_Layout → api_Key → api_Tuple → Int → Option Int := R14_MaskF R01_Mask R12_Hash R13_Put R14_Width
theorem lift92 : SumOK Try.prog 92 (s92 R14_Mask) := ok92 R01_Mask R12_Hash R13_Put R14_Width (SumsOK.of_tab ⟨lift130, lift95, lift129, lift131, trivial⟩)
def cookie_layout_bitsF (l : cookie_layout) : Option Int :=
  cond (l.Layout.Wide)
    (
    some (64))
    (
    some (16))
def rx158 (x : Int) : SRes := ⟨.int .i64 x, [], []⟩
def r158 (g : cookie_layout → Option Int) : Dec := dV uvcookie_layout fun (y0 : cookie_layout) => dEnd (ofG (g y0) rx158)
theorem r158_c {g : cookie_layout → Option Int} {y0 : cookie_layout} {x : Int} (hx : g y0 = some x) : r158 g [.agg ⟨[.bool y0.Layout.Wide, .int .i64 y0.Layout.Slot, .int .i64 y0.Layout.Gen]⟩] [] = some (rx158 x) := (dV_eq (uvcookie_layout_c _)).trans (ofG_eq hx)
def s158 (g : cookie_layout → Option Int) : Summ := ⟨[.v], r158 g⟩
theorem r158_eq {g : cookie_layout → Option Int} {y0 : cookie_layout} {x : Int} (hx : g y0 = some x) : (s158 g).run [.agg ⟨[.bool y0.Layout.Wide, .int .i64 y0.Layout.Slot, .int .i64 y0.Layout.Gen]⟩] [] = some (rx158 x) := r158_c hx
abbrev sums158 : List (Nat × Summ) := []
theorem leads158 (hS : SumsOK Try.prog (aget (sums158))) (l : cookie_layout) (res : Int) (h : cookie_layout_bitsF l = some res) :
    Leads Try.prog 158 0 ⟨⟨158, 6, [(0, .agg ⟨[.bool l.Layout.Wide, .int .i64 l.Layout.Slot, .int .i64 l.Layout.Gen]⟩)], [.code k158_9], [], false, none⟩, [], [], 0⟩ (fun v H _ => Res 0 (rx158 res) v H) := by
  unfold cookie_layout_bitsF at h
  refine ev_ok tab_ok hS true 3000 ?_
  conv => whnf
  refine br.h h ?_ ?_ ?_
  · rfl
  · clear h; intro hb h; conv => whnf
    all_goals (cases h; exact Res.z rfl rfl rfl)
  clear h; intro hb h; conv => whnf
  all_goals (cases h; exact Res.z rfl rfl rfl)
theorem ok158 (hS : SumsOK Try.prog (aget (sums158))) : SumOK Try.prog 158 (s158 (cookie_layout_bitsF)) := by
  refine SumOK.of_leads tab_ok (fun ar os r ha hr => ?_) ⟨Try.f158, rfl, by decide, rfl⟩
  replace hr : r158 (cookie_layout_bitsF) ar (conts os) = some r := hr
  unfold r158 at hr
  generalize hc : conts os = C at hr
  replace hr := dV.elim hr; obtain ⟨v0, l1, y0, rfl, e0, hr⟩ := hr; obtain rfl := uvcookie_layout_eq _ _ e0
  replace hr := dFin hr; obtain ⟨rfl, rfl, x, h, rfl⟩ := hr
  obtain rfl := kinds_nil hc
  exact ⟨_, rfl, leads158 hS _ x h⟩
def cookie_layout_bits : cookie_layout → Option Int := cookie_layout_bitsF
theorem lift158 : SumOK Try.prog 158 (s158 cookie_layout_bits) := ok158 (SumsOK.of_tab trivial)
def cookie_layout_mayF (cookie_layout_bits : cookie_layout → Option Int) (l : cookie_layout) : Option Bool :=
  cond (decide (l.Layout.Slot < 0))
    (
    some (false))
    (
    cond (decide (l.Layout.Slot > 12))
      (
      some (false))
      (
      cond (decide (l.Layout.Gen < 0))
        (
        some (false))
        (
        (cookie_layout_bits l).bind fun b =>
        let t := wI .i64 ((if 63 < b then 63 else b) - l.Layout.Slot)
        some (decide (l.Layout.Gen ≤ t)))))
def rx161 (x : Bool) : SRes := ⟨.bool x, [], []⟩
def r161 (g : cookie_layout → Option Bool) : Dec := dV uvcookie_layout fun (y0 : cookie_layout) => dEnd (ofG (g y0) rx161)
theorem r161_c {g : cookie_layout → Option Bool} {y0 : cookie_layout} {x : Bool} (hx : g y0 = some x) : r161 g [.agg ⟨[.bool y0.Layout.Wide, .int .i64 y0.Layout.Slot, .int .i64 y0.Layout.Gen]⟩] [] = some (rx161 x) := (dV_eq (uvcookie_layout_c _)).trans (ofG_eq hx)
def s161 (g : cookie_layout → Option Bool) : Summ := ⟨[.v], r161 g⟩
theorem r161_eq {g : cookie_layout → Option Bool} {y0 : cookie_layout} {x : Bool} (hx : g y0 = some x) : (s161 g).run [.agg ⟨[.bool y0.Layout.Wide, .int .i64 y0.Layout.Slot, .int .i64 y0.Layout.Gen]⟩] [] = some (rx161 x) := r161_c hx
abbrev sums161 (cookie_layout_bits : cookie_layout → Option Int) : List (Nat × Summ) := [(158, s158 cookie_layout_bits)]
theorem leads161 (cookie_layout_bits : cookie_layout → Option Int) (hS : SumsOK Try.prog (aget (sums161 cookie_layout_bits))) (l : cookie_layout) (res : Bool) (h : cookie_layout_mayF cookie_layout_bits l = some res) :
    Leads Try.prog 161 0 ⟨⟨161, 30, [(0, .agg ⟨[.bool l.Layout.Wide, .int .i64 l.Layout.Slot, .int .i64 l.Layout.Gen]⟩)], [.code k161_9], [], false, none⟩, [], [], 0⟩ (fun v H _ => Res 0 (rx161 res) v H) := by
  unfold cookie_layout_mayF at h
  refine ev_ok tab_ok hS true 3000 ?_
  conv => whnf
  refine br.h h ?_ ?_ ?_
  · rfl
  · clear h; intro hb h; conv => whnf
    all_goals (cases h; exact Res.z rfl rfl rfl)
  clear h; intro hb h; conv => whnf
  refine br.h h ?_ ?_ ?_
  · rfl
  · clear h; intro hb h; conv => whnf
    all_goals (cases h; exact Res.z rfl rfl rfl)
  clear h; intro hb h; conv => whnf
  refine br.h h ?_ ?_ ?_
  · rfl
  · clear h; intro hb h; conv => whnf
    all_goals (cases h; exact Res.z rfl rfl rfl)
  clear h; intro hb h; conv => whnf
  replace h := obind.elim h; obtain ⟨b, hy, h⟩ := h
  refine sumK.q rfl rfl (r158_eq hy) rfl rfl rfl ?_
  conv => whnf
  let t : Int := wI .i64 ((if 63 < b then 63 else b) - l.Layout.Slot)
  all_goals (cases h; exact Res.z rfl rfl rfl)
theorem ok161 (cookie_layout_bits : cookie_layout → Option Int) (hS : SumsOK Try.prog (aget (sums161 cookie_layout_bits))) : SumOK Try.prog 161 (s161 (cookie_layout_mayF cookie_layout_bits)) := by
  refine SumOK.of_leads tab_ok (fun ar os r ha hr => ?_) ⟨Try.f161, rfl, by decide, rfl⟩
  replace hr : r161 (cookie_layout_mayF cookie_layout_bits) ar (conts os) = some r := hr
  unfold r161 at hr
  generalize hc : conts os = C at hr
  replace hr := dV.elim hr; obtain ⟨v0, l1, y0, rfl, e0, hr⟩ := hr; obtain rfl := uvcookie_layout_eq _ _ e0
  replace hr := dFin hr; obtain ⟨rfl, rfl, x, h, rfl⟩ := hr
  obtain rfl := kinds_nil hc
  exact ⟨_, rfl, leads161 cookie_layout_bits hS _ x h⟩
def cookie_layout_may : cookie_layout → Option Bool := cookie_layout_mayF cookie_layout_bits
theorem lift161 : SumOK Try.prog 161 (s161 cookie_layout_may) := ok161 cookie_layout_bits (SumsOK.of_tab ⟨lift158, trivial⟩)
def cookie_RightF (cookie_layout_may : cookie_layout → Option Bool) (l : api_Layout) : Option Bool :=
  (cookie_layout_may (cookie_layout.mk l)).bind fun m =>
  some (m)
def rx157 (x : Bool) : SRes := ⟨.bool x, [], []⟩
def r157 (g : api_Layout → Option Bool) : Dec := dV uvapi_Layout fun (y0 : api_Layout) => dEnd (ofG (g y0) rx157)
theorem r157_c {g : api_Layout → Option Bool} {y0 : api_Layout} {x : Bool} (hx : g y0 = some x) : r157 g [.agg ⟨[.bool y0.Wide, .int .i64 y0.Slot, .int .i64 y0.Gen]⟩] [] = some (rx157 x) := (dV_eq (uvapi_Layout_c _)).trans (ofG_eq hx)
def s157 (g : api_Layout → Option Bool) : Summ := ⟨[.v], r157 g⟩
theorem r157_eq {g : api_Layout → Option Bool} {y0 : api_Layout} {x : Bool} (hx : g y0 = some x) : (s157 g).run [.agg ⟨[.bool y0.Wide, .int .i64 y0.Slot, .int .i64 y0.Gen]⟩] [] = some (rx157 x) := r157_c hx
abbrev sums157 (cookie_layout_may : cookie_layout → Option Bool) : List (Nat × Summ) := [(161, s161 cookie_layout_may)]
theorem leads157 (cookie_layout_may : cookie_layout → Option Bool) (hS : SumsOK Try.prog (aget (sums157 cookie_layout_may))) (l : api_Layout) (res : Bool) (h : cookie_RightF cookie_layout_may l = some res) :
    Leads Try.prog 157 0 ⟨⟨157, 6, [(0, .agg ⟨[.bool l.Wide, .int .i64 l.Slot, .int .i64 l.Gen]⟩)], [.code k157_3], [], false, none⟩, [], [], 0⟩ (fun v H _ => Res 0 (rx157 res) v H) := by
  unfold cookie_RightF at h
  refine ev_ok tab_ok hS true 3000 ?_
  conv => whnf
  replace h := obind.elim h; obtain ⟨m, hy, h⟩ := h
  refine sumK.q rfl rfl (r161_eq hy) rfl rfl rfl ?_
  conv => whnf
  all_goals (cases h; exact Res.z rfl rfl rfl)
theorem ok157 (cookie_layout_may : cookie_layout → Option Bool) (hS : SumsOK Try.prog (aget (sums157 cookie_layout_may))) : SumOK Try.prog 157 (s157 (cookie_RightF cookie_layout_may)) := by
  refine SumOK.of_leads tab_ok (fun ar os r ha hr => ?_) ⟨Try.f157, rfl, by decide, rfl⟩
  replace hr : r157 (cookie_RightF cookie_layout_may) ar (conts os) = some r := hr
  unfold r157 at hr
  generalize hc : conts os = C at hr
  replace hr := dV.elim hr; obtain ⟨v0, l1, y0, rfl, e0, hr⟩ := hr; obtain rfl := uvapi_Layout_eq _ _ e0
  replace hr := dFin hr; obtain ⟨rfl, rfl, x, h, rfl⟩ := hr
  obtain rfl := kinds_nil hc
  exact ⟨_, rfl, leads157 cookie_layout_may hS _ x h⟩
def cookie_Right : api_Layout → Option Bool := cookie_RightF cookie_layout_may
theorem lift157 : SumOK Try.prog 157 (s157 cookie_Right) := ok157 cookie_layout_may (SumsOK.of_tab ⟨lift161, trivial⟩)
def cookie_WidthF (cookie_Right : api_Layout → Option Bool) (cookie_layout_bits : cookie_layout → Option Int) (l : api_Layout) : Option Int :=
  (cookie_Right l).bind fun xr =>
  cond (!xr)
    (
    some (0))
    (
    (cookie_layout_bits (cookie_layout.mk l)).bind fun b =>
    some (b))
def rx152 (x : Int) : SRes := ⟨.int .i64 x, [], []⟩
def r152 (g : api_Layout → Option Int) : Dec := dV uvapi_Layout fun (y0 : api_Layout) => dEnd (ofG (g y0) rx152)
theorem r152_c {g : api_Layout → Option Int} {y0 : api_Layout} {x : Int} (hx : g y0 = some x) : r152 g [.agg ⟨[.bool y0.Wide, .int .i64 y0.Slot, .int .i64 y0.Gen]⟩] [] = some (rx152 x) := (dV_eq (uvapi_Layout_c _)).trans (ofG_eq hx)
def s152 (g : api_Layout → Option Int) : Summ := ⟨[.v], r152 g⟩
theorem r152_eq {g : api_Layout → Option Int} {y0 : api_Layout} {x : Int} (hx : g y0 = some x) : (s152 g).run [.agg ⟨[.bool y0.Wide, .int .i64 y0.Slot, .int .i64 y0.Gen]⟩] [] = some (rx152 x) := r152_c hx
abbrev sums152 (cookie_Right : api_Layout → Option Bool) (cookie_layout_bits : cookie_layout → Option Int) : List (Nat × Summ) := [(157, s157 cookie_Right), (158, s158 cookie_layout_bits)]
theorem leads152 (cookie_Right : api_Layout → Option Bool) (cookie_layout_bits : cookie_layout → Option Int) (hS : SumsOK Try.prog (aget (sums152 cookie_Right cookie_layout_bits))) (l : api_Layout) (res : Int) (h : cookie_WidthF cookie_Right cookie_layout_bits l = some res) :
    Leads Try.prog 152 0 ⟨⟨152, 9, [(0, .agg ⟨[.bool l.Wide, .int .i64 l.Slot, .int .i64 l.Gen]⟩)], [.code k152_9], [], false, none⟩, [], [], 0⟩ (fun v H _ => Res 0 (rx152 res) v H) := by
  unfold cookie_WidthF at h
  refine ev_ok tab_ok hS true 3000 ?_
  conv => whnf
  replace h := obind.elim h; obtain ⟨xr, hy, h⟩ := h
  refine sumK.q rfl rfl (r157_eq hy) rfl rfl rfl ?_
  conv => whnf
  refine br.h h ?_ ?_ ?_
  · rfl
  · clear h; intro hb h; conv => whnf
    all_goals (cases h; exact Res.z rfl rfl rfl)
  clear h; intro hb h; conv => whnf
  replace h := obind.elim h; obtain ⟨b, hy, h⟩ := h
  refine sumK.q rfl rfl (r158_eq hy) rfl rfl rfl ?_
  conv => whnf
  all_goals (cases h; exact Res.z rfl rfl rfl)
theorem ok152 (cookie_Right : api_Layout → Option Bool) (cookie_layout_bits : cookie_layout → Option Int) (hS : SumsOK Try.prog (aget (sums152 cookie_Right cookie_layout_bits))) : SumOK Try.prog 152 (s152 (cookie_WidthF cookie_Right cookie_layout_bits)) := by
  refine SumOK.of_leads tab_ok (fun ar os r ha hr => ?_) ⟨Try.f152, rfl, by decide, rfl⟩
  replace hr : r152 (cookie_WidthF cookie_Right cookie_layout_bits) ar (conts os) = some r := hr
  unfold r152 at hr
  generalize hc : conts os = C at hr
  replace hr := dV.elim hr; obtain ⟨v0, l1, y0, rfl, e0, hr⟩ := hr; obtain rfl := uvapi_Layout_eq _ _ e0
  replace hr := dFin hr; obtain ⟨rfl, rfl, x, h, rfl⟩ := hr
  obtain rfl := kinds_nil hc
  exact ⟨_, rfl, leads152 cookie_Right cookie_layout_bits hS _ x h⟩
def cookie_Width : api_Layout → Option Int := cookie_WidthF cookie_Right cookie_layout_bits
theorem lift152 : SumOK Try.prog 152 (s152 cookie_Width) := ok152 cookie_Right cookie_layout_bits (SumsOK.of_tab ⟨lift157, lift158, trivial⟩)
def cookie_MaskF (cookie_Width : api_Layout → Option Int) (num_Mask : Int → Option Int) (sip_Hasher_Sum : sip_Hasher → Option (Int × sip_Hasher)) (sip_Hasher_Write : sip_Hasher → (List UInt8) → Option sip_Hasher) (sip_New : api_Key → Option sip_Hasher) (tuple_Put : api_Tuple → Option (List UInt8)) (l : api_Layout) (k : api_Key) (t : api_Tuple) (n : Int) : Option Int :=
  (sip_New k).bind fun n1 =>
  (tuple_Put t).bind fun p =>
  (sip_Hasher_Write n1 p).bind fun w =>
  (sip_Hasher_Sum w).bind fun s =>
  (cookie_Width l).bind fun w1 =>
  (num_Mask w1).bind fun m =>
  some (andI .u64 (ixorI .u64 n s.1) m)
def rx143 (x : Int) : SRes := ⟨.int .u64 x, [], []⟩
def r143 (g : api_Layout → api_Key → api_Tuple → Int → Option Int) : Dec := dV uvapi_Layout fun (y0 : api_Layout) => dV uvapi_Key fun (y1 : api_Key) => dV uvapi_Tuple fun (y2 : api_Tuple) => dV (asI .u64) fun (y3 : Int) => dEnd (ofG (g y0 y1 y2 y3) rx143)
theorem r143_c {g : api_Layout → api_Key → api_Tuple → Int → Option Int} {y0 : api_Layout} {y1 : api_Key} {y2 : api_Tuple} {y3 : Int} {x : Int} (hx : g y0 y1 y2 y3 = some x) : r143 g [.agg ⟨[.bool y0.Wide, .int .i64 y0.Slot, .int .i64 y0.Gen]⟩, .agg ⟨[.int .u64 y1.A, .int .u64 y1.B]⟩, .agg ⟨[.int .i64 y2.Proto, .bool y2.Src.V6, .int .u64 y2.Src.Hi, .int .u64 y2.Src.Lo, .bool y2.Dst.V6, .int .u64 y2.Dst.Hi, .int .u64 y2.Dst.Lo, .int .i64 y2.SPort, .int .i64 y2.DPort]⟩, .int .u64 y3] [] = some (rx143 x) := (dV_eq (uvapi_Layout_c _)).trans ((dV_eq (uvapi_Key_c _)).trans ((dV_eq (uvapi_Tuple_c _)).trans ((dV_eq (asI_c _)).trans (ofG_eq hx))))
def s143 (g : api_Layout → api_Key → api_Tuple → Int → Option Int) : Summ := ⟨[.v, .v, .v, .v], r143 g⟩
theorem r143_eq {g : api_Layout → api_Key → api_Tuple → Int → Option Int} {y0 : api_Layout} {y1 : api_Key} {y2 : api_Tuple} {y3 : Int} {x : Int} (hx : g y0 y1 y2 y3 = some x) : (s143 g).run [.agg ⟨[.bool y0.Wide, .int .i64 y0.Slot, .int .i64 y0.Gen]⟩, .agg ⟨[.int .u64 y1.A, .int .u64 y1.B]⟩, .agg ⟨[.int .i64 y2.Proto, .bool y2.Src.V6, .int .u64 y2.Src.Hi, .int .u64 y2.Src.Lo, .bool y2.Dst.V6, .int .u64 y2.Dst.Hi, .int .u64 y2.Dst.Lo, .int .i64 y2.SPort, .int .i64 y2.DPort]⟩, .int .u64 y3] [] = some (rx143 x) := r143_c hx
abbrev sums143 (cookie_Width : api_Layout → Option Int) (num_Mask : Int → Option Int) (sip_Hasher_Sum : sip_Hasher → Option (Int × sip_Hasher)) (sip_Hasher_Write : sip_Hasher → (List UInt8) → Option sip_Hasher) (sip_New : api_Key → Option sip_Hasher) (tuple_Put : api_Tuple → Option (List UInt8)) : List (Nat × Summ) := [(152, s152 cookie_Width), (151, s151 num_Mask), (134, s134 sip_Hasher_Sum), (133, s133 sip_Hasher_Write), (132, s132 sip_New), (150, s150 tuple_Put)]
theorem leads143 (cookie_Width : api_Layout → Option Int) (num_Mask : Int → Option Int) (sip_Hasher_Sum : sip_Hasher → Option (Int × sip_Hasher)) (sip_Hasher_Write : sip_Hasher → (List UInt8) → Option sip_Hasher) (sip_New : api_Key → Option sip_Hasher) (tuple_Put : api_Tuple → Option (List UInt8)) (hS : SumsOK Try.prog (aget (sums143 cookie_Width num_Mask sip_Hasher_Sum sip_Hasher_Write sip_New tuple_Put))) (l : api_Layout) (k : api_Key) (t : api_Tuple) (n : Int) (res : Int) (h : cookie_MaskF cookie_Width num_Mask sip_Hasher_Sum sip_Hasher_Write sip_New tuple_Put l k t n = some res) :
    Leads Try.prog 143 0 ⟨⟨143, 24, [(0, .agg ⟨[.bool l.Wide, .int .i64 l.Slot, .int .i64 l.Gen]⟩), (1, .agg ⟨[.int .u64 k.A, .int .u64 k.B]⟩), (2, .agg ⟨[.int .i64 t.Proto, .bool t.Src.V6, .int .u64 t.Src.Hi, .int .u64 t.Src.Lo, .bool t.Dst.V6, .int .u64 t.Dst.Hi, .int .u64 t.Dst.Lo, .int .i64 t.SPort, .int .i64 t.DPort]⟩), (3, .int .u64 n)], [.code k143_7], [], false, none⟩, [], [], 0⟩ (fun v H _ => Res 0 (rx143 res) v H) := by
  unfold cookie_MaskF at h
  refine ev_ok tab_ok hS true 3000 ?_
  conv => whnf
  replace h := obind.elim h; obtain ⟨n1, hy, h⟩ := h
  refine sumK.introF [3] (sumRun_of (aqs := [.agg ⟨[.int .u64 k.A, .int .u64 k.B]⟩]) (ws := []) (n := 1) (m := 0) (t' := 4) (ra_cons rfl rfl ra_nil) rfl (by rfl) (r132_eq hy) rfl rfl rfl rfl wb_nil (an_cons (rfl) an_nil) rfl) ?_
  conv => whnf
  replace h := obind.elim h; obtain ⟨p, hy, h⟩ := h
  refine sumK.q rfl rfl (r150_eq hy) rfl rfl rfl ?_
  conv => whnf
  replace h := obind.elim h; obtain ⟨w, hy, h⟩ := h
  refine sumK.introF [3] (sumRun_of (aqs := [.pointer (some ⟨0, 0, none⟩), .string ⟨⟨p⟩⟩]) (ws := [.win 3 0 7 true]) (n := 0) (m := 0) (t' := 4) (ra_cons rfl rfl (ra_cons rfl rfl ra_nil)) rfl (by rfl) (r133_eq hy) rfl rfl rfl rfl (wb_win rfl rfl rfl ⟨rfl, Nat.le_of_ble_eq_true rfl⟩ rfl rfl wb_nil) an_nil rfl) ?_
  conv => whnf
  replace h := obind.elim h; obtain ⟨s, hy, h⟩ := h
  refine sumK.introF [3] (sumRun_of (aqs := [.pointer (some ⟨0, 0, none⟩)]) (ws := [.win 3 0 7 true]) (n := 0) (m := 0) (t' := 6) (ra_cons rfl rfl ra_nil) rfl (by rfl) (r134_eq hy) rfl rfl rfl rfl (wb_win rfl rfl rfl ⟨rfl, Nat.le_of_ble_eq_true rfl⟩ rfl rfl wb_nil) an_nil rfl) ?_
  conv => whnf
  replace h := obind.elim h; obtain ⟨w1, hy, h⟩ := h
  refine sumK.q rfl rfl (r152_eq hy) rfl rfl rfl ?_
  conv => whnf
  replace h := obind.elim h; obtain ⟨m, hy, h⟩ := h
  refine sumK.q rfl rfl (r151_eq hy) rfl rfl rfl ?_
  conv => whnf
  all_goals (cases h; exact Res.z rfl rfl rfl)
theorem ok143 (cookie_Width : api_Layout → Option Int) (num_Mask : Int → Option Int) (sip_Hasher_Sum : sip_Hasher → Option (Int × sip_Hasher)) (sip_Hasher_Write : sip_Hasher → (List UInt8) → Option sip_Hasher) (sip_New : api_Key → Option sip_Hasher) (tuple_Put : api_Tuple → Option (List UInt8)) (hS : SumsOK Try.prog (aget (sums143 cookie_Width num_Mask sip_Hasher_Sum sip_Hasher_Write sip_New tuple_Put))) : SumOK Try.prog 143 (s143 (cookie_MaskF cookie_Width num_Mask sip_Hasher_Sum sip_Hasher_Write sip_New tuple_Put)) := by
  refine SumOK.of_leads tab_ok (fun ar os r ha hr => ?_) ⟨Try.f143, rfl, by decide, rfl⟩
  replace hr : r143 (cookie_MaskF cookie_Width num_Mask sip_Hasher_Sum sip_Hasher_Write sip_New tuple_Put) ar (conts os) = some r := hr
  unfold r143 at hr
  generalize hc : conts os = C at hr
  replace hr := dV.elim hr; obtain ⟨v0, l1, y0, rfl, e0, hr⟩ := hr; obtain rfl := uvapi_Layout_eq _ _ e0
  replace hr := dV.elim hr; obtain ⟨v1, l2, y1, rfl, e1, hr⟩ := hr; obtain rfl := uvapi_Key_eq _ _ e1
  replace hr := dV.elim hr; obtain ⟨v2, l3, y2, rfl, e2, hr⟩ := hr; obtain rfl := uvapi_Tuple_eq _ _ e2
  replace hr := dV.elim hr; obtain ⟨v3, l4, y3, rfl, e3, hr⟩ := hr; obtain rfl := asI_eq _ _ _ e3
  replace hr := dFin hr; obtain ⟨rfl, rfl, x, h, rfl⟩ := hr
  obtain rfl := kinds_nil hc
  exact ⟨_, rfl, leads143 cookie_Width num_Mask sip_Hasher_Sum sip_Hasher_Write sip_New tuple_Put hS _ _ _ _ x h⟩
def cookie_Mask : api_Layout → api_Key → api_Tuple → Int → Option Int := cookie_MaskF cookie_Width num_Mask sip_Hasher_Sum sip_Hasher_Write sip_New tuple_Put
theorem lift143 : SumOK Try.prog 143 (s143 cookie_Mask) := ok143 cookie_Width num_Mask sip_Hasher_Sum sip_Hasher_Write sip_New tuple_Put (SumsOK.of_tab ⟨lift152, lift151, lift134, lift133, lift132, lift150, trivial⟩)
end Go.Vm.Code
namespace Go.Vm.Code
open Go Go.Vm
def bitsN (l : api_Layout) : Nat := cond l.Wide 64 16
def LOK (l : api_Layout) : Prop := (0 ≤ l.Slot ∧ l.Slot ≤ 12) ∧ 0 ≤ l.Gen ∧ l.Gen ≤ (cond l.Wide 63 16 : Int) - l.Slot
instance (l : api_Layout) : Decidable (LOK l) := inferInstanceAs (Decidable (_ ∧ _))
theorem LOK_w {l : api_Layout} {w : Bool} (hw : l.Wide = w) : LOK l ↔ ((0 ≤ l.Slot ∧ l.Slot ≤ 12) ∧ 0 ≤ l.Gen ∧ l.Gen ≤ (cond w 63 16 : Int) - l.Slot) := by
  unfold LOK; rw [hw]
theorem cRight_eq {l : api_Layout} (_ : True) : cookie_Right l = some (decide (LOK l)) := by
  unfold cookie_Right cookie_RightF cookie_layout_may cookie_layout_mayF cookie_layout_bits cookie_layout_bitsF
  simp only []
  by_cases h1 : l.Slot < 0
  · rw [cond_p h1, decide_eq_false (fun h : LOK l => by have := h.1; omega)]; rfl
  rw [cond_n h1]
  by_cases h2 : l.Slot > 12
  · rw [cond_p h2, decide_eq_false (fun h : LOK l => by have := h.1; omega)]; rfl
  rw [cond_n h2]
  by_cases h3 : l.Gen < 0
  · rw [cond_p h3, decide_eq_false (fun h : LOK l => by have := h.2; omega)]; rfl
  rw [cond_n h3]
  cases hw : l.Wide with
  | true =>
    simp only [cond_true, Option.bind_some]
    rw [if_pos (by omega), wI64 (by omega) (by omega)]
    congr 1; rw [Bool.eq_iff_iff, decide_eq_true_eq, decide_eq_true_eq, LOK_w hw, cond_true]; omega
  | false =>
    simp only [cond_false, Option.bind_some]
    rw [if_neg (by omega), wI64 (by omega) (by omega)]
    congr 1; rw [Bool.eq_iff_iff, decide_eq_true_eq, decide_eq_true_eq, LOK_w hw, cond_false]; omega
theorem rRight_eq (l : api_Layout) : R14_Right l = some (decide (LOK l)) := by
  unfold R14_Right R14_RightF
  have key : ∀ (b : Bool) (w : Int), l.Wide = b → w = cond b 63 16 → (cond (decide (l.Slot ≥ 0)) (cond (decide (l.Slot ≤ 12)) (cond (decide (l.Gen ≥ 0)) (some (decide (l.Gen ≤ (wI .i64 (w - l.Slot))))) (some (false))) (some (false))) (some (false)) : Option Bool) = some (decide (LOK l)) := by
    intro b w hb hw
    have hw2 : w = 63 ∨ w = 16 := by cases b <;> simp only [cond_true, cond_false] at hw <;> omega
    by_cases h1 : l.Slot ≥ 0
    · rw [cond_p h1]
      by_cases h2 : l.Slot ≤ 12
      · rw [cond_p h2]
        by_cases h3 : l.Gen ≥ 0
        · rw [cond_p h3, wI64 (by omega) (by omega)]
          congr 1; rw [Bool.eq_iff_iff, decide_eq_true_eq, decide_eq_true_eq, LOK_w hb, ← hw]; omega
        · rw [cond_n h3, decide_eq_false (fun h : LOK l => by have := h.2; omega)]
      · rw [cond_n h2, decide_eq_false (fun h : LOK l => by have := h.1; omega)]
    · rw [cond_n h1, decide_eq_false (fun h : LOK l => by have := h.1; omega)]
  cases hw : l.Wide with
  | true => simp only [cond_true]; exact key true 63 hw rfl
  | false => simp only [cond_false]; exact key false 16 hw rfl
def widN (l : api_Layout) : Nat := if LOK l then bitsN l else 0
theorem cWidth_eq (l : api_Layout) : cookie_Width l = some (widN l : Int) := by
  unfold cookie_Width cookie_WidthF widN
  rw [cRight_eq trivial, Option.bind_some]
  by_cases h : LOK l
  · rw [decide_eq_true h, Bool.not_true, cond_false, if_pos h]
    unfold cookie_layout_bits cookie_layout_bitsF bitsN
    simp only []
    cases l.Wide <;> rfl
  · rw [decide_eq_false h, if_neg h]; rfl
theorem rWidth_eq (l : api_Layout) : R14_Width l = some (widN l : Int) := by
  unfold R14_Width R14_WidthF widN
  rw [rRight_eq, Option.bind_some]
  by_cases h : LOK l
  · rw [decide_eq_true h, Bool.not_true, cond_false, if_pos h]
    unfold bitsN
    cases l.Wide <;> rfl
  · rw [decide_eq_false h, if_neg h]; rfl
theorem powI (i : Nat) : ((2 : Int) ^ i) = ((2 ^ i : Nat) : Int) := by push_cast; rfl
def hshI (k : api_Key) (t : api_Tuple) : Int := hashR tak finQ (tupS t).length (newV k).s (tupS t)
theorem ixor_rng (a b : Int) : 0 ≤ ixorI .u64 a b ∧ ixorI .u64 a b < 2 ^ 64 := by
  have := wU64m (((BitVec.ofInt (IntKind.bits .u64) a ^^^ BitVec.ofInt (IntKind.bits .u64) b).toNat : Nat) : Int)
  have e : ixorI .u64 a b = wI .u64 (((BitVec.ofInt (IntKind.bits .u64) a ^^^ BitVec.ofInt (IntKind.bits .u64) b).toNat : Nat) : Int) := rfl
  rw [e, this]; omega
theorem finQ_rng (q : Arr4_Int) : 0 ≤ finQ q ∧ finQ q < 2 ^ 64 := ixor_rng _ _
theorem hashR_rng (T : Arr4_Int → Int → Arr4_Int) (fin : Arr4_Int → Int) (hf : ∀ q, 0 ≤ fin q ∧ fin q < 2 ^ 64) (n : Nat) : ∀ (k : Nat) (l : List UInt8) (q : Arr4_Int), l.length ≤ k → 0 ≤ hashR T fin n q l ∧ hashR T fin n q l < 2 ^ 64
  | 0, l, q, h => by
    rw [hashR, dif_neg (by omega)]; exact hf _
  | k + 1, l, q, h => by
    rw [hashR]
    split
    · exact hashR_rng T fin hf n k _ _ (by simp; omega)
    · exact hf _
theorem hsh_rng (k : api_Key) (t : api_Tuple) : 0 ≤ hshI k t ∧ hshI k t < 2 ^ 64 := hashR_rng tak finQ finQ_rng _ _ _ _ (Nat.le_refl _)
def mskN (l : api_Layout) (k : api_Key) (t : api_Tuple) (n : Nat) : Nat := (n ^^^ (hshI k t).toNat) % 2 ^ widN l
theorem wid_le (l : api_Layout) : widN l ≤ 64 := by
  unfold widN bitsN
  split
  · cases l.Wide <;> decide
  · decide
theorem mskA {l : api_Layout} {k : api_Key} {t : api_Tuple} {n : Int} (hn : 0 ≤ n ∧ n < 2 ^ 64) : andI .u64 (ixorI .u64 n (hshI k t)) (mskI (widN l : Int)) = ((mskN l k t n.toNat : Nat) : Int) := by
  have hw := wid_le l
  obtain ⟨h1, h2⟩ := hsh_rng k t
  obtain ⟨x, rfl⟩ := Int.eq_ofNat_of_zero_le hn.1
  unfold mskN
  generalize hshI k t = h at *
  obtain ⟨y, rfl⟩ := Int.eq_ofNat_of_zero_le h1
  have hx : x ^^^ y < 2 ^ 64 := Nat.xor_lt_two_pow (by omega) (by omega)
  have em : mskI (widN l : Int) = 2 ^ widN l - 1 := by unfold mskI; rw [if_pos (by omega)]; rfl
  rw [ixorU64 (by omega) (by omega), em, andU64_mask (widN l) rfl hw (by omega) (by omega), powI]
  rfl
theorem cMask_eq {l : api_Layout} {k : api_Key} {t : api_Tuple} {n : Int} (hn : 0 ≤ n ∧ n < 2 ^ 64) (hs : inU t.Src) (hd : inU t.Dst) : cookie_Mask l k t n = some ((mskN l k t n.toNat : Nat) : Int) := by
  unfold cookie_Mask cookie_MaskF
  have hl := tupS_len t
  rw [New_eq, Option.bind_some, tPut_eq hs hd, Option.bind_some, Write_eq rfl (by simp [newV]) (by simp [newV]; omega), Option.bind_some, Sum_eq (by rw [(wrL _ _).1]; rfl), Option.bind_some, cWidth_eq, Option.bind_some, Mask_eq, Option.bind_some]
  have e : sumV ((tupS t).foldl wrB (newV k)) = hshI k t := fold_hashR tak finQ (tupS t).length (tupS t) (newV k) (Nat.le_refl _) rfl (by simp [newV]) rfl (tupS t).length (by simp [newV])
  simp only []
  rw [e, mskA hn]
theorem rMaskT_eq {l : api_Layout} {k : api_Key} {t : api_Tuple} {n : Int} (hn : 0 ≤ n ∧ n < 2 ^ 64) (hs : inU t.Src) (hd : inU t.Dst) : R14_Mask l k t n = some ((mskN l k t n.toNat : Nat) : Int) := by
  unfold R14_Mask R14_MaskF
  have hl := tupS_len t
  rw [rtPut_eq hs hd, Option.bind_some, R12_Hash_eq (by omega), Option.bind_some, rWidth_eq, Option.bind_some, rMask_eq, Option.bind_some]
  exact congrArg some (mskA hn)
end Go.Vm.Code
namespace Go.Vm.Code
open Go Go.Vm Go.Proofs
set_option maxRecDepth 100000
set_option maxHeartbeats 4000000
set_option linter.unusedVariables false
def stateless_withinF (ida0 : Int) : Option Bool :=
  cond (decide (ida0 ≥ 1))
    (
    some (decide (ida0 ≤ 65535)))
    (
    some (false))
def rx119 (x : Bool) : SRes := ⟨.bool x, [], []⟩
def r119 (g : Int → Option Bool) : Dec := dV (asI .u64) fun (y0 : Int) => dEnd (ofG (g y0) rx119)
theorem r119_c {g : Int → Option Bool} {y0 : Int} {x : Bool} (hx : g y0 = some x) : r119 g [.int .u64 y0] [] = some (rx119 x) := (dV_eq (asI_c _)).trans (ofG_eq hx)
def s119 (g : Int → Option Bool) : Summ := ⟨[.v], r119 g⟩
theorem r119_eq {g : Int → Option Bool} {y0 : Int} {x : Bool} (hx : g y0 = some x) : (s119 g).run [.int .u64 y0] [] = some (rx119 x) := r119_c hx
abbrev sums119 : List (Nat × Summ) := []
theorem leads119 (hS : SumsOK Try.prog (aget (sums119))) (ida0 : Int) (res : Bool) (h : stateless_withinF ida0 = some res) :
    Leads Try.prog 119 0 ⟨⟨119, 9, [(0, .int .u64 ida0)], [.code k119_3], [], false, none⟩, [], [], 0⟩ (fun v H _ => Res 0 (rx119 res) v H) := by
  unfold stateless_withinF at h
  refine ev_ok tab_ok hS true 3000 ?_
  conv => whnf
  refine br.h h ?_ ?_ ?_
  · rfl
  · clear h; intro hb h; conv => whnf
    all_goals (cases h; exact Res.z rfl rfl rfl)
  clear h; intro hb h; conv => whnf
  all_goals (cases h; exact Res.z rfl rfl rfl)
theorem ok119 (hS : SumsOK Try.prog (aget (sums119))) : SumOK Try.prog 119 (s119 (stateless_withinF)) := by
  refine SumOK.of_leads tab_ok (fun ar os r ha hr => ?_) ⟨Try.f119, rfl, by decide, rfl⟩
  replace hr : r119 (stateless_withinF) ar (conts os) = some r := hr
  unfold r119 at hr
  generalize hc : conts os = C at hr
  replace hr := dV.elim hr; obtain ⟨v0, l1, y0, rfl, e0, hr⟩ := hr; obtain rfl := asI_eq _ _ _ e0
  replace hr := dFin hr; obtain ⟨rfl, rfl, x, h, rfl⟩ := hr
  obtain rfl := kinds_nil hc
  exact ⟨_, rfl, leads119 hS _ x h⟩
def stateless_within : Int → Option Bool := stateless_withinF
theorem lift119 : SumOK Try.prog 119 (s119 stateless_within) := ok119 (SumsOK.of_tab trivial)
def stateless_maskF (cookie_Mask : api_Layout → api_Key → api_Tuple → Int → Option Int) (k : api_Key) (t : api_Tuple) (n : Int) : Option Int :=
  (cookie_Mask (api_Layout.mk (t.Proto != 6) 0 0) k t n).bind fun m =>
  some (m)
def rx120 (x : Int) : SRes := ⟨.int .u64 x, [], []⟩
def r120 (g : api_Key → api_Tuple → Int → Option Int) : Dec := dV uvapi_Key fun (y0 : api_Key) => dV uvapi_Tuple fun (y1 : api_Tuple) => dV (asI .u64) fun (y2 : Int) => dEnd (ofG (g y0 y1 y2) rx120)
theorem r120_c {g : api_Key → api_Tuple → Int → Option Int} {y0 : api_Key} {y1 : api_Tuple} {y2 : Int} {x : Int} (hx : g y0 y1 y2 = some x) : r120 g [.agg ⟨[.int .u64 y0.A, .int .u64 y0.B]⟩, .agg ⟨[.int .i64 y1.Proto, .bool y1.Src.V6, .int .u64 y1.Src.Hi, .int .u64 y1.Src.Lo, .bool y1.Dst.V6, .int .u64 y1.Dst.Hi, .int .u64 y1.Dst.Lo, .int .i64 y1.SPort, .int .i64 y1.DPort]⟩, .int .u64 y2] [] = some (rx120 x) := (dV_eq (uvapi_Key_c _)).trans ((dV_eq (uvapi_Tuple_c _)).trans ((dV_eq (asI_c _)).trans (ofG_eq hx)))
def s120 (g : api_Key → api_Tuple → Int → Option Int) : Summ := ⟨[.v, .v, .v], r120 g⟩
theorem r120_eq {g : api_Key → api_Tuple → Int → Option Int} {y0 : api_Key} {y1 : api_Tuple} {y2 : Int} {x : Int} (hx : g y0 y1 y2 = some x) : (s120 g).run [.agg ⟨[.int .u64 y0.A, .int .u64 y0.B]⟩, .agg ⟨[.int .i64 y1.Proto, .bool y1.Src.V6, .int .u64 y1.Src.Hi, .int .u64 y1.Src.Lo, .bool y1.Dst.V6, .int .u64 y1.Dst.Hi, .int .u64 y1.Dst.Lo, .int .i64 y1.SPort, .int .i64 y1.DPort]⟩, .int .u64 y2] [] = some (rx120 x) := r120_c hx
abbrev sums120 (cookie_Mask : api_Layout → api_Key → api_Tuple → Int → Option Int) : List (Nat × Summ) := [(143, s143 cookie_Mask)]
theorem leads120 (cookie_Mask : api_Layout → api_Key → api_Tuple → Int → Option Int) (hS : SumsOK Try.prog (aget (sums120 cookie_Mask))) (k : api_Key) (t : api_Tuple) (n : Int) (res : Int) (h : stateless_maskF cookie_Mask k t n = some res) :
    Leads Try.prog 120 0 ⟨⟨120, 15, [(0, .agg ⟨[.int .u64 k.A, .int .u64 k.B]⟩), (1, .agg ⟨[.int .i64 t.Proto, .bool t.Src.V6, .int .u64 t.Src.Hi, .int .u64 t.Src.Lo, .bool t.Dst.V6, .int .u64 t.Dst.Hi, .int .u64 t.Dst.Lo, .int .i64 t.SPort, .int .i64 t.DPort]⟩), (2, .int .u64 n)], [.code k120_3], [], false, none⟩, [], [], 0⟩ (fun v H _ => Res 0 (rx120 res) v H) := by
  unfold stateless_maskF at h
  refine ev_ok tab_ok hS true 3000 ?_
  conv => whnf
  replace h := obind.elim h; obtain ⟨m, hy, h⟩ := h
  refine sumK.q rfl rfl (r143_eq hy) rfl rfl rfl ?_
  conv => whnf
  all_goals (cases h; exact Res.z rfl rfl rfl)
theorem ok120 (cookie_Mask : api_Layout → api_Key → api_Tuple → Int → Option Int) (hS : SumsOK Try.prog (aget (sums120 cookie_Mask))) : SumOK Try.prog 120 (s120 (stateless_maskF cookie_Mask)) := by
  refine SumOK.of_leads tab_ok (fun ar os r ha hr => ?_) ⟨Try.f120, rfl, by decide, rfl⟩
  replace hr : r120 (stateless_maskF cookie_Mask) ar (conts os) = some r := hr
  unfold r120 at hr
  generalize hc : conts os = C at hr
  replace hr := dV.elim hr; obtain ⟨v0, l1, y0, rfl, e0, hr⟩ := hr; obtain rfl := uvapi_Key_eq _ _ e0
  replace hr := dV.elim hr; obtain ⟨v1, l2, y1, rfl, e1, hr⟩ := hr; obtain rfl := uvapi_Tuple_eq _ _ e1
  replace hr := dV.elim hr; obtain ⟨v2, l3, y2, rfl, e2, hr⟩ := hr; obtain rfl := asI_eq _ _ _ e2
  replace hr := dFin hr; obtain ⟨rfl, rfl, x, h, rfl⟩ := hr
  obtain rfl := kinds_nil hc
  exact ⟨_, rfl, leads120 cookie_Mask hS _ _ _ x h⟩
def stateless_mask : api_Key → api_Tuple → Int → Option Int := stateless_maskF cookie_Mask
theorem lift120 : SumOK Try.prog 120 (s120 stateless_mask) := ok120 cookie_Mask (SumsOK.of_tab ⟨lift143, trivial⟩)
def stateless_MakeF (stateless_mask : api_Key → api_Tuple → Int → Option Int) (stateless_within : Int → Option Bool) (k : api_Key) (t : api_Tuple) (ida2 : Int) : Option Int :=
  cond (decide (ida2 < 0))
    (
    some (0))
    (
    (stateless_within (wI .u64 ida2)).bind fun w =>
    cond (!w)
      (
      some (0))
      (
      (stateless_mask k t (wI .u64 ida2)).bind fun m =>
      some (m)))
def rx64 (x : Int) : SRes := ⟨.int .u64 x, [], []⟩
def r64 (g : api_Key → api_Tuple → Int → Option Int) : Dec := dV uvapi_Key fun (y0 : api_Key) => dV uvapi_Tuple fun (y1 : api_Tuple) => dV (asI .i64) fun (y2 : Int) => dEnd (ofG (g y0 y1 y2) rx64)
theorem r64_c {g : api_Key → api_Tuple → Int → Option Int} {y0 : api_Key} {y1 : api_Tuple} {y2 : Int} {x : Int} (hx : g y0 y1 y2 = some x) : r64 g [.agg ⟨[.int .u64 y0.A, .int .u64 y0.B]⟩, .agg ⟨[.int .i64 y1.Proto, .bool y1.Src.V6, .int .u64 y1.Src.Hi, .int .u64 y1.Src.Lo, .bool y1.Dst.V6, .int .u64 y1.Dst.Hi, .int .u64 y1.Dst.Lo, .int .i64 y1.SPort, .int .i64 y1.DPort]⟩, .int .i64 y2] [] = some (rx64 x) := (dV_eq (uvapi_Key_c _)).trans ((dV_eq (uvapi_Tuple_c _)).trans ((dV_eq (asI_c _)).trans (ofG_eq hx)))
def s64 (g : api_Key → api_Tuple → Int → Option Int) : Summ := ⟨[.v, .v, .v], r64 g⟩
theorem r64_eq {g : api_Key → api_Tuple → Int → Option Int} {y0 : api_Key} {y1 : api_Tuple} {y2 : Int} {x : Int} (hx : g y0 y1 y2 = some x) : (s64 g).run [.agg ⟨[.int .u64 y0.A, .int .u64 y0.B]⟩, .agg ⟨[.int .i64 y1.Proto, .bool y1.Src.V6, .int .u64 y1.Src.Hi, .int .u64 y1.Src.Lo, .bool y1.Dst.V6, .int .u64 y1.Dst.Hi, .int .u64 y1.Dst.Lo, .int .i64 y1.SPort, .int .i64 y1.DPort]⟩, .int .i64 y2] [] = some (rx64 x) := r64_c hx
abbrev sums64 (stateless_mask : api_Key → api_Tuple → Int → Option Int) (stateless_within : Int → Option Bool) : List (Nat × Summ) := [(120, s120 stateless_mask), (119, s119 stateless_within)]
theorem leads64 (stateless_mask : api_Key → api_Tuple → Int → Option Int) (stateless_within : Int → Option Bool) (hS : SumsOK Try.prog (aget (sums64 stateless_mask stateless_within))) (k : api_Key) (t : api_Tuple) (ida2 : Int) (res : Int) (h : stateless_MakeF stateless_mask stateless_within k t ida2 = some res) :
    Leads Try.prog 64 0 ⟨⟨64, 20, [(0, .agg ⟨[.int .u64 k.A, .int .u64 k.B]⟩), (1, .agg ⟨[.int .i64 t.Proto, .bool t.Src.V6, .int .u64 t.Src.Hi, .int .u64 t.Src.Lo, .bool t.Dst.V6, .int .u64 t.Dst.Hi, .int .u64 t.Dst.Lo, .int .i64 t.SPort, .int .i64 t.DPort]⟩), (2, .int .i64 ida2)], [.code k64_9], [], false, none⟩, [], [], 0⟩ (fun v H _ => Res 0 (rx64 res) v H) := by
  unfold stateless_MakeF at h
  refine ev_ok tab_ok hS true 3000 ?_
  conv => whnf
  refine br.h h ?_ ?_ ?_
  · rfl
  · clear h; intro hb h; conv => whnf
    all_goals (cases h; exact Res.z rfl rfl rfl)
  clear h; intro hb h; conv => whnf
  replace h := obind.elim h; obtain ⟨w, hy, h⟩ := h
  refine sumK.q rfl rfl (r119_eq hy) rfl rfl rfl ?_
  conv => whnf
  refine br.h h ?_ ?_ ?_
  · rfl
  · clear h; intro hb h; conv => whnf
    all_goals (cases h; exact Res.z rfl rfl rfl)
  clear h; intro hb h; conv => whnf
  replace h := obind.elim h; obtain ⟨m, hy, h⟩ := h
  refine sumK.q rfl rfl (r120_eq hy) rfl rfl rfl ?_
  conv => whnf
  all_goals (cases h; exact Res.z rfl rfl rfl)
theorem ok64 (stateless_mask : api_Key → api_Tuple → Int → Option Int) (stateless_within : Int → Option Bool) (hS : SumsOK Try.prog (aget (sums64 stateless_mask stateless_within))) : SumOK Try.prog 64 (s64 (stateless_MakeF stateless_mask stateless_within)) := by
  refine SumOK.of_leads tab_ok (fun ar os r ha hr => ?_) ⟨Try.f64, rfl, by decide, rfl⟩
  replace hr : r64 (stateless_MakeF stateless_mask stateless_within) ar (conts os) = some r := hr
  unfold r64 at hr
  generalize hc : conts os = C at hr
  replace hr := dV.elim hr; obtain ⟨v0, l1, y0, rfl, e0, hr⟩ := hr; obtain rfl := uvapi_Key_eq _ _ e0
  replace hr := dV.elim hr; obtain ⟨v1, l2, y1, rfl, e1, hr⟩ := hr; obtain rfl := uvapi_Tuple_eq _ _ e1
  replace hr := dV.elim hr; obtain ⟨v2, l3, y2, rfl, e2, hr⟩ := hr; obtain rfl := asI_eq _ _ _ e2
  replace hr := dFin hr; obtain ⟨rfl, rfl, x, h, rfl⟩ := hr
  obtain rfl := kinds_nil hc
  exact ⟨_, rfl, leads64 stateless_mask stateless_within hS _ _ _ x h⟩
def stateless_Make : api_Key → api_Tuple → Int → Option Int := stateless_MakeF stateless_mask stateless_within
theorem lift64 : SumOK Try.prog 64 (s64 stateless_Make) := ok64 stateless_mask stateless_within (SumsOK.of_tab ⟨lift120, lift119, trivial⟩)
def R32_layoutF (t : api_Tuple) : Option api_Layout :=
  some (api_Layout.mk (t.Proto != 6) 0 0)
def rx93 (x : api_Layout) : SRes := ⟨.agg ⟨[.bool x.Wide, .int .i64 x.Slot, .int .i64 x.Gen]⟩, [], []⟩
def r93 (g : api_Tuple → Option api_Layout) : Dec := dV uvapi_Tuple fun (y0 : api_Tuple) => dEnd (ofG (g y0) rx93)
theorem r93_c {g : api_Tuple → Option api_Layout} {y0 : api_Tuple} {x : api_Layout} (hx : g y0 = some x) : r93 g [.agg ⟨[.int .i64 y0.Proto, .bool y0.Src.V6, .int .u64 y0.Src.Hi, .int .u64 y0.Src.Lo, .bool y0.Dst.V6, .int .u64 y0.Dst.Hi, .int .u64 y0.Dst.Lo, .int .i64 y0.SPort, .int .i64 y0.DPort]⟩] [] = some (rx93 x) := (dV_eq (uvapi_Tuple_c _)).trans (ofG_eq hx)
def s93 (g : api_Tuple → Option api_Layout) : Summ := ⟨[.v], r93 g⟩
theorem r93_eq {g : api_Tuple → Option api_Layout} {y0 : api_Tuple} {x : api_Layout} (hx : g y0 = some x) : (s93 g).run [.agg ⟨[.int .i64 y0.Proto, .bool y0.Src.V6, .int .u64 y0.Src.Hi, .int .u64 y0.Src.Lo, .bool y0.Dst.V6, .int .u64 y0.Dst.Hi, .int .u64 y0.Dst.Lo, .int .i64 y0.SPort, .int .i64 y0.DPort]⟩] [] = some (rx93 x) := r93_c hx
abbrev sums93 : List (Nat × Summ) := []
theorem leads93 (hS : SumsOK Try.prog (aget (sums93))) (t : api_Tuple) (res : api_Layout) (h : R32_layoutF t = some res) :
    Leads Try.prog 93 0 ⟨⟨93, 7, [(0, .agg ⟨[.int .i64 t.Proto, .bool t.Src.V6, .int .u64 t.Src.Hi, .int .u64 t.Src.Lo, .bool t.Dst.V6, .int .u64 t.Dst.Hi, .int .u64 t.Dst.Lo, .int .i64 t.SPort, .int .i64 t.DPort]⟩)], [.code k93_3], [], false, none⟩, [], [], 0⟩ (fun v H _ => Res 0 (rx93 res) v H) := by
  unfold R32_layoutF at h
  refine ev_ok tab_ok hS true 3000 ?_
  conv => whnf
  all_goals (cases h; exact Res.z rfl rfl rfl)
theorem ok93 (hS : SumsOK Try.prog (aget (sums93))) : SumOK Try.prog 93 (s93 (R32_layoutF)) := by
  refine SumOK.of_leads tab_ok (fun ar os r ha hr => ?_) ⟨Try.f93, rfl, by decide, rfl⟩
  replace hr : r93 (R32_layoutF) ar (conts os) = some r := hr
  unfold r93 at hr
  generalize hc : conts os = C at hr
  replace hr := dV.elim hr; obtain ⟨v0, l1, y0, rfl, e0, hr⟩ := hr; obtain rfl := uvapi_Tuple_eq _ _ e0
  replace hr := dFin hr; obtain ⟨rfl, rfl, x, h, rfl⟩ := hr
  obtain rfl := kinds_nil hc
  exact ⟨_, rfl, leads93 hS _ x h⟩
def R32_layout : api_Tuple → Option api_Layout := R32_layoutF
theorem lift93 : SumOK Try.prog 93 (s93 R32_layout) := ok93 (SumsOK.of_tab trivial)
def R32_MakeF (R14_Mask : api_Layout → api_Key → api_Tuple → Int → Option Int) (R32_layout : api_Tuple → Option api_Layout) (k : api_Key) (t : api_Tuple) (ida2 : Int) : Option Int :=
  cond (decide (ida2 < 1))
    (
    some (0))
    (
    cond (decide (ida2 > 65535))
      (
      some (0))
      (
      (R32_layout t).bind fun l =>
      (R14_Mask l k t (wI .u64 ida2)).bind fun m =>
      some (m)))
def rx38 (x : Int) : SRes := ⟨.int .u64 x, [], []⟩
def r38 (g : api_Key → api_Tuple → Int → Option Int) : Dec := dV uvapi_Key fun (y0 : api_Key) => dV uvapi_Tuple fun (y1 : api_Tuple) => dV (asI .i64) fun (y2 : Int) => dEnd (ofG (g y0 y1 y2) rx38)
theorem r38_c {g : api_Key → api_Tuple → Int → Option Int} {y0 : api_Key} {y1 : api_Tuple} {y2 : Int} {x : Int} (hx : g y0 y1 y2 = some x) : r38 g [.agg ⟨[.int .u64 y0.A, .int .u64 y0.B]⟩, .agg ⟨[.int .i64 y1.Proto, .bool y1.Src.V6, .int .u64 y1.Src.Hi, .int .u64 y1.Src.Lo, .bool y1.Dst.V6, .int .u64 y1.Dst.Hi, .int .u64 y1.Dst.Lo, .int .i64 y1.SPort, .int .i64 y1.DPort]⟩, .int .i64 y2] [] = some (rx38 x) := (dV_eq (uvapi_Key_c _)).trans ((dV_eq (uvapi_Tuple_c _)).trans ((dV_eq (asI_c _)).trans (ofG_eq hx)))
def s38 (g : api_Key → api_Tuple → Int → Option Int) : Summ := ⟨[.v, .v, .v], r38 g⟩
theorem r38_eq {g : api_Key → api_Tuple → Int → Option Int} {y0 : api_Key} {y1 : api_Tuple} {y2 : Int} {x : Int} (hx : g y0 y1 y2 = some x) : (s38 g).run [.agg ⟨[.int .u64 y0.A, .int .u64 y0.B]⟩, .agg ⟨[.int .i64 y1.Proto, .bool y1.Src.V6, .int .u64 y1.Src.Hi, .int .u64 y1.Src.Lo, .bool y1.Dst.V6, .int .u64 y1.Dst.Hi, .int .u64 y1.Dst.Lo, .int .i64 y1.SPort, .int .i64 y1.DPort]⟩, .int .i64 y2] [] = some (rx38 x) := r38_c hx
abbrev sums38 (R14_Mask : api_Layout → api_Key → api_Tuple → Int → Option Int) (R32_layout : api_Tuple → Option api_Layout) : List (Nat × Summ) := [(92, s92 R14_Mask), (93, s93 R32_layout)]
theorem leads38 (R14_Mask : api_Layout → api_Key → api_Tuple → Int → Option Int) (R32_layout : api_Tuple → Option api_Layout) (hS : SumsOK Try.prog (aget (sums38 R14_Mask R32_layout))) (k : api_Key) (t : api_Tuple) (ida2 : Int) (res : Int) (h : R32_MakeF R14_Mask R32_layout k t ida2 = some res) :
    Leads Try.prog 38 0 ⟨⟨38, 20, [(0, .agg ⟨[.int .u64 k.A, .int .u64 k.B]⟩), (1, .agg ⟨[.int .i64 t.Proto, .bool t.Src.V6, .int .u64 t.Src.Hi, .int .u64 t.Src.Lo, .bool t.Dst.V6, .int .u64 t.Dst.Hi, .int .u64 t.Dst.Lo, .int .i64 t.SPort, .int .i64 t.DPort]⟩), (2, .int .i64 ida2)], [.code k38_9], [], false, none⟩, [], [], 0⟩ (fun v H _ => Res 0 (rx38 res) v H) := by
  unfold R32_MakeF at h
  refine ev_ok tab_ok hS true 3000 ?_
  conv => whnf
  refine br.h h ?_ ?_ ?_
  · rfl
  · clear h; intro hb h; conv => whnf
    all_goals (cases h; exact Res.z rfl rfl rfl)
  clear h; intro hb h; conv => whnf
  refine br.h h ?_ ?_ ?_
  · rfl
  · clear h; intro hb h; conv => whnf
    all_goals (cases h; exact Res.z rfl rfl rfl)
  clear h; intro hb h; conv => whnf
  replace h := obind.elim h; obtain ⟨l, hy, h⟩ := h
  refine sumK.q rfl rfl (r93_eq hy) rfl rfl rfl ?_
  conv => whnf
  replace h := obind.elim h; obtain ⟨m, hy, h⟩ := h
  refine sumK.q rfl rfl (r92_eq hy) rfl rfl rfl ?_
  conv => whnf
  all_goals (cases h; exact Res.z rfl rfl rfl)
theorem ok38 (R14_Mask : api_Layout → api_Key → api_Tuple → Int → Option Int) (R32_layout : api_Tuple → Option api_Layout) (hS : SumsOK Try.prog (aget (sums38 R14_Mask R32_layout))) : SumOK Try.prog 38 (s38 (R32_MakeF R14_Mask R32_layout)) := by
  refine SumOK.of_leads tab_ok (fun ar os r ha hr => ?_) ⟨Try.f38, rfl, by decide, rfl⟩
  replace hr : r38 (R32_MakeF R14_Mask R32_layout) ar (conts os) = some r := hr
  unfold r38 at hr
  generalize hc : conts os = C at hr
  replace hr := dV.elim hr; obtain ⟨v0, l1, y0, rfl, e0, hr⟩ := hr; obtain rfl := uvapi_Key_eq _ _ e0
  replace hr := dV.elim hr; obtain ⟨v1, l2, y1, rfl, e1, hr⟩ := hr; obtain rfl := uvapi_Tuple_eq _ _ e1
  replace hr := dV.elim hr; obtain ⟨v2, l3, y2, rfl, e2, hr⟩ := hr; obtain rfl := asI_eq _ _ _ e2
  replace hr := dFin hr; obtain ⟨rfl, rfl, x, h, rfl⟩ := hr
  obtain rfl := kinds_nil hc
  exact ⟨_, rfl, leads38 R14_Mask R32_layout hS _ _ _ x h⟩
def R32_Make : api_Key → api_Tuple → Int → Option Int := R32_MakeF R14_Mask R32_layout
theorem lift38 : SumOK Try.prog 38 (s38 R32_Make) := ok38 R14_Mask R32_layout (SumsOK.of_tab ⟨lift92, lift93, trivial⟩)
def stateless_OpenF (stateless_mask : api_Key → api_Tuple → Int → Option Int) (stateless_within : Int → Option Bool) (k : api_Key) (t : api_Tuple) (n : Int) : Option (Int × Bool) :=
  (stateless_mask k t n).bind fun m =>
  (stateless_within m).bind fun w =>
  cond (!w)
    (
    some ((0, false)))
    (
    (stateless_mask k t m).bind fun m1 =>
    cond (m1 != n)
      (
      some ((0, false)))
      (
      some ((wI .i64 m, true))))
def rx65 (x : Int × Bool) : SRes := ⟨.tuple ⟨[.int .i64 x.1, .bool x.2]⟩, [], []⟩
def r65 (g : api_Key → api_Tuple → Int → Option (Int × Bool)) : Dec := dV uvapi_Key fun (y0 : api_Key) => dV uvapi_Tuple fun (y1 : api_Tuple) => dV (asI .u64) fun (y2 : Int) => dEnd (ofG (g y0 y1 y2) rx65)
theorem r65_c {g : api_Key → api_Tuple → Int → Option (Int × Bool)} {y0 : api_Key} {y1 : api_Tuple} {y2 : Int} {x : Int × Bool} (hx : g y0 y1 y2 = some x) : r65 g [.agg ⟨[.int .u64 y0.A, .int .u64 y0.B]⟩, .agg ⟨[.int .i64 y1.Proto, .bool y1.Src.V6, .int .u64 y1.Src.Hi, .int .u64 y1.Src.Lo, .bool y1.Dst.V6, .int .u64 y1.Dst.Hi, .int .u64 y1.Dst.Lo, .int .i64 y1.SPort, .int .i64 y1.DPort]⟩, .int .u64 y2] [] = some (rx65 x) := (dV_eq (uvapi_Key_c _)).trans ((dV_eq (uvapi_Tuple_c _)).trans ((dV_eq (asI_c _)).trans (ofG_eq hx)))
def s65 (g : api_Key → api_Tuple → Int → Option (Int × Bool)) : Summ := ⟨[.v, .v, .v], r65 g⟩
theorem r65_eq {g : api_Key → api_Tuple → Int → Option (Int × Bool)} {y0 : api_Key} {y1 : api_Tuple} {y2 : Int} {x : Int × Bool} (hx : g y0 y1 y2 = some x) : (s65 g).run [.agg ⟨[.int .u64 y0.A, .int .u64 y0.B]⟩, .agg ⟨[.int .i64 y1.Proto, .bool y1.Src.V6, .int .u64 y1.Src.Hi, .int .u64 y1.Src.Lo, .bool y1.Dst.V6, .int .u64 y1.Dst.Hi, .int .u64 y1.Dst.Lo, .int .i64 y1.SPort, .int .i64 y1.DPort]⟩, .int .u64 y2] [] = some (rx65 x) := r65_c hx
abbrev sums65 (stateless_mask : api_Key → api_Tuple → Int → Option Int) (stateless_within : Int → Option Bool) : List (Nat × Summ) := [(120, s120 stateless_mask), (119, s119 stateless_within)]
theorem leads65 (stateless_mask : api_Key → api_Tuple → Int → Option Int) (stateless_within : Int → Option Bool) (hS : SumsOK Try.prog (aget (sums65 stateless_mask stateless_within))) (k : api_Key) (t : api_Tuple) (n : Int) (res : Int × Bool) (h : stateless_OpenF stateless_mask stateless_within k t n = some res) :
    Leads Try.prog 65 0 ⟨⟨65, 26, [(0, .agg ⟨[.int .u64 k.A, .int .u64 k.B]⟩), (1, .agg ⟨[.int .i64 t.Proto, .bool t.Src.V6, .int .u64 t.Src.Hi, .int .u64 t.Src.Lo, .bool t.Dst.V6, .int .u64 t.Dst.Hi, .int .u64 t.Dst.Lo, .int .i64 t.SPort, .int .i64 t.DPort]⟩), (2, .int .u64 n)], [.code k65_11], [], false, none⟩, [], [], 0⟩ (fun v H _ => Res 0 (rx65 res) v H) := by
  unfold stateless_OpenF at h
  refine ev_ok tab_ok hS true 3000 ?_
  conv => whnf
  replace h := obind.elim h; obtain ⟨m, hy, h⟩ := h
  refine sumK.q rfl rfl (r120_eq hy) rfl rfl rfl ?_
  conv => whnf
  replace h := obind.elim h; obtain ⟨w, hy, h⟩ := h
  refine sumK.q rfl rfl (r119_eq hy) rfl rfl rfl ?_
  conv => whnf
  refine br.h h ?_ ?_ ?_
  · rfl
  · clear h; intro hb h; conv => whnf
    all_goals (cases h; exact Res.z rfl rfl rfl)
  clear h; intro hb h; conv => whnf
  replace h := obind.elim h; obtain ⟨m1, hy, h⟩ := h
  refine sumK.q rfl rfl (r120_eq hy) rfl rfl rfl ?_
  conv => whnf
  refine br.h h ?_ ?_ ?_
  · rfl
  · clear h; intro hb h; conv => whnf
    all_goals (cases h; exact Res.z rfl rfl rfl)
  clear h; intro hb h; conv => whnf
  all_goals (cases h; exact Res.z rfl rfl rfl)
theorem ok65 (stateless_mask : api_Key → api_Tuple → Int → Option Int) (stateless_within : Int → Option Bool) (hS : SumsOK Try.prog (aget (sums65 stateless_mask stateless_within))) : SumOK Try.prog 65 (s65 (stateless_OpenF stateless_mask stateless_within)) := by
  refine SumOK.of_leads tab_ok (fun ar os r ha hr => ?_) ⟨Try.f65, rfl, by decide, rfl⟩
  replace hr : r65 (stateless_OpenF stateless_mask stateless_within) ar (conts os) = some r := hr
  unfold r65 at hr
  generalize hc : conts os = C at hr
  replace hr := dV.elim hr; obtain ⟨v0, l1, y0, rfl, e0, hr⟩ := hr; obtain rfl := uvapi_Key_eq _ _ e0
  replace hr := dV.elim hr; obtain ⟨v1, l2, y1, rfl, e1, hr⟩ := hr; obtain rfl := uvapi_Tuple_eq _ _ e1
  replace hr := dV.elim hr; obtain ⟨v2, l3, y2, rfl, e2, hr⟩ := hr; obtain rfl := asI_eq _ _ _ e2
  replace hr := dFin hr; obtain ⟨rfl, rfl, x, h, rfl⟩ := hr
  obtain rfl := kinds_nil hc
  exact ⟨_, rfl, leads65 stateless_mask stateless_within hS _ _ _ x h⟩
def stateless_Open : api_Key → api_Tuple → Int → Option (Int × Bool) := stateless_OpenF stateless_mask stateless_within
theorem lift65 : SumOK Try.prog 65 (s65 stateless_Open) := ok65 stateless_mask stateless_within (SumsOK.of_tab ⟨lift120, lift119, trivial⟩)
def R32_OpenF (R14_Mask : api_Layout → api_Key → api_Tuple → Int → Option Int) (R32_Make : api_Key → api_Tuple → Int → Option Int) (R32_layout : api_Tuple → Option api_Layout) (k : api_Key) (t : api_Tuple) (cookie : Int) : Option (Int × Bool) :=
  (R32_layout t).bind fun l =>
  (R14_Mask l k t cookie).bind fun m =>
  cond (decide (m < 1))
    (
    some ((0, false)))
    (
    cond (decide (m > 65535))
      (
      some ((0, false)))
      (
      (R32_Make k t (wI .i64 m)).bind fun m1 =>
      cond (m1 != cookie)
        (
        some ((0, false)))
        (
        some ((wI .i64 m, true)))))
def rx46 (x : Int × Bool) : SRes := ⟨.tuple ⟨[.int .i64 x.1, .bool x.2]⟩, [], []⟩
def r46 (g : api_Key → api_Tuple → Int → Option (Int × Bool)) : Dec := dV uvapi_Key fun (y0 : api_Key) => dV uvapi_Tuple fun (y1 : api_Tuple) => dV (asI .u64) fun (y2 : Int) => dEnd (ofG (g y0 y1 y2) rx46)
theorem r46_c {g : api_Key → api_Tuple → Int → Option (Int × Bool)} {y0 : api_Key} {y1 : api_Tuple} {y2 : Int} {x : Int × Bool} (hx : g y0 y1 y2 = some x) : r46 g [.agg ⟨[.int .u64 y0.A, .int .u64 y0.B]⟩, .agg ⟨[.int .i64 y1.Proto, .bool y1.Src.V6, .int .u64 y1.Src.Hi, .int .u64 y1.Src.Lo, .bool y1.Dst.V6, .int .u64 y1.Dst.Hi, .int .u64 y1.Dst.Lo, .int .i64 y1.SPort, .int .i64 y1.DPort]⟩, .int .u64 y2] [] = some (rx46 x) := (dV_eq (uvapi_Key_c _)).trans ((dV_eq (uvapi_Tuple_c _)).trans ((dV_eq (asI_c _)).trans (ofG_eq hx)))
def s46 (g : api_Key → api_Tuple → Int → Option (Int × Bool)) : Summ := ⟨[.v, .v, .v], r46 g⟩
theorem r46_eq {g : api_Key → api_Tuple → Int → Option (Int × Bool)} {y0 : api_Key} {y1 : api_Tuple} {y2 : Int} {x : Int × Bool} (hx : g y0 y1 y2 = some x) : (s46 g).run [.agg ⟨[.int .u64 y0.A, .int .u64 y0.B]⟩, .agg ⟨[.int .i64 y1.Proto, .bool y1.Src.V6, .int .u64 y1.Src.Hi, .int .u64 y1.Src.Lo, .bool y1.Dst.V6, .int .u64 y1.Dst.Hi, .int .u64 y1.Dst.Lo, .int .i64 y1.SPort, .int .i64 y1.DPort]⟩, .int .u64 y2] [] = some (rx46 x) := r46_c hx
abbrev sums46 (R14_Mask : api_Layout → api_Key → api_Tuple → Int → Option Int) (R32_Make : api_Key → api_Tuple → Int → Option Int) (R32_layout : api_Tuple → Option api_Layout) : List (Nat × Summ) := [(92, s92 R14_Mask), (38, s38 R32_Make), (93, s93 R32_layout)]
theorem leads46 (R14_Mask : api_Layout → api_Key → api_Tuple → Int → Option Int) (R32_Make : api_Key → api_Tuple → Int → Option Int) (R32_layout : api_Tuple → Option api_Layout) (hS : SumsOK Try.prog (aget (sums46 R14_Mask R32_Make R32_layout))) (k : api_Key) (t : api_Tuple) (cookie : Int) (res : Int × Bool) (h : R32_OpenF R14_Mask R32_Make R32_layout k t cookie = some res) :
    Leads Try.prog 46 0 ⟨⟨46, 32, [(0, .agg ⟨[.int .u64 k.A, .int .u64 k.B]⟩), (1, .agg ⟨[.int .i64 t.Proto, .bool t.Src.V6, .int .u64 t.Src.Hi, .int .u64 t.Src.Lo, .bool t.Dst.V6, .int .u64 t.Dst.Hi, .int .u64 t.Dst.Lo, .int .i64 t.SPort, .int .i64 t.DPort]⟩), (2, .int .u64 cookie)], [.code k46_11], [], false, none⟩, [], [], 0⟩ (fun v H _ => Res 0 (rx46 res) v H) := by
  unfold R32_OpenF at h
  refine ev_ok tab_ok hS true 3000 ?_
  conv => whnf
  replace h := obind.elim h; obtain ⟨l, hy, h⟩ := h
  refine sumK.q rfl rfl (r93_eq hy) rfl rfl rfl ?_
  conv => whnf
  replace h := obind.elim h; obtain ⟨m, hy, h⟩ := h
  refine sumK.q rfl rfl (r92_eq hy) rfl rfl rfl ?_
  conv => whnf
  refine br.h h ?_ ?_ ?_
  · rfl
  · clear h; intro hb h; conv => whnf
    all_goals (cases h; exact Res.z rfl rfl rfl)
  clear h; intro hb h; conv => whnf
  refine br.h h ?_ ?_ ?_
  · rfl
  · clear h; intro hb h; conv => whnf
    all_goals (cases h; exact Res.z rfl rfl rfl)
  clear h; intro hb h; conv => whnf
  replace h := obind.elim h; obtain ⟨m1, hy, h⟩ := h
  refine sumK.q rfl rfl (r38_eq hy) rfl rfl rfl ?_
  conv => whnf
  refine br.h h ?_ ?_ ?_
  · rfl
  · clear h; intro hb h; conv => whnf
    all_goals (cases h; exact Res.z rfl rfl rfl)
  clear h; intro hb h; conv => whnf
  all_goals (cases h; exact Res.z rfl rfl rfl)
theorem ok46 (R14_Mask : api_Layout → api_Key → api_Tuple → Int → Option Int) (R32_Make : api_Key → api_Tuple → Int → Option Int) (R32_layout : api_Tuple → Option api_Layout) (hS : SumsOK Try.prog (aget (sums46 R14_Mask R32_Make R32_layout))) : SumOK Try.prog 46 (s46 (R32_OpenF R14_Mask R32_Make R32_layout)) := by
  refine SumOK.of_leads tab_ok (fun ar os r ha hr => ?_) ⟨Try.f46, rfl, by decide, rfl⟩
  replace hr : r46 (R32_OpenF R14_Mask R32_Make R32_layout) ar (conts os) = some r := hr
  unfold r46 at hr
  generalize hc : conts os = C at hr
  replace hr := dV.elim hr; obtain ⟨v0, l1, y0, rfl, e0, hr⟩ := hr; obtain rfl := uvapi_Key_eq _ _ e0
  replace hr := dV.elim hr; obtain ⟨v1, l2, y1, rfl, e1, hr⟩ := hr; obtain rfl := uvapi_Tuple_eq _ _ e1
  replace hr := dV.elim hr; obtain ⟨v2, l3, y2, rfl, e2, hr⟩ := hr; obtain rfl := asI_eq _ _ _ e2
  replace hr := dFin hr; obtain ⟨rfl, rfl, x, h, rfl⟩ := hr
  obtain rfl := kinds_nil hc
  exact ⟨_, rfl, leads46 R14_Mask R32_Make R32_layout hS _ _ _ x h⟩
def R32_Open : api_Key → api_Tuple → Int → Option (Int × Bool) := R32_OpenF R14_Mask R32_Make R32_layout
theorem lift46 : SumOK Try.prog 46 (s46 R32_Open) := ok46 R14_Mask R32_Make R32_layout (SumsOK.of_tab ⟨lift92, lift38, lift93, trivial⟩)
end Go.Vm.Code
namespace Go.Vm.Code
open Go Go.Vm
def lyS (t : api_Tuple) : api_Layout := ⟨t.Proto != 6, 0, 0⟩
def mkS (k : api_Key) (t : api_Tuple) (n : Nat) : Nat := mskN (lyS t) k t n
def widS (t : api_Tuple) : Nat := if t.Proto = 6 then 16 else 64
theorem lyS_wid (t : api_Tuple) : widN (lyS t) = widS t := by
  unfold widN widS bitsN
  by_cases h : t.Proto = 6
  · have : lyS t = ⟨false, 0, 0⟩ := by unfold lyS; rw [h]; rfl
    rw [this, if_pos h, if_pos (by unfold LOK; decide)]; rfl
  · have : lyS t = ⟨true, 0, 0⟩ := by unfold lyS; rw [show (t.Proto != 6) = true from by rw [bne_iff_ne]; exact h]
    rw [this, if_neg h, if_pos (by unfold LOK; decide)]; rfl
theorem mkS_eq (k : api_Key) (t : api_Tuple) (n : Nat) : mkS k t n = (n ^^^ (hshI k t).toNat) % 2 ^ widS t := by unfold mkS mskN; rw [lyS_wid]
theorem mkS_twice (k : api_Key) (t : api_Tuple) (n : Nat) : mkS k t (mkS k t n) = n % 2 ^ widS t := by
  rw [mkS_eq, mkS_eq]
  apply Nat.eq_of_testBit_eq
  intro i
  simp only [Nat.testBit_mod_two_pow, Nat.testBit_xor]
  by_cases h : i < widS t <;> simp [h, Bool.xor_assoc]
theorem mkS_lt (k : api_Key) (t : api_Tuple) (n : Nat) : mkS k t n < 2 ^ widS t := by rw [mkS_eq]; exact Nat.mod_lt _ (Nat.two_pow_pos _)
theorem wid16 (t : api_Tuple) : 2 ^ 16 ≤ 2 ^ widS t ∧ 2 ^ widS t ≤ 2 ^ 64 := by
  unfold widS; split <;> decide
theorem smask_eq {k : api_Key} {t : api_Tuple} {n : Int} (hn : 0 ≤ n ∧ n < 2 ^ 64) (hs : inU t.Src) (hd : inU t.Dst) : stateless_mask k t n = some ((mkS k t n.toNat : Nat) : Int) := by
  unfold stateless_mask stateless_maskF
  show (cookie_Mask (lyS t) k t n).bind _ = _
  rw [cMask_eq hn hs hd, Option.bind_some]; rfl
theorem rmask_eq {k : api_Key} {t : api_Tuple} {n : Int} (hn : 0 ≤ n ∧ n < 2 ^ 64) (hs : inU t.Src) (hd : inU t.Dst) : R14_Mask (lyS t) k t n = some ((mkS k t n.toNat : Nat) : Int) := rMaskT_eq hn hs hd
theorem swithin_eq (n : Int) : stateless_within n = some (decide (1 ≤ n ∧ n ≤ 65535)) := by
  unfold stateless_within stateless_withinF
  by_cases h : n ≥ 1
  · rw [cond_p h]; congr 1; rw [decide_eq_decide]; omega
  · rw [cond_n h]; congr 1; symm; rw [decide_eq_false_iff_not]; omega
def ckI (k : api_Key) (t : api_Tuple) (id : Int) : Int := if 1 ≤ id ∧ id ≤ 65535 then ((mkS k t id.toNat : Nat) : Int) else 0
theorem ckI_rng (k : api_Key) (t : api_Tuple) (id : Int) : 0 ≤ ckI k t id ∧ ckI k t id < 2 ^ 64 := by
  unfold ckI
  split
  · have := mkS_lt k t id.toNat; have := wid16 t; omega
  · omega
theorem smake_eq {k : api_Key} {t : api_Tuple} {id : Int} (hi : -2 ^ 63 ≤ id ∧ id < 2 ^ 63) (hs : inU t.Src) (hd : inU t.Dst) : stateless_Make k t id = some (ckI k t id) := by
  unfold stateless_Make stateless_MakeF ckI
  by_cases h : id < 0
  · rw [cond_p h, if_neg (by omega)]
  · rw [cond_n h, wU64 (by omega) (by omega), swithin_eq, Option.bind_some]
    by_cases h1 : 1 ≤ id ∧ id ≤ 65535
    · rw [decide_eq_true h1, if_pos h1, smask_eq ⟨by omega, by omega⟩ hs hd]; rfl
    · rw [decide_eq_false h1, if_neg h1]; rfl
theorem rmake_eq {k : api_Key} {t : api_Tuple} {id : Int} (hs : inU t.Src) (hd : inU t.Dst) : R32_Make k t id = some (ckI k t id) := by
  unfold R32_Make R32_MakeF R32_layout R32_layoutF ckI
  by_cases h : id < 1
  · rw [cond_p h, if_neg (by omega)]
  · rw [cond_n h]
    by_cases h1 : id > 65535
    · rw [cond_p h1, if_neg (by omega)]
    · rw [cond_n h1, if_pos (by omega), Option.bind_some, wU64 (by omega) (by omega)]
      show (R14_Mask (lyS t) k t id).bind _ = _
      rw [rmask_eq ⟨by omega, by omega⟩ hs hd]; rfl
def opI (k : api_Key) (t : api_Tuple) (n : Nat) : Int × Bool := if 1 ≤ mkS k t n ∧ mkS k t n ≤ 65535 ∧ n < 2 ^ widS t then (((mkS k t n : Nat) : Int), true) else (0, false)
theorem sopen_eq {k : api_Key} {t : api_Tuple} {n : Nat} (hn : n < 2 ^ 64) (hs : inU t.Src) (hd : inU t.Dst) : stateless_Open k t (n : Int) = some (opI k t n) := by
  unfold stateless_Open stateless_OpenF opI
  have hm := mkS_lt k t n; have hw := wid16 t
  rw [smask_eq ⟨by omega, by omega⟩ hs hd, Option.bind_some, swithin_eq, Option.bind_some, Int.toNat_natCast]
  by_cases h1 : 1 ≤ mkS k t n ∧ mkS k t n ≤ 65535
  · rw [decide_eq_true (show (1 : Int) ≤ ((mkS k t n : Nat) : Int) ∧ ((mkS k t n : Nat) : Int) ≤ 65535 by omega)]
    simp only [Bool.not_true, cond_false]
    rw [smask_eq ⟨by omega, by omega⟩ hs hd, Option.bind_some, Int.toNat_natCast, mkS_twice]
    by_cases h2 : n < 2 ^ widS t
    · rw [if_pos ⟨h1.1, h1.2, h2⟩, Nat.mod_eq_of_lt h2, show ((n : Int) != (n : Int)) = false from by simp, cond_false, wI64 (by omega) (by omega)]
    · have := Nat.mod_lt n (Nat.two_pow_pos (widS t))
      rw [if_neg (fun c => h2 c.2.2), show (((n % 2 ^ widS t : Nat) : Int) != (n : Int)) = true from by rw [bne_iff_ne]; omega, cond_true]
  · rw [decide_eq_false (show ¬ ((1 : Int) ≤ ((mkS k t n : Nat) : Int) ∧ ((mkS k t n : Nat) : Int) ≤ 65535) by omega), if_neg (fun c => h1 ⟨c.1, c.2.1⟩)]; rfl
theorem ropen_eq {k : api_Key} {t : api_Tuple} {n : Nat} (hn : n < 2 ^ 64) (hs : inU t.Src) (hd : inU t.Dst) : R32_Open k t (n : Int) = some (opI k t n) := by
  unfold R32_Open R32_OpenF R32_layout R32_layoutF opI
  have hm := mkS_lt k t n; have hw := wid16 t
  rw [Option.bind_some]
  show (R14_Mask (lyS t) k t n).bind _ = _
  rw [rmask_eq ⟨by omega, by omega⟩ hs hd, Option.bind_some, Int.toNat_natCast]
  by_cases h0 : ((mkS k t n : Nat) : Int) < 1
  · rw [cond_p h0, if_neg (by omega)]
  · rw [cond_n h0]
    by_cases h1 : ((mkS k t n : Nat) : Int) > 65535
    · rw [cond_p h1, if_neg (by omega)]
    · rw [cond_n h1, wI64 (by omega) (by omega), rmake_eq hs hd, Option.bind_some]
      unfold ckI
      rw [if_pos (by omega), Int.toNat_natCast, mkS_twice]
      by_cases h2 : n < 2 ^ widS t
      · rw [if_pos ⟨by omega, by omega, h2⟩, Nat.mod_eq_of_lt h2, show ((n : Int) != (n : Int)) = false from by simp, cond_false]
      · have := Nat.mod_lt n (Nat.two_pow_pos (widS t))
        rw [if_neg (fun c => h2 c.2.2), show (((n % 2 ^ widS t : Nat) : Int) != (n : Int)) = true from by rw [bne_iff_ne]; omega, cond_true]
end Go.Vm.Code
namespace Go.Vm.Code
open Go Go.Vm Go.Proofs
set_option maxRecDepth 100000
set_option maxHeartbeats 4000000
set_option linter.unusedVariables false
def sip_HashF (sip_Hasher_Sum : sip_Hasher → Option (Int × sip_Hasher)) (sip_Hasher_Write : sip_Hasher → (List UInt8) → Option sip_Hasher) (sip_New : api_Key → Option sip_Hasher) (k : api_Key) (s : List UInt8) : Option Int :=
  (sip_New k).bind fun n =>
  (sip_Hasher_Write n s).bind fun w =>
  (sip_Hasher_Sum w).bind fun s1 =>
  some (s1.1)
def rx94 (x : Int) : SRes := ⟨.int .u64 x, [], []⟩
def r94 (g : api_Key → (List UInt8) → Option Int) : Dec := dV uvapi_Key fun (y0 : api_Key) => dV asS fun (y1 : List UInt8) => dEnd (ofG (g y0 y1) rx94)
theorem r94_c {g : api_Key → (List UInt8) → Option Int} {y0 : api_Key} {y1 : List UInt8} {x : Int} (hx : g y0 y1 = some x) : r94 g [.agg ⟨[.int .u64 y0.A, .int .u64 y0.B]⟩, .string ⟨⟨y1⟩⟩] [] = some (rx94 x) := (dV_eq (uvapi_Key_c _)).trans ((dV_eq (asS_c)).trans (ofG_eq hx))
def s94 (g : api_Key → (List UInt8) → Option Int) : Summ := ⟨[.v, .v], r94 g⟩
theorem r94_eq {g : api_Key → (List UInt8) → Option Int} {y0 : api_Key} {y1 : List UInt8} {x : Int} (hx : g y0 y1 = some x) : (s94 g).run [.agg ⟨[.int .u64 y0.A, .int .u64 y0.B]⟩, .string ⟨⟨y1⟩⟩] [] = some (rx94 x) := r94_c hx
abbrev sums94 (sip_Hasher_Sum : sip_Hasher → Option (Int × sip_Hasher)) (sip_Hasher_Write : sip_Hasher → (List UInt8) → Option sip_Hasher) (sip_New : api_Key → Option sip_Hasher) : List (Nat × Summ) := [(134, s134 sip_Hasher_Sum), (133, s133 sip_Hasher_Write), (132, s132 sip_New)]
theorem leads94 (sip_Hasher_Sum : sip_Hasher → Option (Int × sip_Hasher)) (sip_Hasher_Write : sip_Hasher → (List UInt8) → Option sip_Hasher) (sip_New : api_Key → Option sip_Hasher) (hS : SumsOK Try.prog (aget (sums94 sip_Hasher_Sum sip_Hasher_Write sip_New))) (k : api_Key) (s : List UInt8) (res : Int) (h : sip_HashF sip_Hasher_Sum sip_Hasher_Write sip_New k s = some res) :
    Leads Try.prog 94 0 ⟨⟨94, 13, [(0, .agg ⟨[.int .u64 k.A, .int .u64 k.B]⟩), (1, .string ⟨⟨s⟩⟩)], [.code k94_7], [], false, none⟩, [], [], 0⟩ (fun v H _ => Res 0 (rx94 res) v H) := by
  unfold sip_HashF at h
  refine ev_ok tab_ok hS true 3000 ?_
  conv => whnf
  replace h := obind.elim h; obtain ⟨n, hy, h⟩ := h
  refine sumK.introF [1] (sumRun_of (aqs := [.agg ⟨[.int .u64 k.A, .int .u64 k.B]⟩]) (ws := []) (n := 1) (m := 0) (t' := 2) (ra_cons rfl rfl ra_nil) rfl (by rfl) (r132_eq hy) rfl rfl rfl rfl wb_nil (an_cons (rfl) an_nil) rfl) ?_
  conv => whnf
  replace h := obind.elim h; obtain ⟨w, hy, h⟩ := h
  refine sumK.introF [1] (sumRun_of (aqs := [.pointer (some ⟨0, 0, none⟩), .string ⟨⟨s⟩⟩]) (ws := [.win 1 0 7 true]) (n := 0) (m := 0) (t' := 2) (ra_cons rfl rfl (ra_cons rfl rfl ra_nil)) rfl (by rfl) (r133_eq hy) rfl rfl rfl rfl (wb_win rfl rfl rfl ⟨rfl, Nat.le_of_ble_eq_true rfl⟩ rfl rfl wb_nil) an_nil rfl) ?_
  conv => whnf
  replace h := obind.elim h; obtain ⟨s1, hy, h⟩ := h
  refine sumK.introF [1] (sumRun_of (aqs := [.pointer (some ⟨0, 0, none⟩)]) (ws := [.win 1 0 7 true]) (n := 0) (m := 0) (t' := 2) (ra_cons rfl rfl ra_nil) rfl (by rfl) (r134_eq hy) rfl rfl rfl rfl (wb_win rfl rfl rfl ⟨rfl, Nat.le_of_ble_eq_true rfl⟩ rfl rfl wb_nil) an_nil rfl) ?_
  conv => whnf
  all_goals (cases h; exact Res.z rfl rfl rfl)
theorem ok94 (sip_Hasher_Sum : sip_Hasher → Option (Int × sip_Hasher)) (sip_Hasher_Write : sip_Hasher → (List UInt8) → Option sip_Hasher) (sip_New : api_Key → Option sip_Hasher) (hS : SumsOK Try.prog (aget (sums94 sip_Hasher_Sum sip_Hasher_Write sip_New))) : SumOK Try.prog 94 (s94 (sip_HashF sip_Hasher_Sum sip_Hasher_Write sip_New)) := by
  refine SumOK.of_leads tab_ok (fun ar os r ha hr => ?_) ⟨Try.f94, rfl, by decide, rfl⟩
  replace hr : r94 (sip_HashF sip_Hasher_Sum sip_Hasher_Write sip_New) ar (conts os) = some r := hr
  unfold r94 at hr
  generalize hc : conts os = C at hr
  replace hr := dV.elim hr; obtain ⟨v0, l1, y0, rfl, e0, hr⟩ := hr; obtain rfl := uvapi_Key_eq _ _ e0
  replace hr := dV.elim hr; obtain ⟨v1, l2, y1, rfl, e1, hr⟩ := hr; obtain rfl := asS_eq _ _ e1
  replace hr := dFin hr; obtain ⟨rfl, rfl, x, h, rfl⟩ := hr
  obtain rfl := kinds_nil hc
  exact ⟨_, rfl, leads94 sip_Hasher_Sum sip_Hasher_Write sip_New hS _ _ x h⟩
def sip_Hash : api_Key → (List UInt8) → Option Int := sip_HashF sip_Hasher_Sum sip_Hasher_Write sip_New
theorem lift94 : SumOK Try.prog 94 (s94 sip_Hash) := ok94 sip_Hasher_Sum sip_Hasher_Write sip_New (SumsOK.of_tab ⟨lift134, lift133, lift132, trivial⟩)
end Go.Vm.Code
namespace Go.Vm.Code
open Go Go.Vm
theorem Hash_eq {k : api_Key} {s : List UInt8} (h : s.length < 2 ^ 61) : sip_Hash k s = some (sumV (s.foldl wrB (newV k))) := by
  unfold sip_Hash sip_HashF
  rw [New_eq, Option.bind_some, Write_eq rfl (by simp [newV]) (by simp [newV]; omega), Option.bind_some, Sum_eq (by rw [(wrL s _).1]; rfl)]; rfl
theorem Hash_R {k : api_Key} {s : List UInt8} (h : s.length < 2 ^ 61) : sip_Hash k s = some (hashR tak finQ s.length (newV k).s s) := by
  rw [Hash_eq h]
  congr 1
  exact fold_hashR tak finQ s.length s (newV k) (Nat.le_refl _) rfl (by simp [newV]) rfl s.length (by simp [newV])
end Go.Vm.Code
namespace Go.Vm.Code
open Go Go.Vm Go.Proofs
set_option maxRecDepth 100000
set_option maxHeartbeats 4000000
set_option linter.unusedVariables false
def rekey_NewF (k : api_Key) : Option rekey_Keys :=
  some (rekey_Keys.mk (Arr2_api_Key.mk k (api_Key.mk 0 0)) 1 0 0)
def rx33 (x : rekey_Keys) : SRes := ⟨.pointer (some ⟨0, 0, none⟩), [[.int .u64 x.keys.e0.A, .int .u64 x.keys.e0.B, .int .u64 x.keys.e1.A, .int .u64 x.keys.e1.B, .int .i64 x.some_, .int .i64 x.until_, .int .i64 x.now]], []⟩
def r33 (g : api_Key → Option rekey_Keys) : Dec := dV uvapi_Key fun (y0 : api_Key) => dEnd (ofG (g y0) rx33)
theorem r33_c {g : api_Key → Option rekey_Keys} {y0 : api_Key} {x : rekey_Keys} (hx : g y0 = some x) : r33 g [.agg ⟨[.int .u64 y0.A, .int .u64 y0.B]⟩] [] = some (rx33 x) := (dV_eq (uvapi_Key_c _)).trans (ofG_eq hx)
def s33 (g : api_Key → Option rekey_Keys) : Summ := ⟨[.v], r33 g⟩
theorem r33_eq {g : api_Key → Option rekey_Keys} {y0 : api_Key} {x : rekey_Keys} (hx : g y0 = some x) : (s33 g).run [.agg ⟨[.int .u64 y0.A, .int .u64 y0.B]⟩] [] = some (rx33 x) := r33_c hx
abbrev sums33 : List (Nat × Summ) := []
theorem leads33 (hS : SumsOK Try.prog (aget (sums33))) (k : api_Key) (res : rekey_Keys) (h : rekey_NewF k = some res) :
    Leads Try.prog 33 0 ⟨⟨33, 7, [(0, .agg ⟨[.int .u64 k.A, .int .u64 k.B]⟩)], [.code k33_3], [], false, none⟩, [], [], 0⟩ (fun v H _ => Res 0 (rx33 res) v H) := by
  unfold rekey_NewF at h
  refine ev_ok tab_ok hS true 3000 ?_
  conv => whnf
  all_goals (cases h)
  all_goals exact Res.of [1] rfl (nw_s (rfl) (hs_cells rfl) nw_0) (by decide) (js_l (by decide) js_0) wr_0
theorem ok33 (hS : SumsOK Try.prog (aget (sums33))) : SumOK Try.prog 33 (s33 (rekey_NewF)) := by
  refine SumOK.of_leads tab_ok (fun ar os r ha hr => ?_) ⟨Try.f33, rfl, by decide, rfl⟩
  replace hr : r33 (rekey_NewF) ar (conts os) = some r := hr
  unfold r33 at hr
  generalize hc : conts os = C at hr
  replace hr := dV.elim hr; obtain ⟨v0, l1, y0, rfl, e0, hr⟩ := hr; obtain rfl := uvapi_Key_eq _ _ e0
  replace hr := dFin hr; obtain ⟨rfl, rfl, x, h, rfl⟩ := hr
  obtain rfl := kinds_nil hc
  exact ⟨_, rfl, leads33 hS _ x h⟩
def rekey_New : api_Key → Option rekey_Keys := rekey_NewF
theorem lift33 : SumOK Try.prog 33 (s33 rekey_New) := ok33 (SumsOK.of_tab trivial)
def rekey_NextF (sip_Hash : api_Key → (List UInt8) → Option Int) (k : api_Key) : Option api_Key :=
  (sip_Hash k [1]).bind fun xh =>
  (sip_Hash k [2]).bind fun xh1 =>
  some (api_Key.mk xh xh1)
def rx44 (x : api_Key) : SRes := ⟨.agg ⟨[.int .u64 x.A, .int .u64 x.B]⟩, [], []⟩
def r44 (g : api_Key → Option api_Key) : Dec := dV uvapi_Key fun (y0 : api_Key) => dEnd (ofG (g y0) rx44)
theorem r44_c {g : api_Key → Option api_Key} {y0 : api_Key} {x : api_Key} (hx : g y0 = some x) : r44 g [.agg ⟨[.int .u64 y0.A, .int .u64 y0.B]⟩] [] = some (rx44 x) := (dV_eq (uvapi_Key_c _)).trans (ofG_eq hx)
def s44 (g : api_Key → Option api_Key) : Summ := ⟨[.v], r44 g⟩
theorem r44_eq {g : api_Key → Option api_Key} {y0 : api_Key} {x : api_Key} (hx : g y0 = some x) : (s44 g).run [.agg ⟨[.int .u64 y0.A, .int .u64 y0.B]⟩] [] = some (rx44 x) := r44_c hx
abbrev sums44 (sip_Hash : api_Key → (List UInt8) → Option Int) : List (Nat × Summ) := [(94, s94 sip_Hash)]
theorem leads44 (sip_Hash : api_Key → (List UInt8) → Option Int) (hS : SumsOK Try.prog (aget (sums44 sip_Hash))) (k : api_Key) (res : api_Key) (h : rekey_NextF sip_Hash k = some res) :
    Leads Try.prog 44 0 ⟨⟨44, 8, [(0, .agg ⟨[.int .u64 k.A, .int .u64 k.B]⟩)], [.code k44_3], [], false, none⟩, [], [], 0⟩ (fun v H _ => Res 0 (rx44 res) v H) := by
  unfold rekey_NextF at h
  refine ev_ok tab_ok hS true 3000 ?_
  conv => whnf
  replace h := obind.elim h; obtain ⟨xh, hy, h⟩ := h
  refine sumK.q rfl rfl (r94_eq hy) rfl rfl rfl ?_
  conv => whnf
  replace h := obind.elim h; obtain ⟨xh1, hy, h⟩ := h
  refine sumK.q rfl rfl (r94_eq hy) rfl rfl rfl ?_
  conv => whnf
  all_goals (cases h; exact Res.z rfl rfl rfl)
theorem ok44 (sip_Hash : api_Key → (List UInt8) → Option Int) (hS : SumsOK Try.prog (aget (sums44 sip_Hash))) : SumOK Try.prog 44 (s44 (rekey_NextF sip_Hash)) := by
  refine SumOK.of_leads tab_ok (fun ar os r ha hr => ?_) ⟨Try.f44, rfl, by decide, rfl⟩
  replace hr : r44 (rekey_NextF sip_Hash) ar (conts os) = some r := hr
  unfold r44 at hr
  generalize hc : conts os = C at hr
  replace hr := dV.elim hr; obtain ⟨v0, l1, y0, rfl, e0, hr⟩ := hr; obtain rfl := uvapi_Key_eq _ _ e0
  replace hr := dFin hr; obtain ⟨rfl, rfl, x, h, rfl⟩ := hr
  obtain rfl := kinds_nil hc
  exact ⟨_, rfl, leads44 sip_Hash hS _ x h⟩
def rekey_Next : api_Key → Option api_Key := rekey_NextF sip_Hash
theorem lift44 : SumOK Try.prog 44 (s44 rekey_Next) := ok44 sip_Hash (SumsOK.of_tab ⟨lift94, trivial⟩)
def rekey_Keys_given_nilF : Option Bool :=
  some (false)
def rx91n (x : Bool) : SRes := ⟨.bool x, [], [none]⟩
def r91n (g : Option Bool) : Dec := dNl 1 <| dEnd (ofG (g) rx91n)
theorem r91n_c {g : Option Bool} {x : Bool} (hx : g = some x) : r91n g [.pointer none] [none] = some (rx91n x) := (dNl_1).trans (ofG_eq hx)
abbrev sums91n : List (Nat × Summ) := []
theorem leads91n (hS : SumsOK Try.prog (aget (sums91n))) (res : Bool) (h : rekey_Keys_given_nilF = some res) :
    Leads Try.prog 91 1 ⟨⟨91, 12, [(0, .pointer none)], [.code k91_3], [], false, none⟩, [], [], 1⟩ (fun v H _ => Res 1 (rx91n res) v H) := by
  unfold rekey_Keys_given_nilF at h
  refine ev_ok tab_ok hS true 3000 ?_
  conv => whnf
  all_goals (cases h)
  all_goals exact Res.of [] rfl nw_0 (by decide) js_0 (wr_n wr_0)
def rekey_Keys_givenF (ra0 : rekey_Keys) : Option (Bool × rekey_Keys) :=
  some ((decide (ra0.some_ > 0), ra0))
def rx91 (x : Bool × rekey_Keys) : SRes := ⟨.bool x.1, [], [some [.int .u64 x.2.keys.e0.A, .int .u64 x.2.keys.e0.B, .int .u64 x.2.keys.e1.A, .int .u64 x.2.keys.e1.B, .int .i64 x.2.some_, .int .i64 x.2.until_, .int .i64 x.2.now]]⟩
def r91 (g : rekey_Keys → Option (Bool × rekey_Keys)) : Dec := dPt 0 unrekey_Keys fun (y0 : rekey_Keys) => dEnd (ofG (g y0) rx91)
theorem r91_c {g : rekey_Keys → Option (Bool × rekey_Keys)} {y0 : rekey_Keys} {x : Bool × rekey_Keys} (hx : g y0 = some x) : r91 g [.pointer (some ⟨0, 0, none⟩)] [some [.int .u64 y0.keys.e0.A, .int .u64 y0.keys.e0.B, .int .u64 y0.keys.e1.A, .int .u64 y0.keys.e1.B, .int .i64 y0.some_, .int .i64 y0.until_, .int .i64 y0.now]] = some (rx91 x) := (dPt_eq (unrekey_Keys_c _)).trans (ofG_eq hx)
def s91 (g : rekey_Keys → Option (Bool × rekey_Keys)) (g2 : Option Bool) : Summ := ⟨[.pt 7], pickN 0 (r91 g) (r91n g2)⟩
theorem r91_eq {g : rekey_Keys → Option (Bool × rekey_Keys)} {g2 : Option Bool} {y0 : rekey_Keys} {x : Bool × rekey_Keys} (hx : g y0 = some x) : (s91 g g2).run [.pointer (some ⟨0, 0, none⟩)] [some [.int .u64 y0.keys.e0.A, .int .u64 y0.keys.e0.B, .int .u64 y0.keys.e1.A, .int .u64 y0.keys.e1.B, .int .i64 y0.some_, .int .i64 y0.until_, .int .i64 y0.now]] = some (rx91 x) := r91_c hx
theorem r91n_eq {g2 : rekey_Keys → Option (Bool × rekey_Keys)} {g : Option Bool} {x : Bool} (hx : g = some x) : (s91 g2 g).run [.pointer none] [none] = some (rx91n x) := r91n_c hx
abbrev sums91 : List (Nat × Summ) := []
theorem leads91 (hS : SumsOK Try.prog (aget (sums91))) (ra0 : rekey_Keys) (res : Bool × rekey_Keys) (h : rekey_Keys_givenF ra0 = some res) :
    Leads Try.prog 91 1 ⟨⟨91, 12, [(0, .pointer (some ⟨0, 0, none⟩))], [.code k91_3], [], false, none⟩, [], [(0, .cells [.int .u64 ra0.keys.e0.A, .int .u64 ra0.keys.e0.B, .int .u64 ra0.keys.e1.A, .int .u64 ra0.keys.e1.B, .int .i64 ra0.some_, .int .i64 ra0.until_, .int .i64 ra0.now])], 1⟩ (fun v H _ => Res 1 (rx91 res) v H) := by
  unfold rekey_Keys_givenF at h
  refine ev_ok tab_ok hS true 3000 ?_
  conv => whnf
  all_goals (cases h)
  all_goals exact Res.of [] rfl nw_0 (by decide) js_0 (wr_s (rfl) (hs_cells rfl) wr_0)
theorem ok91 (hS : SumsOK Try.prog (aget (sums91))) (hS2 : SumsOK Try.prog (aget (sums91n))) : SumOK Try.prog 91 (s91 (rekey_Keys_givenF) (rekey_Keys_given_nilF)) := by
  refine SumOK.of_leads tab_ok (fun ar os r ha hr => ?_) ⟨Try.f91, rfl, by decide, rfl⟩
  have hp := pickN.elim hr; clear hr; rcases hp with hr | hr
  · skip
    replace hr : r91 (rekey_Keys_givenF) ar (conts os) = some r := hr
    unfold r91 at hr
    generalize hc : conts os = C at hr
    have hq := dPt.elim hr; clear hr; obtain ⟨c0, l1, C, y0, rfl, rfl, e0, hr⟩ := hq; obtain rfl := unrekey_Keys_eq _ _ e0
    replace hr := dFin hr; obtain ⟨rfl, rfl, x, h, rfl⟩ := hr
    obtain ⟨os, rfl, ha, hc⟩ := kinds_some ha hc
    obtain rfl := kinds_nil hc
    exact ⟨_, rfl, leads91 hS _ x h⟩
  · skip
    replace hr : r91n (rekey_Keys_given_nilF) ar (conts os) = some r := hr
    unfold r91n at hr
    generalize hc : conts os = C at hr
    have hq := dNl.elim hr; clear hr; obtain ⟨l1, C, rfl, rfl, hr⟩ := hq; simp only [List.replicate, List.nil_append, List.cons_append] at hc
    replace hr := dFin hr; obtain ⟨rfl, rfl, x, h, rfl⟩ := hr
    obtain ⟨os, rfl, ha, hc⟩ := kinds_none ha hc
    obtain rfl := kinds_nil hc
    exact ⟨_, rfl, leads91n hS2 x h⟩
def rekey_Keys_given : rekey_Keys → Option (Bool × rekey_Keys) := rekey_Keys_givenF
def rekey_Keys_given_nil : Option Bool := rekey_Keys_given_nilF
theorem lift91 : SumOK Try.prog 91 (s91 rekey_Keys_given rekey_Keys_given_nil) := ok91 (SumsOK.of_tab trivial) (SumsOK.of_tab trivial)
def rekey_Keys_Turn_nilF (rekey_Keys_given : rekey_Keys → Option (Bool × rekey_Keys)) (rekey_Keys_given_nil : Option Bool) (n : Int) : Option Int :=
  (rekey_Keys_given_nil).bind fun n1 =>
  cond (!n1)
    (
    some (1))
    (
    cond (decide (n < 1))
      (
      some (1))
      (
      cond (decide (n > 1048576))
        (
        some (1))
        (
        none)))
def rx34n (x : Int) : SRes := ⟨.int .i64 x, [], [none]⟩
def r34n (g : Int → Option Int) : Dec := dNl 1 <| dV (asI .i64) fun (y1 : Int) => dEnd (ofG (g y1) rx34n)
theorem r34n_c {g : Int → Option Int} {y1 : Int} {x : Int} (hx : g y1 = some x) : r34n g [.pointer none, .int .i64 y1] [none] = some (rx34n x) := (dNl_1).trans ((dV_eq (asI_c _)).trans (ofG_eq hx))
abbrev sums34n (rekey_Keys_given : rekey_Keys → Option (Bool × rekey_Keys)) (rekey_Keys_given_nil : Option Bool) : List (Nat × Summ) := [(91, s91 rekey_Keys_given rekey_Keys_given_nil)]
theorem leads34n (rekey_Keys_given : rekey_Keys → Option (Bool × rekey_Keys)) (rekey_Keys_given_nil : Option Bool) (hS : SumsOK Try.prog (aget (sums34n rekey_Keys_given rekey_Keys_given_nil))) (n : Int) (res : Int) (h : rekey_Keys_Turn_nilF rekey_Keys_given rekey_Keys_given_nil n = some res) :
    Leads Try.prog 34 1 ⟨⟨34, 50, [(0, .pointer none), (1, .int .i64 n)], [.code k34_19], [], false, none⟩, [], [], 1⟩ (fun v H _ => Res 1 (rx34n res) v H) := by
  unfold rekey_Keys_Turn_nilF at h
  refine ev_ok tab_ok hS true 3000 ?_
  conv => whnf
  replace h := obind.elim h; obtain ⟨n1, hy, h⟩ := h
  refine sumK.introF [] (sumRun_of (aqs := [.pointer none]) (ws := [.no]) (n := 0) (m := 0) (t' := 1) (ra_cons rfl rfl ra_nil) rfl (by rfl) (r91n_eq hy) rfl rfl rfl rfl (wb_skip rfl wb_nil) an_nil rfl) ?_
  conv => whnf
  refine br.h h ?_ ?_ ?_
  · rfl
  · clear h; intro hb h; conv => whnf
    all_goals (cases h)
    all_goals exact Res.of [] rfl nw_0 (by decide) js_0 (wr_n wr_0)
  clear h; intro hb h; conv => whnf
  refine br.h h ?_ ?_ ?_
  · rfl
  · clear h; intro hb h; conv => whnf
    all_goals (cases h)
    all_goals exact Res.of [] rfl nw_0 (by decide) js_0 (wr_n wr_0)
  clear h; intro hb h; conv => whnf
  refine br.h h ?_ ?_ ?_
  · rfl
  · clear h; intro hb h; conv => whnf
    all_goals (cases h)
    all_goals exact Res.of [] rfl nw_0 (by decide) js_0 (wr_n wr_0)
  clear h; intro hb h; conv => whnf
  cases h
def rekey_Keys_TurnF (rekey_Keys_given : rekey_Keys → Option (Bool × rekey_Keys)) (rekey_Keys_given_nil : Option Bool) (rekey_Next : api_Key → Option api_Key) (ra0 : rekey_Keys) (n : Int) : Option (Int × rekey_Keys) :=
  (rekey_Keys_given ra0).bind fun xg =>
  cond (!xg.1)
    (
    some ((1, xg.2)))
    (
    cond (decide (n < 1))
      (
      some ((1, xg.2)))
      (
      cond (decide (n > 1048576))
        (
        some ((1, xg.2)))
        (
        cond (xg.2.some_ == 2)
          (
          some ((11, xg.2)))
          (
          (rekey_Next xg.2.keys.e0).bind fun n1 =>
          some ((0, rekey_Keys.mk (Arr2_api_Key.mk n1 xg.2.keys.e0) 2 (wI .i64 (xg.2.now + n)) xg.2.now))))))
def rx34 (x : Int × rekey_Keys) : SRes := ⟨.int .i64 x.1, [], [some [.int .u64 x.2.keys.e0.A, .int .u64 x.2.keys.e0.B, .int .u64 x.2.keys.e1.A, .int .u64 x.2.keys.e1.B, .int .i64 x.2.some_, .int .i64 x.2.until_, .int .i64 x.2.now]]⟩
def r34 (g : rekey_Keys → Int → Option (Int × rekey_Keys)) : Dec := dPt 0 unrekey_Keys fun (y0 : rekey_Keys) => dV (asI .i64) fun (y1 : Int) => dEnd (ofG (g y0 y1) rx34)
theorem r34_c {g : rekey_Keys → Int → Option (Int × rekey_Keys)} {y0 : rekey_Keys} {y1 : Int} {x : Int × rekey_Keys} (hx : g y0 y1 = some x) : r34 g [.pointer (some ⟨0, 0, none⟩), .int .i64 y1] [some [.int .u64 y0.keys.e0.A, .int .u64 y0.keys.e0.B, .int .u64 y0.keys.e1.A, .int .u64 y0.keys.e1.B, .int .i64 y0.some_, .int .i64 y0.until_, .int .i64 y0.now]] = some (rx34 x) := (dPt_eq (unrekey_Keys_c _)).trans ((dV_eq (asI_c _)).trans (ofG_eq hx))
def s34 (g : rekey_Keys → Int → Option (Int × rekey_Keys)) (g2 : Int → Option Int) : Summ := ⟨[.pt 7, .v], pickN 0 (r34 g) (r34n g2)⟩
theorem r34_eq {g : rekey_Keys → Int → Option (Int × rekey_Keys)} {g2 : Int → Option Int} {y0 : rekey_Keys} {y1 : Int} {x : Int × rekey_Keys} (hx : g y0 y1 = some x) : (s34 g g2).run [.pointer (some ⟨0, 0, none⟩), .int .i64 y1] [some [.int .u64 y0.keys.e0.A, .int .u64 y0.keys.e0.B, .int .u64 y0.keys.e1.A, .int .u64 y0.keys.e1.B, .int .i64 y0.some_, .int .i64 y0.until_, .int .i64 y0.now]] = some (rx34 x) := r34_c hx
theorem r34n_eq {g2 : rekey_Keys → Int → Option (Int × rekey_Keys)} {g : Int → Option Int} {y1 : Int} {x : Int} (hx : g y1 = some x) : (s34 g2 g).run [.pointer none, .int .i64 y1] [none] = some (rx34n x) := r34n_c hx
abbrev sums34 (rekey_Keys_given : rekey_Keys → Option (Bool × rekey_Keys)) (rekey_Keys_given_nil : Option Bool) (rekey_Next : api_Key → Option api_Key) : List (Nat × Summ) := [(91, s91 rekey_Keys_given rekey_Keys_given_nil), (44, s44 rekey_Next)]
theorem leads34 (rekey_Keys_given : rekey_Keys → Option (Bool × rekey_Keys)) (rekey_Keys_given_nil : Option Bool) (rekey_Next : api_Key → Option api_Key) (hS : SumsOK Try.prog (aget (sums34 rekey_Keys_given rekey_Keys_given_nil rekey_Next))) (ra0 : rekey_Keys) (n : Int) (res : Int × rekey_Keys) (h : rekey_Keys_TurnF rekey_Keys_given rekey_Keys_given_nil rekey_Next ra0 n = some res) :
    Leads Try.prog 34 1 ⟨⟨34, 50, [(0, .pointer (some ⟨0, 0, none⟩)), (1, .int .i64 n)], [.code k34_19], [], false, none⟩, [], [(0, .cells [.int .u64 ra0.keys.e0.A, .int .u64 ra0.keys.e0.B, .int .u64 ra0.keys.e1.A, .int .u64 ra0.keys.e1.B, .int .i64 ra0.some_, .int .i64 ra0.until_, .int .i64 ra0.now])], 1⟩ (fun v H _ => Res 1 (rx34 res) v H) := by
  unfold rekey_Keys_TurnF at h
  refine ev_ok tab_ok hS true 3000 ?_
  conv => whnf
  replace h := obind.elim h; obtain ⟨xg, hy, h⟩ := h
  refine sumK.introF [0] (sumRun_of (aqs := [.pointer (some ⟨0, 0, none⟩)]) (ws := [.win 0 0 7 true]) (n := 0) (m := 0) (t' := 1) (ra_cons rfl rfl ra_nil) rfl (by rfl) (r91_eq hy) rfl rfl rfl rfl (wb_win rfl rfl rfl ⟨rfl, Nat.le_of_ble_eq_true rfl⟩ rfl rfl wb_nil) an_nil rfl) ?_
  conv => whnf
  refine br.h h ?_ ?_ ?_
  · rfl
  · clear h; intro hb h; conv => whnf
    all_goals (cases h)
    all_goals exact Res.of [] rfl nw_0 (by decide) js_0 (wr_s (rfl) (hs_cells rfl) wr_0)
  clear h; intro hb h; conv => whnf
  refine br.h h ?_ ?_ ?_
  · rfl
  · clear h; intro hb h; conv => whnf
    all_goals (cases h)
    all_goals exact Res.of [] rfl nw_0 (by decide) js_0 (wr_s (rfl) (hs_cells rfl) wr_0)
  clear h; intro hb h; conv => whnf
  refine br.h h ?_ ?_ ?_
  · rfl
  · clear h; intro hb h; conv => whnf
    all_goals (cases h)
    all_goals exact Res.of [] rfl nw_0 (by decide) js_0 (wr_s (rfl) (hs_cells rfl) wr_0)
  clear h; intro hb h; conv => whnf
  refine br.h h ?_ ?_ ?_
  · rfl
  · clear h; intro hb h; conv => whnf
    all_goals (cases h)
    all_goals exact Res.of [] rfl nw_0 (by decide) js_0 (wr_s (rfl) (hs_cells rfl) wr_0)
  clear h; intro hb h; conv => whnf
  replace h := obind.elim h; obtain ⟨n1, hy, h⟩ := h
  refine sumK.q rfl rfl (r44_eq hy) rfl rfl rfl ?_
  conv => whnf
  all_goals (cases h)
  all_goals exact Res.of [] rfl nw_0 (by decide) js_0 (wr_s (rfl) (hs_cells rfl) wr_0)
theorem ok34 (rekey_Keys_given : rekey_Keys → Option (Bool × rekey_Keys)) (rekey_Keys_given_nil : Option Bool) (rekey_Next : api_Key → Option api_Key) (hS : SumsOK Try.prog (aget (sums34 rekey_Keys_given rekey_Keys_given_nil rekey_Next))) (hS2 : SumsOK Try.prog (aget (sums34n rekey_Keys_given rekey_Keys_given_nil))) : SumOK Try.prog 34 (s34 (rekey_Keys_TurnF rekey_Keys_given rekey_Keys_given_nil rekey_Next) (rekey_Keys_Turn_nilF rekey_Keys_given rekey_Keys_given_nil)) := by
  refine SumOK.of_leads tab_ok (fun ar os r ha hr => ?_) ⟨Try.f34, rfl, by decide, rfl⟩
  have hp := pickN.elim hr; clear hr; rcases hp with hr | hr
  · skip
    replace hr : r34 (rekey_Keys_TurnF rekey_Keys_given rekey_Keys_given_nil rekey_Next) ar (conts os) = some r := hr
    unfold r34 at hr
    generalize hc : conts os = C at hr
    have hq := dPt.elim hr; clear hr; obtain ⟨c0, l1, C, y0, rfl, rfl, e0, hr⟩ := hq; obtain rfl := unrekey_Keys_eq _ _ e0
    replace hr := dV.elim hr; obtain ⟨v1, l2, y1, rfl, e1, hr⟩ := hr; obtain rfl := asI_eq _ _ _ e1
    replace hr := dFin hr; obtain ⟨rfl, rfl, x, h, rfl⟩ := hr
    obtain ⟨os, rfl, ha, hc⟩ := kinds_some ha hc
    obtain rfl := kinds_nil hc
    exact ⟨_, rfl, leads34 rekey_Keys_given rekey_Keys_given_nil rekey_Next hS _ _ x h⟩
  · skip
    replace hr : r34n (rekey_Keys_Turn_nilF rekey_Keys_given rekey_Keys_given_nil) ar (conts os) = some r := hr
    unfold r34n at hr
    generalize hc : conts os = C at hr
    have hq := dNl.elim hr; clear hr; obtain ⟨l1, C, rfl, rfl, hr⟩ := hq; simp only [List.replicate, List.nil_append, List.cons_append] at hc
    replace hr := dV.elim hr; obtain ⟨v1, l2, y1, rfl, e1, hr⟩ := hr; obtain rfl := asI_eq _ _ _ e1
    replace hr := dFin hr; obtain ⟨rfl, rfl, x, h, rfl⟩ := hr
    obtain ⟨os, rfl, ha, hc⟩ := kinds_none ha hc
    obtain rfl := kinds_nil hc
    exact ⟨_, rfl, leads34n rekey_Keys_given rekey_Keys_given_nil hS2 _ x h⟩
def rekey_Keys_Turn : rekey_Keys → Int → Option (Int × rekey_Keys) := rekey_Keys_TurnF rekey_Keys_given rekey_Keys_given_nil rekey_Next
def rekey_Keys_Turn_nil : Int → Option Int := rekey_Keys_Turn_nilF rekey_Keys_given rekey_Keys_given_nil
theorem lift34 : SumOK Try.prog 34 (s34 rekey_Keys_Turn rekey_Keys_Turn_nil) := ok34 rekey_Keys_given rekey_Keys_given_nil rekey_Next (SumsOK.of_tab ⟨lift91, lift44, trivial⟩) (SumsOK.of_tab ⟨lift91, trivial⟩)
def rekey_Keys_GoF (rekey_Keys_given : rekey_Keys → Option (Bool × rekey_Keys)) (rekey_Keys_given_nil : Option Bool) (ra0 : rekey_Keys) (now : Int) : Option (Int × rekey_Keys) :=
  (rekey_Keys_given ra0).bind fun xg =>
  cond (!xg.1)
    (
    some ((1, xg.2)))
    (
    cond (decide (now < xg.2.now))
      (
      some ((15, xg.2)))
      (
      cond (decide (now > 1099511627776))
        (
        some ((15, xg.2)))
        (
        cond (xg.2.some_ == 2)
          (
          cond (decide (xg.2.until_ ≤ now))
            (
            some ((0, rekey_Keys.mk xg.2.keys 1 xg.2.until_ now)))
            (
            some ((0, rekey_Keys.mk xg.2.keys xg.2.some_ xg.2.until_ now))))
          (
          some ((0, rekey_Keys.mk xg.2.keys xg.2.some_ xg.2.until_ now))))))
def rx36 (x : Int × rekey_Keys) : SRes := ⟨.int .i64 x.1, [], [some [.int .u64 x.2.keys.e0.A, .int .u64 x.2.keys.e0.B, .int .u64 x.2.keys.e1.A, .int .u64 x.2.keys.e1.B, .int .i64 x.2.some_, .int .i64 x.2.until_, .int .i64 x.2.now]]⟩
def r36 (g : rekey_Keys → Int → Option (Int × rekey_Keys)) : Dec := dPt 0 unrekey_Keys fun (y0 : rekey_Keys) => dV (asI .i64) fun (y1 : Int) => dEnd (ofG (g y0 y1) rx36)
theorem r36_c {g : rekey_Keys → Int → Option (Int × rekey_Keys)} {y0 : rekey_Keys} {y1 : Int} {x : Int × rekey_Keys} (hx : g y0 y1 = some x) : r36 g [.pointer (some ⟨0, 0, none⟩), .int .i64 y1] [some [.int .u64 y0.keys.e0.A, .int .u64 y0.keys.e0.B, .int .u64 y0.keys.e1.A, .int .u64 y0.keys.e1.B, .int .i64 y0.some_, .int .i64 y0.until_, .int .i64 y0.now]] = some (rx36 x) := (dPt_eq (unrekey_Keys_c _)).trans ((dV_eq (asI_c _)).trans (ofG_eq hx))
def s36 (g : rekey_Keys → Int → Option (Int × rekey_Keys)) : Summ := ⟨[.pt 7, .v], r36 g⟩
theorem r36_eq {g : rekey_Keys → Int → Option (Int × rekey_Keys)} {y0 : rekey_Keys} {y1 : Int} {x : Int × rekey_Keys} (hx : g y0 y1 = some x) : (s36 g).run [.pointer (some ⟨0, 0, none⟩), .int .i64 y1] [some [.int .u64 y0.keys.e0.A, .int .u64 y0.keys.e0.B, .int .u64 y0.keys.e1.A, .int .u64 y0.keys.e1.B, .int .i64 y0.some_, .int .i64 y0.until_, .int .i64 y0.now]] = some (rx36 x) := r36_c hx
abbrev sums36 (rekey_Keys_given : rekey_Keys → Option (Bool × rekey_Keys)) (rekey_Keys_given_nil : Option Bool) : List (Nat × Summ) := [(91, s91 rekey_Keys_given rekey_Keys_given_nil)]
theorem leads36 (rekey_Keys_given : rekey_Keys → Option (Bool × rekey_Keys)) (rekey_Keys_given_nil : Option Bool) (hS : SumsOK Try.prog (aget (sums36 rekey_Keys_given rekey_Keys_given_nil))) (ra0 : rekey_Keys) (now : Int) (res : Int × rekey_Keys) (h : rekey_Keys_GoF rekey_Keys_given rekey_Keys_given_nil ra0 now = some res) :
    Leads Try.prog 36 1 ⟨⟨36, 40, [(0, .pointer (some ⟨0, 0, none⟩)), (1, .int .i64 now)], [.code k36_22], [], false, none⟩, [], [(0, .cells [.int .u64 ra0.keys.e0.A, .int .u64 ra0.keys.e0.B, .int .u64 ra0.keys.e1.A, .int .u64 ra0.keys.e1.B, .int .i64 ra0.some_, .int .i64 ra0.until_, .int .i64 ra0.now])], 1⟩ (fun v H _ => Res 1 (rx36 res) v H) := by
  unfold rekey_Keys_GoF at h
  refine ev_ok tab_ok hS true 3000 ?_
  conv => whnf
  replace h := obind.elim h; obtain ⟨xg, hy, h⟩ := h
  refine sumK.introF [0] (sumRun_of (aqs := [.pointer (some ⟨0, 0, none⟩)]) (ws := [.win 0 0 7 true]) (n := 0) (m := 0) (t' := 1) (ra_cons rfl rfl ra_nil) rfl (by rfl) (r91_eq hy) rfl rfl rfl rfl (wb_win rfl rfl rfl ⟨rfl, Nat.le_of_ble_eq_true rfl⟩ rfl rfl wb_nil) an_nil rfl) ?_
  conv => whnf
  refine br.h h ?_ ?_ ?_
  · rfl
  · clear h; intro hb h; conv => whnf
    all_goals (cases h)
    all_goals exact Res.of [] rfl nw_0 (by decide) js_0 (wr_s (rfl) (hs_cells rfl) wr_0)
  clear h; intro hb h; conv => whnf
  refine br.h h ?_ ?_ ?_
  · rfl
  · clear h; intro hb h; conv => whnf
    all_goals (cases h)
    all_goals exact Res.of [] rfl nw_0 (by decide) js_0 (wr_s (rfl) (hs_cells rfl) wr_0)
  clear h; intro hb h; conv => whnf
  refine br.h h ?_ ?_ ?_
  · rfl
  · clear h; intro hb h; conv => whnf
    all_goals (cases h)
    all_goals exact Res.of [] rfl nw_0 (by decide) js_0 (wr_s (rfl) (hs_cells rfl) wr_0)
  clear h; intro hb h; conv => whnf
  refine br.h2 h ?_ ?_ ?_
  · rfl
  · clear h; intro hb h; conv => whnf
    all_goals (cases h)
    all_goals exact Res.of [] rfl nw_0 (by decide) js_0 (wr_s (rfl) (hs_cells rfl) wr_0)
  clear h; intro hb h; conv => whnf
  refine br.h h ?_ ?_ ?_
  · rfl
  · clear h; intro hb h; conv => whnf
    all_goals (cases h)
    all_goals exact Res.of [] rfl nw_0 (by decide) js_0 (wr_s (rfl) (hs_cells rfl) wr_0)
  clear h; intro hb h; conv => whnf
  all_goals (cases h)
  all_goals exact Res.of [] rfl nw_0 (by decide) js_0 (wr_s (rfl) (hs_cells rfl) wr_0)
theorem ok36 (rekey_Keys_given : rekey_Keys → Option (Bool × rekey_Keys)) (rekey_Keys_given_nil : Option Bool) (hS : SumsOK Try.prog (aget (sums36 rekey_Keys_given rekey_Keys_given_nil))) : SumOK Try.prog 36 (s36 (rekey_Keys_GoF rekey_Keys_given rekey_Keys_given_nil)) := by
  refine SumOK.of_leads tab_ok (fun ar os r ha hr => ?_) ⟨Try.f36, rfl, by decide, rfl⟩
  replace hr : r36 (rekey_Keys_GoF rekey_Keys_given rekey_Keys_given_nil) ar (conts os) = some r := hr
  unfold r36 at hr
  generalize hc : conts os = C at hr
  have hq := dPt.elim hr; clear hr; obtain ⟨c0, l1, C, y0, rfl, rfl, e0, hr⟩ := hq; obtain rfl := unrekey_Keys_eq _ _ e0
  replace hr := dV.elim hr; obtain ⟨v1, l2, y1, rfl, e1, hr⟩ := hr; obtain rfl := asI_eq _ _ _ e1
  replace hr := dFin hr; obtain ⟨rfl, rfl, x, h, rfl⟩ := hr
  obtain ⟨os, rfl, ha, hc⟩ := kinds_some ha hc
  obtain rfl := kinds_nil hc
  exact ⟨_, rfl, leads36 rekey_Keys_given rekey_Keys_given_nil hS _ _ x h⟩
def rekey_Keys_Go : rekey_Keys → Int → Option (Int × rekey_Keys) := rekey_Keys_GoF rekey_Keys_given rekey_Keys_given_nil
theorem lift36 : SumOK Try.prog 36 (s36 rekey_Keys_Go) := ok36 rekey_Keys_given rekey_Keys_given_nil (SumsOK.of_tab ⟨lift91, trivial⟩)
def rekey_Keys_MakeF (rekey_Keys_given : rekey_Keys → Option (Bool × rekey_Keys)) (rekey_Keys_given_nil : Option Bool) (stateless_Make : api_Key → api_Tuple → Int → Option Int) (ra0 : rekey_Keys) (t : api_Tuple) (ida2 : Int) : Option (Int × rekey_Keys) :=
  (rekey_Keys_given ra0).bind fun xg =>
  cond (!xg.1)
    (
    some ((0, xg.2)))
    (
    (stateless_Make xg.2.keys.e0 t ida2).bind fun m =>
    some ((m, xg.2)))
def rx39 (x : Int × rekey_Keys) : SRes := ⟨.int .u64 x.1, [], [some [.int .u64 x.2.keys.e0.A, .int .u64 x.2.keys.e0.B, .int .u64 x.2.keys.e1.A, .int .u64 x.2.keys.e1.B, .int .i64 x.2.some_, .int .i64 x.2.until_, .int .i64 x.2.now]]⟩
def r39 (g : rekey_Keys → api_Tuple → Int → Option (Int × rekey_Keys)) : Dec := dPt 0 unrekey_Keys fun (y0 : rekey_Keys) => dV uvapi_Tuple fun (y1 : api_Tuple) => dV (asI .i64) fun (y2 : Int) => dEnd (ofG (g y0 y1 y2) rx39)
theorem r39_c {g : rekey_Keys → api_Tuple → Int → Option (Int × rekey_Keys)} {y0 : rekey_Keys} {y1 : api_Tuple} {y2 : Int} {x : Int × rekey_Keys} (hx : g y0 y1 y2 = some x) : r39 g [.pointer (some ⟨0, 0, none⟩), .agg ⟨[.int .i64 y1.Proto, .bool y1.Src.V6, .int .u64 y1.Src.Hi, .int .u64 y1.Src.Lo, .bool y1.Dst.V6, .int .u64 y1.Dst.Hi, .int .u64 y1.Dst.Lo, .int .i64 y1.SPort, .int .i64 y1.DPort]⟩, .int .i64 y2] [some [.int .u64 y0.keys.e0.A, .int .u64 y0.keys.e0.B, .int .u64 y0.keys.e1.A, .int .u64 y0.keys.e1.B, .int .i64 y0.some_, .int .i64 y0.until_, .int .i64 y0.now]] = some (rx39 x) := (dPt_eq (unrekey_Keys_c _)).trans ((dV_eq (uvapi_Tuple_c _)).trans ((dV_eq (asI_c _)).trans (ofG_eq hx)))
def s39 (g : rekey_Keys → api_Tuple → Int → Option (Int × rekey_Keys)) : Summ := ⟨[.pt 7, .v, .v], r39 g⟩
theorem r39_eq {g : rekey_Keys → api_Tuple → Int → Option (Int × rekey_Keys)} {y0 : rekey_Keys} {y1 : api_Tuple} {y2 : Int} {x : Int × rekey_Keys} (hx : g y0 y1 y2 = some x) : (s39 g).run [.pointer (some ⟨0, 0, none⟩), .agg ⟨[.int .i64 y1.Proto, .bool y1.Src.V6, .int .u64 y1.Src.Hi, .int .u64 y1.Src.Lo, .bool y1.Dst.V6, .int .u64 y1.Dst.Hi, .int .u64 y1.Dst.Lo, .int .i64 y1.SPort, .int .i64 y1.DPort]⟩, .int .i64 y2] [some [.int .u64 y0.keys.e0.A, .int .u64 y0.keys.e0.B, .int .u64 y0.keys.e1.A, .int .u64 y0.keys.e1.B, .int .i64 y0.some_, .int .i64 y0.until_, .int .i64 y0.now]] = some (rx39 x) := r39_c hx
abbrev sums39 (rekey_Keys_given : rekey_Keys → Option (Bool × rekey_Keys)) (rekey_Keys_given_nil : Option Bool) (stateless_Make : api_Key → api_Tuple → Int → Option Int) : List (Nat × Summ) := [(91, s91 rekey_Keys_given rekey_Keys_given_nil), (64, s64 stateless_Make)]
theorem leads39 (rekey_Keys_given : rekey_Keys → Option (Bool × rekey_Keys)) (rekey_Keys_given_nil : Option Bool) (stateless_Make : api_Key → api_Tuple → Int → Option Int) (hS : SumsOK Try.prog (aget (sums39 rekey_Keys_given rekey_Keys_given_nil stateless_Make))) (ra0 : rekey_Keys) (t : api_Tuple) (ida2 : Int) (res : Int × rekey_Keys) (h : rekey_Keys_MakeF rekey_Keys_given rekey_Keys_given_nil stateless_Make ra0 t ida2 = some res) :
    Leads Try.prog 39 1 ⟨⟨39, 18, [(0, .pointer (some ⟨0, 0, none⟩)), (1, .agg ⟨[.int .i64 t.Proto, .bool t.Src.V6, .int .u64 t.Src.Hi, .int .u64 t.Src.Lo, .bool t.Dst.V6, .int .u64 t.Dst.Hi, .int .u64 t.Dst.Lo, .int .i64 t.SPort, .int .i64 t.DPort]⟩), (2, .int .i64 ida2)], [.code k39_9], [], false, none⟩, [], [(0, .cells [.int .u64 ra0.keys.e0.A, .int .u64 ra0.keys.e0.B, .int .u64 ra0.keys.e1.A, .int .u64 ra0.keys.e1.B, .int .i64 ra0.some_, .int .i64 ra0.until_, .int .i64 ra0.now])], 1⟩ (fun v H _ => Res 1 (rx39 res) v H) := by
  unfold rekey_Keys_MakeF at h
  refine ev_ok tab_ok hS true 3000 ?_
  conv => whnf
  replace h := obind.elim h; obtain ⟨xg, hy, h⟩ := h
  refine sumK.introF [0] (sumRun_of (aqs := [.pointer (some ⟨0, 0, none⟩)]) (ws := [.win 0 0 7 true]) (n := 0) (m := 0) (t' := 2) (ra_cons rfl rfl ra_nil) rfl (by rfl) (r91_eq hy) rfl rfl rfl rfl (wb_win rfl rfl rfl ⟨rfl, Nat.le_of_ble_eq_true rfl⟩ rfl rfl wb_nil) an_nil rfl) ?_
  conv => whnf
  refine br.h h ?_ ?_ ?_
  · rfl
  · clear h; intro hb h; conv => whnf
    all_goals (cases h)
    all_goals exact Res.of [] rfl nw_0 (by decide) js_0 (wr_s (rfl) (hs_cells rfl) wr_0)
  clear h; intro hb h; conv => whnf
  replace h := obind.elim h; obtain ⟨m, hy, h⟩ := h
  refine sumK.q rfl rfl (r64_eq hy) rfl rfl rfl ?_
  conv => whnf
  all_goals (cases h)
  all_goals exact Res.of [] rfl nw_0 (by decide) js_0 (wr_s (rfl) (hs_cells rfl) wr_0)
theorem ok39 (rekey_Keys_given : rekey_Keys → Option (Bool × rekey_Keys)) (rekey_Keys_given_nil : Option Bool) (stateless_Make : api_Key → api_Tuple → Int → Option Int) (hS : SumsOK Try.prog (aget (sums39 rekey_Keys_given rekey_Keys_given_nil stateless_Make))) : SumOK Try.prog 39 (s39 (rekey_Keys_MakeF rekey_Keys_given rekey_Keys_given_nil stateless_Make)) := by
  refine SumOK.of_leads tab_ok (fun ar os r ha hr => ?_) ⟨Try.f39, rfl, by decide, rfl⟩
  replace hr : r39 (rekey_Keys_MakeF rekey_Keys_given rekey_Keys_given_nil stateless_Make) ar (conts os) = some r := hr
  unfold r39 at hr
  generalize hc : conts os = C at hr
  have hq := dPt.elim hr; clear hr; obtain ⟨c0, l1, C, y0, rfl, rfl, e0, hr⟩ := hq; obtain rfl := unrekey_Keys_eq _ _ e0
  replace hr := dV.elim hr; obtain ⟨v1, l2, y1, rfl, e1, hr⟩ := hr; obtain rfl := uvapi_Tuple_eq _ _ e1
  replace hr := dV.elim hr; obtain ⟨v2, l3, y2, rfl, e2, hr⟩ := hr; obtain rfl := asI_eq _ _ _ e2
  replace hr := dFin hr; obtain ⟨rfl, rfl, x, h, rfl⟩ := hr
  obtain ⟨os, rfl, ha, hc⟩ := kinds_some ha hc
  obtain rfl := kinds_nil hc
  exact ⟨_, rfl, leads39 rekey_Keys_given rekey_Keys_given_nil stateless_Make hS _ _ _ x h⟩
def rekey_Keys_Make : rekey_Keys → api_Tuple → Int → Option (Int × rekey_Keys) := rekey_Keys_MakeF rekey_Keys_given rekey_Keys_given_nil stateless_Make
theorem lift39 : SumOK Try.prog 39 (s39 rekey_Keys_Make) := ok39 rekey_Keys_given rekey_Keys_given_nil stateless_Make (SumsOK.of_tab ⟨lift91, lift64, trivial⟩)
def rekey_Keys_Open_nilF (rekey_Keys_given : rekey_Keys → Option (Bool × rekey_Keys)) (rekey_Keys_given_nil : Option Bool) (t : api_Tuple) (cookie : Int) : Option (Int × Bool × Bool) :=
  (rekey_Keys_given_nil).bind fun n =>
  cond (!n)
    (
    some ((0, false, false)))
    (
    none)
def rx40n (x : Int × Bool × Bool) : SRes := ⟨.tuple ⟨[.int .i64 x.1, .bool x.2.1, .bool x.2.2]⟩, [], [none]⟩
def r40n (g : api_Tuple → Int → Option (Int × Bool × Bool)) : Dec := dNl 1 <| dV uvapi_Tuple fun (y1 : api_Tuple) => dV (asI .u64) fun (y2 : Int) => dEnd (ofG (g y1 y2) rx40n)
theorem r40n_c {g : api_Tuple → Int → Option (Int × Bool × Bool)} {y1 : api_Tuple} {y2 : Int} {x : Int × Bool × Bool} (hx : g y1 y2 = some x) : r40n g [.pointer none, .agg ⟨[.int .i64 y1.Proto, .bool y1.Src.V6, .int .u64 y1.Src.Hi, .int .u64 y1.Src.Lo, .bool y1.Dst.V6, .int .u64 y1.Dst.Hi, .int .u64 y1.Dst.Lo, .int .i64 y1.SPort, .int .i64 y1.DPort]⟩, .int .u64 y2] [none] = some (rx40n x) := (dNl_1).trans ((dV_eq (uvapi_Tuple_c _)).trans ((dV_eq (asI_c _)).trans (ofG_eq hx)))
abbrev sums40n (rekey_Keys_given : rekey_Keys → Option (Bool × rekey_Keys)) (rekey_Keys_given_nil : Option Bool) : List (Nat × Summ) := [(91, s91 rekey_Keys_given rekey_Keys_given_nil)]
theorem leads40n (rekey_Keys_given : rekey_Keys → Option (Bool × rekey_Keys)) (rekey_Keys_given_nil : Option Bool) (hS : SumsOK Try.prog (aget (sums40n rekey_Keys_given rekey_Keys_given_nil))) (t : api_Tuple) (cookie : Int) (res : Int × Bool × Bool) (h : rekey_Keys_Open_nilF rekey_Keys_given rekey_Keys_given_nil t cookie = some res) :
    Leads Try.prog 40 1 ⟨⟨40, 42, [(0, .pointer none), (1, .agg ⟨[.int .i64 t.Proto, .bool t.Src.V6, .int .u64 t.Src.Hi, .int .u64 t.Src.Lo, .bool t.Dst.V6, .int .u64 t.Dst.Hi, .int .u64 t.Dst.Lo, .int .i64 t.SPort, .int .i64 t.DPort]⟩), (2, .int .u64 cookie)], [.code k40_30], [], false, none⟩, [], [], 1⟩ (fun v H _ => Res 1 (rx40n res) v H) := by
  unfold rekey_Keys_Open_nilF at h
  refine ev_ok tab_ok hS true 3000 ?_
  conv => whnf
  replace h := obind.elim h; obtain ⟨n, hy, h⟩ := h
  refine sumK.introF [] (sumRun_of (aqs := [.pointer none]) (ws := [.no]) (n := 0) (m := 0) (t' := 2) (ra_cons rfl rfl ra_nil) rfl (by rfl) (r91n_eq hy) rfl rfl rfl rfl (wb_skip rfl wb_nil) an_nil rfl) ?_
  conv => whnf
  refine br.h h ?_ ?_ ?_
  · rfl
  · clear h; intro hb h; conv => whnf
    all_goals (cases h)
    all_goals exact Res.of [] rfl nw_0 (by decide) js_0 (wr_n wr_0)
  clear h; intro hb h; conv => whnf
  cases h
def rekey_Keys_OpenF (rekey_Keys_given : rekey_Keys → Option (Bool × rekey_Keys)) (rekey_Keys_given_nil : Option Bool) (stateless_Open : api_Key → api_Tuple → Int → Option (Int × Bool)) (ra0 : rekey_Keys) (t : api_Tuple) (cookie : Int) : Option (Int × Bool × Bool × rekey_Keys) :=
  (rekey_Keys_given ra0).bind fun xg =>
  cond (!xg.1)
    (
    some ((0, false, false, xg.2)))
    (
    oreq (decide ((0 : Int) ≤ xg.2.some_ ∧ xg.2.some_ ≤ (2 : Int))) <|
    cond (decide (0 < (xg.2.some_.toNat : Int)))
      (
      oreq (decide ((0 : Int) ≤ (0 : Int) ∧ (0 : Int) < (xg.2.some_.toNat : Int))) <|
      (stateless_Open xg.2.keys.e0 t cookie).bind fun xo =>
      cond (xo.2)
        (
        some ((xo.1, false, true, xg.2)))
        (
        cond (decide (1 < (xg.2.some_.toNat : Int)))
          (
          oreq (decide ((0 : Int) ≤ (1 : Int) ∧ (1 : Int) < (xg.2.some_.toNat : Int))) <|
          (stateless_Open xg.2.keys.e1 t cookie).bind fun xo1 =>
          cond (xo1.2)
            (
            some ((xo1.1, true, true, xg.2)))
            (
            cond (decide (2 < (xg.2.some_.toNat : Int)))
              (
              oreq (decide ((0 : Int) ≤ (2 : Int) ∧ (2 : Int) < (xg.2.some_.toNat : Int))) <|
              none)
              (
              some ((0, false, false, xg.2)))))
          (
          some ((0, false, false, xg.2)))))
      (
      some ((0, false, false, xg.2))))
def rx40 (x : Int × Bool × Bool × rekey_Keys) : SRes := ⟨.tuple ⟨[.int .i64 x.1, .bool x.2.1, .bool x.2.2.1]⟩, [], [some [.int .u64 x.2.2.2.keys.e0.A, .int .u64 x.2.2.2.keys.e0.B, .int .u64 x.2.2.2.keys.e1.A, .int .u64 x.2.2.2.keys.e1.B, .int .i64 x.2.2.2.some_, .int .i64 x.2.2.2.until_, .int .i64 x.2.2.2.now]]⟩
def r40 (g : rekey_Keys → api_Tuple → Int → Option (Int × Bool × Bool × rekey_Keys)) : Dec := dPt 0 unrekey_Keys fun (y0 : rekey_Keys) => dV uvapi_Tuple fun (y1 : api_Tuple) => dV (asI .u64) fun (y2 : Int) => dEnd (ofG (g y0 y1 y2) rx40)
theorem r40_c {g : rekey_Keys → api_Tuple → Int → Option (Int × Bool × Bool × rekey_Keys)} {y0 : rekey_Keys} {y1 : api_Tuple} {y2 : Int} {x : Int × Bool × Bool × rekey_Keys} (hx : g y0 y1 y2 = some x) : r40 g [.pointer (some ⟨0, 0, none⟩), .agg ⟨[.int .i64 y1.Proto, .bool y1.Src.V6, .int .u64 y1.Src.Hi, .int .u64 y1.Src.Lo, .bool y1.Dst.V6, .int .u64 y1.Dst.Hi, .int .u64 y1.Dst.Lo, .int .i64 y1.SPort, .int .i64 y1.DPort]⟩, .int .u64 y2] [some [.int .u64 y0.keys.e0.A, .int .u64 y0.keys.e0.B, .int .u64 y0.keys.e1.A, .int .u64 y0.keys.e1.B, .int .i64 y0.some_, .int .i64 y0.until_, .int .i64 y0.now]] = some (rx40 x) := (dPt_eq (unrekey_Keys_c _)).trans ((dV_eq (uvapi_Tuple_c _)).trans ((dV_eq (asI_c _)).trans (ofG_eq hx)))
def s40 (g : rekey_Keys → api_Tuple → Int → Option (Int × Bool × Bool × rekey_Keys)) (g2 : api_Tuple → Int → Option (Int × Bool × Bool)) : Summ := ⟨[.pt 7, .v, .v], pickN 0 (r40 g) (r40n g2)⟩
theorem r40_eq {g : rekey_Keys → api_Tuple → Int → Option (Int × Bool × Bool × rekey_Keys)} {g2 : api_Tuple → Int → Option (Int × Bool × Bool)} {y0 : rekey_Keys} {y1 : api_Tuple} {y2 : Int} {x : Int × Bool × Bool × rekey_Keys} (hx : g y0 y1 y2 = some x) : (s40 g g2).run [.pointer (some ⟨0, 0, none⟩), .agg ⟨[.int .i64 y1.Proto, .bool y1.Src.V6, .int .u64 y1.Src.Hi, .int .u64 y1.Src.Lo, .bool y1.Dst.V6, .int .u64 y1.Dst.Hi, .int .u64 y1.Dst.Lo, .int .i64 y1.SPort, .int .i64 y1.DPort]⟩, .int .u64 y2] [some [.int .u64 y0.keys.e0.A, .int .u64 y0.keys.e0.B, .int .u64 y0.keys.e1.A, .int .u64 y0.keys.e1.B, .int .i64 y0.some_, .int .i64 y0.until_, .int .i64 y0.now]] = some (rx40 x) := r40_c hx
theorem r40n_eq {g2 : rekey_Keys → api_Tuple → Int → Option (Int × Bool × Bool × rekey_Keys)} {g : api_Tuple → Int → Option (Int × Bool × Bool)} {y1 : api_Tuple} {y2 : Int} {x : Int × Bool × Bool} (hx : g y1 y2 = some x) : (s40 g2 g).run [.pointer none, .agg ⟨[.int .i64 y1.Proto, .bool y1.Src.V6, .int .u64 y1.Src.Hi, .int .u64 y1.Src.Lo, .bool y1.Dst.V6, .int .u64 y1.Dst.Hi, .int .u64 y1.Dst.Lo, .int .i64 y1.SPort, .int .i64 y1.DPort]⟩, .int .u64 y2] [none] = some (rx40n x) := r40n_c hx
abbrev sums40 (rekey_Keys_given : rekey_Keys → Option (Bool × rekey_Keys)) (rekey_Keys_given_nil : Option Bool) (stateless_Open : api_Key → api_Tuple → Int → Option (Int × Bool)) : List (Nat × Summ) := [(91, s91 rekey_Keys_given rekey_Keys_given_nil), (65, s65 stateless_Open)]
theorem leads40 (rekey_Keys_given : rekey_Keys → Option (Bool × rekey_Keys)) (rekey_Keys_given_nil : Option Bool) (stateless_Open : api_Key → api_Tuple → Int → Option (Int × Bool)) (hS : SumsOK Try.prog (aget (sums40 rekey_Keys_given rekey_Keys_given_nil stateless_Open))) (ra0 : rekey_Keys) (t : api_Tuple) (cookie : Int) (res : Int × Bool × Bool × rekey_Keys) (h : rekey_Keys_OpenF rekey_Keys_given rekey_Keys_given_nil stateless_Open ra0 t cookie = some res) :
    Leads Try.prog 40 1 ⟨⟨40, 42, [(0, .pointer (some ⟨0, 0, none⟩)), (1, .agg ⟨[.int .i64 t.Proto, .bool t.Src.V6, .int .u64 t.Src.Hi, .int .u64 t.Src.Lo, .bool t.Dst.V6, .int .u64 t.Dst.Hi, .int .u64 t.Dst.Lo, .int .i64 t.SPort, .int .i64 t.DPort]⟩), (2, .int .u64 cookie)], [.code k40_30], [], false, none⟩, [], [(0, .cells [.int .u64 ra0.keys.e0.A, .int .u64 ra0.keys.e0.B, .int .u64 ra0.keys.e1.A, .int .u64 ra0.keys.e1.B, .int .i64 ra0.some_, .int .i64 ra0.until_, .int .i64 ra0.now])], 1⟩ (fun v H _ => Res 1 (rx40 res) v H) := by
  unfold rekey_Keys_OpenF at h
  refine ev_ok tab_ok hS true 3000 ?_
  conv => whnf
  replace h := obind.elim h; obtain ⟨xg, hy, h⟩ := h
  refine sumK.introF [0] (sumRun_of (aqs := [.pointer (some ⟨0, 0, none⟩)]) (ws := [.win 0 0 7 true]) (n := 0) (m := 0) (t' := 2) (ra_cons rfl rfl ra_nil) rfl (by rfl) (r91_eq hy) rfl rfl rfl rfl (wb_win rfl rfl rfl ⟨rfl, Nat.le_of_ble_eq_true rfl⟩ rfl rfl wb_nil) an_nil rfl) ?_
  conv => whnf
  refine br.h h ?_ ?_ ?_
  · rfl
  · clear h; intro hb h; conv => whnf
    all_goals (cases h)
    all_goals exact Res.of [] rfl nw_0 (by decide) js_0 (wr_s (rfl) (hs_cells rfl) wr_0)
  clear h; intro hb h; conv => whnf
  replace h := oreq.elim h; obtain ⟨hb, h⟩ := h
  first | (refine req.intro hb ?_; conv => whnf) | skip
  refine ev_ok tab_ok hS true 3000 ?_
  conv => whnf
  refine br.h2 h ?_ ?_ ?_
  · rfl
  · clear h; intro hb h; conv => whnf
    all_goals (cases h)
    all_goals exact Res.of [] rfl nw_0 (by decide) js_0 (wr_s (rfl) (hs_cells rfl) wr_0)
  clear h; intro hb h; conv => whnf
  replace h := oreq.elim h; obtain ⟨hb, h⟩ := h
  first | (refine req.intro hb ?_; conv => whnf) | skip
  replace h := obind.elim h; obtain ⟨xo, hy, h⟩ := h
  refine sumK.q rfl rfl (r65_eq hy) rfl rfl rfl ?_
  conv => whnf
  refine br.h h ?_ ?_ ?_
  · rfl
  · clear h; intro hb h; conv => whnf
    all_goals (cases h)
    all_goals exact Res.of [] rfl nw_0 (by decide) js_0 (wr_s (rfl) (hs_cells rfl) wr_0)
  clear h; intro hb h; conv => whnf
  refine ev_ok tab_ok hS true 3000 ?_
  conv => whnf
  refine br.h2 h ?_ ?_ ?_
  · rfl
  · clear h; intro hb h; conv => whnf
    all_goals (cases h)
    all_goals exact Res.of [] rfl nw_0 (by decide) js_0 (wr_s (rfl) (hs_cells rfl) wr_0)
  clear h; intro hb h; conv => whnf
  replace h := oreq.elim h; obtain ⟨hb, h⟩ := h
  first | (refine req.intro hb ?_; conv => whnf) | skip
  replace h := obind.elim h; obtain ⟨xo1, hy, h⟩ := h
  refine sumK.q rfl rfl (r65_eq hy) rfl rfl rfl ?_
  conv => whnf
  refine br.h h ?_ ?_ ?_
  · rfl
  · clear h; intro hb h; conv => whnf
    all_goals (cases h)
    all_goals exact Res.of [] rfl nw_0 (by decide) js_0 (wr_s (rfl) (hs_cells rfl) wr_0)
  clear h; intro hb h; conv => whnf
  refine ev_ok tab_ok hS true 3000 ?_
  conv => whnf
  refine br.h2 h ?_ ?_ ?_
  · rfl
  · clear h; intro hb h; conv => whnf
    all_goals (cases h)
    all_goals exact Res.of [] rfl nw_0 (by decide) js_0 (wr_s (rfl) (hs_cells rfl) wr_0)
  clear h; intro hb h; conv => whnf
  replace h := oreq.elim h; obtain ⟨hb, h⟩ := h
  first | (refine req.intro hb ?_; conv => whnf) | skip
  cases h
theorem ok40 (rekey_Keys_given : rekey_Keys → Option (Bool × rekey_Keys)) (rekey_Keys_given_nil : Option Bool) (stateless_Open : api_Key → api_Tuple → Int → Option (Int × Bool)) (hS : SumsOK Try.prog (aget (sums40 rekey_Keys_given rekey_Keys_given_nil stateless_Open))) (hS2 : SumsOK Try.prog (aget (sums40n rekey_Keys_given rekey_Keys_given_nil))) : SumOK Try.prog 40 (s40 (rekey_Keys_OpenF rekey_Keys_given rekey_Keys_given_nil stateless_Open) (rekey_Keys_Open_nilF rekey_Keys_given rekey_Keys_given_nil)) := by
  refine SumOK.of_leads tab_ok (fun ar os r ha hr => ?_) ⟨Try.f40, rfl, by decide, rfl⟩
  have hp := pickN.elim hr; clear hr; rcases hp with hr | hr
  · skip
    replace hr : r40 (rekey_Keys_OpenF rekey_Keys_given rekey_Keys_given_nil stateless_Open) ar (conts os) = some r := hr
    unfold r40 at hr
    generalize hc : conts os = C at hr
    have hq := dPt.elim hr; clear hr; obtain ⟨c0, l1, C, y0, rfl, rfl, e0, hr⟩ := hq; obtain rfl := unrekey_Keys_eq _ _ e0
    replace hr := dV.elim hr; obtain ⟨v1, l2, y1, rfl, e1, hr⟩ := hr; obtain rfl := uvapi_Tuple_eq _ _ e1
    replace hr := dV.elim hr; obtain ⟨v2, l3, y2, rfl, e2, hr⟩ := hr; obtain rfl := asI_eq _ _ _ e2
    replace hr := dFin hr; obtain ⟨rfl, rfl, x, h, rfl⟩ := hr
    obtain ⟨os, rfl, ha, hc⟩ := kinds_some ha hc
    obtain rfl := kinds_nil hc
    exact ⟨_, rfl, leads40 rekey_Keys_given rekey_Keys_given_nil stateless_Open hS _ _ _ x h⟩
  · skip
    replace hr : r40n (rekey_Keys_Open_nilF rekey_Keys_given rekey_Keys_given_nil) ar (conts os) = some r := hr
    unfold r40n at hr
    generalize hc : conts os = C at hr
    have hq := dNl.elim hr; clear hr; obtain ⟨l1, C, rfl, rfl, hr⟩ := hq; simp only [List.replicate, List.nil_append, List.cons_append] at hc
    replace hr := dV.elim hr; obtain ⟨v1, l2, y1, rfl, e1, hr⟩ := hr; obtain rfl := uvapi_Tuple_eq _ _ e1
    replace hr := dV.elim hr; obtain ⟨v2, l3, y2, rfl, e2, hr⟩ := hr; obtain rfl := asI_eq _ _ _ e2
    replace hr := dFin hr; obtain ⟨rfl, rfl, x, h, rfl⟩ := hr
    obtain ⟨os, rfl, ha, hc⟩ := kinds_none ha hc
    obtain rfl := kinds_nil hc
    exact ⟨_, rfl, leads40n rekey_Keys_given rekey_Keys_given_nil hS2 _ _ x h⟩
def rekey_Keys_Open : rekey_Keys → api_Tuple → Int → Option (Int × Bool × Bool × rekey_Keys) := rekey_Keys_OpenF rekey_Keys_given rekey_Keys_given_nil stateless_Open
def rekey_Keys_Open_nil : api_Tuple → Int → Option (Int × Bool × Bool) := rekey_Keys_Open_nilF rekey_Keys_given rekey_Keys_given_nil
theorem lift40 : SumOK Try.prog 40 (s40 rekey_Keys_Open rekey_Keys_Open_nil) := ok40 rekey_Keys_given rekey_Keys_given_nil stateless_Open (SumsOK.of_tab ⟨lift91, lift65, trivial⟩) (SumsOK.of_tab ⟨lift91, trivial⟩)
def rekey_Keys_OldF (rekey_Keys_given : rekey_Keys → Option (Bool × rekey_Keys)) (rekey_Keys_given_nil : Option Bool) (ra0 : rekey_Keys) : Option (api_Key × Int × Bool × rekey_Keys) :=
  (rekey_Keys_given ra0).bind fun xg =>
  cond (!xg.1)
    (
    some ((api_Key.mk 0 0, 0, false, xg.2)))
    (
    cond (decide (xg.2.some_ < 2))
      (
      some ((api_Key.mk 0 0, 0, false, xg.2)))
      (
      some ((xg.2.keys.e1, xg.2.until_, true, xg.2))))
def rx42 (x : api_Key × Int × Bool × rekey_Keys) : SRes := ⟨.tuple ⟨[.agg ⟨[.int .u64 x.1.A, .int .u64 x.1.B]⟩, .int .i64 x.2.1, .bool x.2.2.1]⟩, [], [some [.int .u64 x.2.2.2.keys.e0.A, .int .u64 x.2.2.2.keys.e0.B, .int .u64 x.2.2.2.keys.e1.A, .int .u64 x.2.2.2.keys.e1.B, .int .i64 x.2.2.2.some_, .int .i64 x.2.2.2.until_, .int .i64 x.2.2.2.now]]⟩
def r42 (g : rekey_Keys → Option (api_Key × Int × Bool × rekey_Keys)) : Dec := dPt 0 unrekey_Keys fun (y0 : rekey_Keys) => dEnd (ofG (g y0) rx42)
theorem r42_c {g : rekey_Keys → Option (api_Key × Int × Bool × rekey_Keys)} {y0 : rekey_Keys} {x : api_Key × Int × Bool × rekey_Keys} (hx : g y0 = some x) : r42 g [.pointer (some ⟨0, 0, none⟩)] [some [.int .u64 y0.keys.e0.A, .int .u64 y0.keys.e0.B, .int .u64 y0.keys.e1.A, .int .u64 y0.keys.e1.B, .int .i64 y0.some_, .int .i64 y0.until_, .int .i64 y0.now]] = some (rx42 x) := (dPt_eq (unrekey_Keys_c _)).trans (ofG_eq hx)
def s42 (g : rekey_Keys → Option (api_Key × Int × Bool × rekey_Keys)) : Summ := ⟨[.pt 7], r42 g⟩
theorem r42_eq {g : rekey_Keys → Option (api_Key × Int × Bool × rekey_Keys)} {y0 : rekey_Keys} {x : api_Key × Int × Bool × rekey_Keys} (hx : g y0 = some x) : (s42 g).run [.pointer (some ⟨0, 0, none⟩)] [some [.int .u64 y0.keys.e0.A, .int .u64 y0.keys.e0.B, .int .u64 y0.keys.e1.A, .int .u64 y0.keys.e1.B, .int .i64 y0.some_, .int .i64 y0.until_, .int .i64 y0.now]] = some (rx42 x) := r42_c hx
abbrev sums42 (rekey_Keys_given : rekey_Keys → Option (Bool × rekey_Keys)) (rekey_Keys_given_nil : Option Bool) : List (Nat × Summ) := [(91, s91 rekey_Keys_given rekey_Keys_given_nil)]
theorem leads42 (rekey_Keys_given : rekey_Keys → Option (Bool × rekey_Keys)) (rekey_Keys_given_nil : Option Bool) (hS : SumsOK Try.prog (aget (sums42 rekey_Keys_given rekey_Keys_given_nil))) (ra0 : rekey_Keys) (res : api_Key × Int × Bool × rekey_Keys) (h : rekey_Keys_OldF rekey_Keys_given rekey_Keys_given_nil ra0 = some res) :
    Leads Try.prog 42 1 ⟨⟨42, 25, [(0, .pointer (some ⟨0, 0, none⟩))], [.code k42_9], [], false, none⟩, [], [(0, .cells [.int .u64 ra0.keys.e0.A, .int .u64 ra0.keys.e0.B, .int .u64 ra0.keys.e1.A, .int .u64 ra0.keys.e1.B, .int .i64 ra0.some_, .int .i64 ra0.until_, .int .i64 ra0.now])], 1⟩ (fun v H _ => Res 1 (rx42 res) v H) := by
  unfold rekey_Keys_OldF at h
  refine ev_ok tab_ok hS true 3000 ?_
  conv => whnf
  replace h := obind.elim h; obtain ⟨xg, hy, h⟩ := h
  refine sumK.introF [0] (sumRun_of (aqs := [.pointer (some ⟨0, 0, none⟩)]) (ws := [.win 0 0 7 true]) (n := 0) (m := 0) (t' := 2) (ra_cons rfl rfl ra_nil) rfl (by rfl) (r91_eq hy) rfl rfl rfl rfl (wb_win rfl rfl rfl ⟨rfl, Nat.le_of_ble_eq_true rfl⟩ rfl rfl wb_nil) an_nil rfl) ?_
  conv => whnf
  refine br.h h ?_ ?_ ?_
  · rfl
  · clear h; intro hb h; conv => whnf
    all_goals (cases h)
    all_goals exact Res.of [] rfl nw_0 (by decide) js_0 (wr_s (rfl) (hs_cells rfl) wr_0)
  clear h; intro hb h; conv => whnf
  refine br.h h ?_ ?_ ?_
  · rfl
  · clear h; intro hb h; conv => whnf
    all_goals (cases h)
    all_goals exact Res.of [] rfl nw_0 (by decide) js_0 (wr_s (rfl) (hs_cells rfl) wr_0)
  clear h; intro hb h; conv => whnf
  all_goals (cases h)
  all_goals exact Res.of [] rfl nw_0 (by decide) js_0 (wr_s (rfl) (hs_cells rfl) wr_0)
theorem ok42 (rekey_Keys_given : rekey_Keys → Option (Bool × rekey_Keys)) (rekey_Keys_given_nil : Option Bool) (hS : SumsOK Try.prog (aget (sums42 rekey_Keys_given rekey_Keys_given_nil))) : SumOK Try.prog 42 (s42 (rekey_Keys_OldF rekey_Keys_given rekey_Keys_given_nil)) := by
  refine SumOK.of_leads tab_ok (fun ar os r ha hr => ?_) ⟨Try.f42, rfl, by decide, rfl⟩
  replace hr : r42 (rekey_Keys_OldF rekey_Keys_given rekey_Keys_given_nil) ar (conts os) = some r := hr
  unfold r42 at hr
  generalize hc : conts os = C at hr
  have hq := dPt.elim hr; clear hr; obtain ⟨c0, l1, C, y0, rfl, rfl, e0, hr⟩ := hq; obtain rfl := unrekey_Keys_eq _ _ e0
  replace hr := dFin hr; obtain ⟨rfl, rfl, x, h, rfl⟩ := hr
  obtain ⟨os, rfl, ha, hc⟩ := kinds_some ha hc
  obtain rfl := kinds_nil hc
  exact ⟨_, rfl, leads42 rekey_Keys_given rekey_Keys_given_nil hS _ x h⟩
def rekey_Keys_Old : rekey_Keys → Option (api_Key × Int × Bool × rekey_Keys) := rekey_Keys_OldF rekey_Keys_given rekey_Keys_given_nil
theorem lift42 : SumOK Try.prog 42 (s42 rekey_Keys_Old) := ok42 rekey_Keys_given rekey_Keys_given_nil (SumsOK.of_tab ⟨lift91, trivial⟩)
def rekey_Keys_Key_nilF (rekey_Keys_given : rekey_Keys → Option (Bool × rekey_Keys)) (rekey_Keys_given_nil : Option Bool) : Option api_Key :=
  (rekey_Keys_given_nil).bind fun n =>
  cond (!n)
    (
    some (api_Key.mk 0 0))
    (
    none)
def rx43n (x : api_Key) : SRes := ⟨.agg ⟨[.int .u64 x.A, .int .u64 x.B]⟩, [], [none]⟩
def r43n (g : Option api_Key) : Dec := dNl 1 <| dEnd (ofG (g) rx43n)
theorem r43n_c {g : Option api_Key} {x : api_Key} (hx : g = some x) : r43n g [.pointer none] [none] = some (rx43n x) := (dNl_1).trans (ofG_eq hx)
abbrev sums43n (rekey_Keys_given : rekey_Keys → Option (Bool × rekey_Keys)) (rekey_Keys_given_nil : Option Bool) : List (Nat × Summ) := [(91, s91 rekey_Keys_given rekey_Keys_given_nil)]
theorem leads43n (rekey_Keys_given : rekey_Keys → Option (Bool × rekey_Keys)) (rekey_Keys_given_nil : Option Bool) (hS : SumsOK Try.prog (aget (sums43n rekey_Keys_given rekey_Keys_given_nil))) (res : api_Key) (h : rekey_Keys_Key_nilF rekey_Keys_given rekey_Keys_given_nil = some res) :
    Leads Try.prog 43 1 ⟨⟨43, 12, [(0, .pointer none)], [.code k43_9], [], false, none⟩, [], [], 1⟩ (fun v H _ => Res 1 (rx43n res) v H) := by
  unfold rekey_Keys_Key_nilF at h
  refine ev_ok tab_ok hS true 3000 ?_
  conv => whnf
  replace h := obind.elim h; obtain ⟨n, hy, h⟩ := h
  refine sumK.introF [] (sumRun_of (aqs := [.pointer none]) (ws := [.no]) (n := 0) (m := 0) (t' := 2) (ra_cons rfl rfl ra_nil) rfl (by rfl) (r91n_eq hy) rfl rfl rfl rfl (wb_skip rfl wb_nil) an_nil rfl) ?_
  conv => whnf
  refine br.h h ?_ ?_ ?_
  · rfl
  · clear h; intro hb h; conv => whnf
    all_goals (cases h)
    all_goals exact Res.of [] rfl nw_0 (by decide) js_0 (wr_n wr_0)
  clear h; intro hb h; conv => whnf
  cases h
def rekey_Keys_KeyF (rekey_Keys_given : rekey_Keys → Option (Bool × rekey_Keys)) (rekey_Keys_given_nil : Option Bool) (ra0 : rekey_Keys) : Option (api_Key × rekey_Keys) :=
  (rekey_Keys_given ra0).bind fun xg =>
  cond (!xg.1)
    (
    some ((api_Key.mk 0 0, xg.2)))
    (
    some ((xg.2.keys.e0, xg.2)))
def rx43 (x : api_Key × rekey_Keys) : SRes := ⟨.agg ⟨[.int .u64 x.1.A, .int .u64 x.1.B]⟩, [], [some [.int .u64 x.2.keys.e0.A, .int .u64 x.2.keys.e0.B, .int .u64 x.2.keys.e1.A, .int .u64 x.2.keys.e1.B, .int .i64 x.2.some_, .int .i64 x.2.until_, .int .i64 x.2.now]]⟩
def r43 (g : rekey_Keys → Option (api_Key × rekey_Keys)) : Dec := dPt 0 unrekey_Keys fun (y0 : rekey_Keys) => dEnd (ofG (g y0) rx43)
theorem r43_c {g : rekey_Keys → Option (api_Key × rekey_Keys)} {y0 : rekey_Keys} {x : api_Key × rekey_Keys} (hx : g y0 = some x) : r43 g [.pointer (some ⟨0, 0, none⟩)] [some [.int .u64 y0.keys.e0.A, .int .u64 y0.keys.e0.B, .int .u64 y0.keys.e1.A, .int .u64 y0.keys.e1.B, .int .i64 y0.some_, .int .i64 y0.until_, .int .i64 y0.now]] = some (rx43 x) := (dPt_eq (unrekey_Keys_c _)).trans (ofG_eq hx)
def s43 (g : rekey_Keys → Option (api_Key × rekey_Keys)) (g2 : Option api_Key) : Summ := ⟨[.pt 7], pickN 0 (r43 g) (r43n g2)⟩
theorem r43_eq {g : rekey_Keys → Option (api_Key × rekey_Keys)} {g2 : Option api_Key} {y0 : rekey_Keys} {x : api_Key × rekey_Keys} (hx : g y0 = some x) : (s43 g g2).run [.pointer (some ⟨0, 0, none⟩)] [some [.int .u64 y0.keys.e0.A, .int .u64 y0.keys.e0.B, .int .u64 y0.keys.e1.A, .int .u64 y0.keys.e1.B, .int .i64 y0.some_, .int .i64 y0.until_, .int .i64 y0.now]] = some (rx43 x) := r43_c hx
theorem r43n_eq {g2 : rekey_Keys → Option (api_Key × rekey_Keys)} {g : Option api_Key} {x : api_Key} (hx : g = some x) : (s43 g2 g).run [.pointer none] [none] = some (rx43n x) := r43n_c hx
abbrev sums43 (rekey_Keys_given : rekey_Keys → Option (Bool × rekey_Keys)) (rekey_Keys_given_nil : Option Bool) : List (Nat × Summ) := [(91, s91 rekey_Keys_given rekey_Keys_given_nil)]
theorem leads43 (rekey_Keys_given : rekey_Keys → Option (Bool × rekey_Keys)) (rekey_Keys_given_nil : Option Bool) (hS : SumsOK Try.prog (aget (sums43 rekey_Keys_given rekey_Keys_given_nil))) (ra0 : rekey_Keys) (res : api_Key × rekey_Keys) (h : rekey_Keys_KeyF rekey_Keys_given rekey_Keys_given_nil ra0 = some res) :
    Leads Try.prog 43 1 ⟨⟨43, 12, [(0, .pointer (some ⟨0, 0, none⟩))], [.code k43_9], [], false, none⟩, [], [(0, .cells [.int .u64 ra0.keys.e0.A, .int .u64 ra0.keys.e0.B, .int .u64 ra0.keys.e1.A, .int .u64 ra0.keys.e1.B, .int .i64 ra0.some_, .int .i64 ra0.until_, .int .i64 ra0.now])], 1⟩ (fun v H _ => Res 1 (rx43 res) v H) := by
  unfold rekey_Keys_KeyF at h
  refine ev_ok tab_ok hS true 3000 ?_
  conv => whnf
  replace h := obind.elim h; obtain ⟨xg, hy, h⟩ := h
  refine sumK.introF [0] (sumRun_of (aqs := [.pointer (some ⟨0, 0, none⟩)]) (ws := [.win 0 0 7 true]) (n := 0) (m := 0) (t' := 2) (ra_cons rfl rfl ra_nil) rfl (by rfl) (r91_eq hy) rfl rfl rfl rfl (wb_win rfl rfl rfl ⟨rfl, Nat.le_of_ble_eq_true rfl⟩ rfl rfl wb_nil) an_nil rfl) ?_
  conv => whnf
  refine br.h h ?_ ?_ ?_
  · rfl
  · clear h; intro hb h; conv => whnf
    all_goals (cases h)
    all_goals exact Res.of [] rfl nw_0 (by decide) js_0 (wr_s (rfl) (hs_cells rfl) wr_0)
  clear h; intro hb h; conv => whnf
  all_goals (cases h)
  all_goals exact Res.of [] rfl nw_0 (by decide) js_0 (wr_s (rfl) (hs_cells rfl) wr_0)
theorem ok43 (rekey_Keys_given : rekey_Keys → Option (Bool × rekey_Keys)) (rekey_Keys_given_nil : Option Bool) (hS : SumsOK Try.prog (aget (sums43 rekey_Keys_given rekey_Keys_given_nil))) (hS2 : SumsOK Try.prog (aget (sums43n rekey_Keys_given rekey_Keys_given_nil))) : SumOK Try.prog 43 (s43 (rekey_Keys_KeyF rekey_Keys_given rekey_Keys_given_nil) (rekey_Keys_Key_nilF rekey_Keys_given rekey_Keys_given_nil)) := by
  refine SumOK.of_leads tab_ok (fun ar os r ha hr => ?_) ⟨Try.f43, rfl, by decide, rfl⟩
  have hp := pickN.elim hr; clear hr; rcases hp with hr | hr
  · skip
    replace hr : r43 (rekey_Keys_KeyF rekey_Keys_given rekey_Keys_given_nil) ar (conts os) = some r := hr
    unfold r43 at hr
    generalize hc : conts os = C at hr
    have hq := dPt.elim hr; clear hr; obtain ⟨c0, l1, C, y0, rfl, rfl, e0, hr⟩ := hq; obtain rfl := unrekey_Keys_eq _ _ e0
    replace hr := dFin hr; obtain ⟨rfl, rfl, x, h, rfl⟩ := hr
    obtain ⟨os, rfl, ha, hc⟩ := kinds_some ha hc
    obtain rfl := kinds_nil hc
    exact ⟨_, rfl, leads43 rekey_Keys_given rekey_Keys_given_nil hS _ x h⟩
  · skip
    replace hr : r43n (rekey_Keys_Key_nilF rekey_Keys_given rekey_Keys_given_nil) ar (conts os) = some r := hr
    unfold r43n at hr
    generalize hc : conts os = C at hr
    have hq := dNl.elim hr; clear hr; obtain ⟨l1, C, rfl, rfl, hr⟩ := hq; simp only [List.replicate, List.nil_append, List.cons_append] at hc
    replace hr := dFin hr; obtain ⟨rfl, rfl, x, h, rfl⟩ := hr
    obtain ⟨os, rfl, ha, hc⟩ := kinds_none ha hc
    obtain rfl := kinds_nil hc
    exact ⟨_, rfl, leads43n rekey_Keys_given rekey_Keys_given_nil hS2 x h⟩
def rekey_Keys_Key : rekey_Keys → Option (api_Key × rekey_Keys) := rekey_Keys_KeyF rekey_Keys_given rekey_Keys_given_nil
def rekey_Keys_Key_nil : Option api_Key := rekey_Keys_Key_nilF rekey_Keys_given rekey_Keys_given_nil
theorem lift43 : SumOK Try.prog 43 (s43 rekey_Keys_Key rekey_Keys_Key_nil) := ok43 rekey_Keys_given rekey_Keys_given_nil (SumsOK.of_tab ⟨lift91, trivial⟩) (SumsOK.of_tab ⟨lift91, trivial⟩)
end Go.Vm.Code
