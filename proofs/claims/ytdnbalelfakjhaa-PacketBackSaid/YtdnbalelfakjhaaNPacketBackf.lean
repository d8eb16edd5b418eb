import Derived.Test.YtdnbalelfakjhaaNPacketBacke
namespace Go.Vm.Code
open Go Go.Vm Go.Proofs
set_option maxRecDepth 100000
set_option maxHeartbeats 4000000
set_option linter.unusedVariables false
def law11_PacketBackF (R07_Small : (List (List UInt8)) → Int → Option Bool) (R07_Stamped : Int → Int → Option (List UInt8)) (R09_Put : quic_Head → Option ((List UInt8) × Int)) (law11_awake : Option Bool) (packet_Datagram : api_Tuple → (List UInt8) → Option ((List UInt8) × Int)) (packet_Parse : (List UInt8) → Option (api_Packet × Int)) (packet_Segment : api_Tuple → Int → (List UInt8) → (List UInt8) → Option ((List UInt8) × Int)) (packet_Where : (List UInt8) → Option (Int × Int × Int)) (t : api_Tuple) (flags : Int) (val : Int) (echo : Int) (payload : List UInt8) (ha5 : quic_Head) : Option Bool :=
  (R07_Small [payload, ha5.DCID, ha5.SCID, ha5.Rest] 100).bind fun s =>
  cond (!s)
    (
    (law11_awake).bind fun a =>
    some (a))
    (
    (R07_Stamped val echo).bind fun s1 =>
    (packet_Segment t (wI .i64 flags) s1 payload).bind fun s2 =>
    cond (s2.2 == 0)
      (
      (packet_Parse s2.1).bind fun p =>
      (packet_Where s2.1).bind fun w =>
      cond (p.2 != 0)
        (
        some (false))
        (
        let t1 := !((p.1.Tuple.Proto == t.Proto) && ((p.1.Tuple.Src.V6 == t.Src.V6) && ((p.1.Tuple.Src.Hi == t.Src.Hi) && ((p.1.Tuple.Src.Lo == t.Src.Lo) && ((p.1.Tuple.Dst.V6 == t.Dst.V6) && ((p.1.Tuple.Dst.Hi == t.Dst.Hi) && ((p.1.Tuple.Dst.Lo == t.Dst.Lo) && ((p.1.Tuple.SPort == t.SPort) && ((p.1.Tuple.DPort == t.DPort) && ((p.1.Flags == (wI .i64 flags)) && ((p.1.Stamped == true) && ((p.1.Val == val) && ((p.1.Echo == echo) && ((p.1.Long == false) && ((p.1.CID == []) && ((p.1.Size == (s2.1.length : Int)) && true))))))))))))))))
        cond (t1)
          (
          some (false))
          (
          cond (w.2.2 != 0)
            (
            some (false))
            (
            cond (w.2.1 != (wI .i64 (w.1 + 32)))
              (
              some (false))
              (
              cond (decide (w.2.1 > (s2.1.length : Int)))
                (
                some (false))
                (
                oreq (decide ((0 : Int) ≤ w.2.1 ∧ w.2.1 ≤ (s2.1.length : Int))) <|
                let t2 := (s2.1.drop w.2.1.toNat).take (s2.1.length - w.2.1.toNat)
                cond (!(t2 == payload))
                  (
                  some (false))
                  (
                  (R09_Put ha5).bind fun p1 =>
                  cond (p1.2 != 0)
                    (
                    (packet_Datagram t payload).bind fun d =>
                    cond (d.2 != 0)
                      (
                      cond (d.1 == [])
                        (
                        (law11_awake).bind fun a1 =>
                        some (a1))
                        (
                        some (false)))
                      (
                      (packet_Parse d.1).bind fun p2 =>
                      (packet_Where d.1).bind fun w1 =>
                      cond (p2.2 != 0)
                        (
                        some (false))
                        (
                        cond (w1.2.2 != 0)
                          (
                          some (false))
                          (
                          cond (w1.2.1 != (wI .i64 (w1.1 + 8)))
                            (
                            some (false))
                            (
                            cond (decide (w1.2.1 > (d.1.length : Int)))
                              (
                              some (false))
                              (
                              oreq (decide ((0 : Int) ≤ w1.2.1 ∧ w1.2.1 ≤ (d.1.length : Int))) <|
                              let t3 := (d.1.drop w1.2.1.toNat).take (d.1.length - w1.2.1.toNat)
                              cond (!(t3 == payload))
                                (
                                some (false))
                                (
                                let t4 := !((p2.1.Tuple.Proto == t.Proto) && ((p2.1.Tuple.Src.V6 == t.Src.V6) && ((p2.1.Tuple.Src.Hi == t.Src.Hi) && ((p2.1.Tuple.Src.Lo == t.Src.Lo) && ((p2.1.Tuple.Dst.V6 == t.Dst.V6) && ((p2.1.Tuple.Dst.Hi == t.Dst.Hi) && ((p2.1.Tuple.Dst.Lo == t.Dst.Lo) && ((p2.1.Tuple.SPort == t.SPort) && ((p2.1.Tuple.DPort == t.DPort) && true)))))))))
                                cond (t4)
                                  (
                                  some (false))
                                  (
                                  cond (p2.1.Size != (d.1.length : Int))
                                    (
                                    some (false))
                                    (
                                    cond (p2.1.Stamped)
                                      (
                                      some (false))
                                      (
                                      cond (p2.1.Flags != 0)
                                        (
                                        some (false))
                                        (
                                        (law11_awake).bind fun a2 =>
                                        some (a2))))))))))))
                    (
                    (packet_Datagram t p1.1).bind fun d1 =>
                    cond (d1.2 != 0)
                      (
                      cond (d1.1 == [])
                        (
                        (law11_awake).bind fun a3 =>
                        some (a3))
                        (
                        some (false)))
                      (
                      (packet_Parse d1.1).bind fun p3 =>
                      (packet_Where d1.1).bind fun w2 =>
                      cond (p3.2 != 0)
                        (
                        some (false))
                        (
                        cond (w2.2.2 != 0)
                          (
                          some (false))
                          (
                          cond (w2.2.1 != (wI .i64 (w2.1 + 8)))
                            (
                            some (false))
                            (
                            cond (decide (w2.2.1 > (d1.1.length : Int)))
                              (
                              some (false))
                              (
                              oreq (decide ((0 : Int) ≤ w2.2.1 ∧ w2.2.1 ≤ (d1.1.length : Int))) <|
                              let t5 := (d1.1.drop w2.2.1.toNat).take (d1.1.length - w2.2.1.toNat)
                              cond (!(t5 == p1.1))
                                (
                                some (false))
                                (
                                let t6 := !((p3.1.Tuple.Proto == t.Proto) && ((p3.1.Tuple.Src.V6 == t.Src.V6) && ((p3.1.Tuple.Src.Hi == t.Src.Hi) && ((p3.1.Tuple.Src.Lo == t.Src.Lo) && ((p3.1.Tuple.Dst.V6 == t.Dst.V6) && ((p3.1.Tuple.Dst.Hi == t.Dst.Hi) && ((p3.1.Tuple.Dst.Lo == t.Dst.Lo) && ((p3.1.Tuple.SPort == t.SPort) && ((p3.1.Tuple.DPort == t.DPort) && true)))))))))
                                cond (t6)
                                  (
                                  some (false))
                                  (
                                  cond (p3.1.Size != (d1.1.length : Int))
                                    (
                                    some (false))
                                    (
                                    cond (p3.1.Stamped)
                                      (
                                      some (false))
                                      (
                                      cond (p3.1.Flags != 0)
                                        (
                                        some (false))
                                        (
                                        cond (p3.1.Long == ha5.Long)
                                          (
                                          cond (p3.1.CID == ha5.DCID)
                                            (
                                            (law11_awake).bind fun a4 =>
                                            some (a4))
                                            (
                                            some (false)))
                                          (
                                          some (false))))))))))))))))))))
      (
      (R09_Put ha5).bind fun p4 =>
      cond (p4.2 != 0)
        (
        (packet_Datagram t payload).bind fun d2 =>
        cond (d2.2 != 0)
          (
          cond (d2.1 == [])
            (
            (law11_awake).bind fun a5 =>
            some (a5))
            (
            some (false)))
          (
          (packet_Parse d2.1).bind fun p5 =>
          (packet_Where d2.1).bind fun w3 =>
          cond (p5.2 != 0)
            (
            some (false))
            (
            cond (w3.2.2 != 0)
              (
              some (false))
              (
              cond (w3.2.1 != (wI .i64 (w3.1 + 8)))
                (
                some (false))
                (
                cond (decide (w3.2.1 > (d2.1.length : Int)))
                  (
                  some (false))
                  (
                  oreq (decide ((0 : Int) ≤ w3.2.1 ∧ w3.2.1 ≤ (d2.1.length : Int))) <|
                  let t7 := (d2.1.drop w3.2.1.toNat).take (d2.1.length - w3.2.1.toNat)
                  cond (!(t7 == payload))
                    (
                    some (false))
                    (
                    let t8 := !((p5.1.Tuple.Proto == t.Proto) && ((p5.1.Tuple.Src.V6 == t.Src.V6) && ((p5.1.Tuple.Src.Hi == t.Src.Hi) && ((p5.1.Tuple.Src.Lo == t.Src.Lo) && ((p5.1.Tuple.Dst.V6 == t.Dst.V6) && ((p5.1.Tuple.Dst.Hi == t.Dst.Hi) && ((p5.1.Tuple.Dst.Lo == t.Dst.Lo) && ((p5.1.Tuple.SPort == t.SPort) && ((p5.1.Tuple.DPort == t.DPort) && true)))))))))
                    cond (t8)
                      (
                      some (false))
                      (
                      cond (p5.1.Size != (d2.1.length : Int))
                        (
                        some (false))
                        (
                        cond (p5.1.Stamped)
                          (
                          some (false))
                          (
                          cond (p5.1.Flags != 0)
                            (
                            some (false))
                            (
                            (law11_awake).bind fun a6 =>
                            some (a6))))))))))))
        (
        (packet_Datagram t p4.1).bind fun d3 =>
        cond (d3.2 != 0)
          (
          cond (d3.1 == [])
            (
            (law11_awake).bind fun a7 =>
            some (a7))
            (
            some (false)))
          (
          (packet_Parse d3.1).bind fun p6 =>
          (packet_Where d3.1).bind fun w4 =>
          cond (p6.2 != 0)
            (
            some (false))
            (
            cond (w4.2.2 != 0)
              (
              some (false))
              (
              cond (w4.2.1 != (wI .i64 (w4.1 + 8)))
                (
                some (false))
                (
                cond (decide (w4.2.1 > (d3.1.length : Int)))
                  (
                  some (false))
                  (
                  oreq (decide ((0 : Int) ≤ w4.2.1 ∧ w4.2.1 ≤ (d3.1.length : Int))) <|
                  let t9 := (d3.1.drop w4.2.1.toNat).take (d3.1.length - w4.2.1.toNat)
                  cond (!(t9 == p4.1))
                    (
                    some (false))
                    (
                    let t10 := !((p6.1.Tuple.Proto == t.Proto) && ((p6.1.Tuple.Src.V6 == t.Src.V6) && ((p6.1.Tuple.Src.Hi == t.Src.Hi) && ((p6.1.Tuple.Src.Lo == t.Src.Lo) && ((p6.1.Tuple.Dst.V6 == t.Dst.V6) && ((p6.1.Tuple.Dst.Hi == t.Dst.Hi) && ((p6.1.Tuple.Dst.Lo == t.Dst.Lo) && ((p6.1.Tuple.SPort == t.SPort) && ((p6.1.Tuple.DPort == t.DPort) && true)))))))))
                    cond (t10)
                      (
                      some (false))
                      (
                      cond (p6.1.Size != (d3.1.length : Int))
                        (
                        some (false))
                        (
                        cond (p6.1.Stamped)
                          (
                          some (false))
                          (
                          cond (p6.1.Flags != 0)
                            (
                            some (false))
                            (
                            cond (p6.1.Long == ha5.Long)
                              (
                              cond (p6.1.CID == ha5.DCID)
                                (
                                (law11_awake).bind fun a8 =>
                                some (a8))
                                (
                                some (false)))
                              (
                              some (false)))))))))))))))
def rx6 (x : Bool) : SRes := ⟨.bool x, [], []⟩
def r6 (g : api_Tuple → Int → Int → Int → (List UInt8) → quic_Head → Option Bool) : Dec := dV uvapi_Tuple fun (y0 : api_Tuple) => dV (asI .u8) fun (y1 : Int) => dV (asI .u32) fun (y2 : Int) => dV (asI .u32) fun (y3 : Int) => dV asS fun (y4 : List UInt8) => dV uvquic_Head fun (y5 : quic_Head) => dEnd (ofG (g y0 y1 y2 y3 y4 y5) rx6)
def s6 (g : api_Tuple → Int → Int → Int → (List UInt8) → quic_Head → Option Bool) : Summ := ⟨[.v, .v, .v, .v, .v, .v], r6 g⟩
abbrev sums6 (R07_Small : (List (List UInt8)) → Int → Option Bool) (R07_Stamped : Int → Int → Option (List UInt8)) (R09_Put : quic_Head → Option ((List UInt8) × Int)) (law11_awake : Option Bool) (packet_Datagram : api_Tuple → (List UInt8) → Option ((List UInt8) × Int)) (packet_Parse : (List UInt8) → Option (api_Packet × Int)) (packet_Segment : api_Tuple → Int → (List UInt8) → (List UInt8) → Option ((List UInt8) × Int)) (packet_Where : (List UInt8) → Option (Int × Int × Int)) : List (Nat × Summ) := [(7, s7 R07_Small), (15, s15 R07_Stamped), (19, s19 R09_Put), (13, s13 law11_awake), (17, s17 packet_Datagram), (16, s16 packet_Parse), (14, s14 packet_Segment), (18, s18 packet_Where)]
theorem leads6 (R07_Small : (List (List UInt8)) → Int → Option Bool) (R07_Stamped : Int → Int → Option (List UInt8)) (R09_Put : quic_Head → Option ((List UInt8) × Int)) (law11_awake : Option Bool) (packet_Datagram : api_Tuple → (List UInt8) → Option ((List UInt8) × Int)) (packet_Parse : (List UInt8) → Option (api_Packet × Int)) (packet_Segment : api_Tuple → Int → (List UInt8) → (List UInt8) → Option ((List UInt8) × Int)) (packet_Where : (List UInt8) → Option (Int × Int × Int)) (hS : SumsOK Try.prog (aget (sums6 R07_Small R07_Stamped R09_Put law11_awake packet_Datagram packet_Parse packet_Segment packet_Where))) (t : api_Tuple) (flags : Int) (val : Int) (echo : Int) (payload : List UInt8) (ha5 : quic_Head) (res : Bool) (h : law11_PacketBackF R07_Small R07_Stamped R09_Put law11_awake packet_Datagram packet_Parse packet_Segment packet_Where t flags val echo payload ha5 = some res) :
    Leads Try.prog 6 0 ⟨⟨6, 199, [(0, .agg ⟨[.int .i64 t.Proto, .bool t.Src.V6, .int .u64 t.Src.Hi, .int .u64 t.Src.Lo, .bool t.Dst.V6, .int .u64 t.Dst.Hi, .int .u64 t.Dst.Lo, .int .i64 t.SPort, .int .i64 t.DPort]⟩), (1, .int .u8 flags), (2, .int .u32 val), (3, .int .u32 echo), (4, .string ⟨⟨payload⟩⟩), (5, .agg ⟨[.bool ha5.Long, .int .i64 ha5.Bits, .int .u32 ha5.Version, .string ⟨⟨ha5.DCID⟩⟩, .string ⟨⟨ha5.SCID⟩⟩, .string ⟨⟨ha5.Rest⟩⟩]⟩)], [.code k6_49], [], false, none⟩, [], [], 0⟩ (fun v H _ => Res 0 (rx6 res) v H) := by
  unfold law11_PacketBackF at h
  refine ev_ok tab_ok hS true 3000 ?_
  conv => whnf
  replace h := obind.elim h; obtain ⟨s, hy, h⟩ := h
  refine sumK.introF [] (sumRun_of (aqs := [.slice (some ⟨0, 0, none⟩) ([payload, ha5.DCID, ha5.SCID, ha5.Rest] : List (List UInt8)).length 1, .int .i64 100]) (ws := [.win 2 0 (4 * 1) false]) (n := 0) (m := 0) (t' := 3) (ra_cons (by first | rfl | exact ra_allS rfl rfl (by first | rfl | omega) (by first | rfl | (simp; done)) | exact ra_slS rfl rfl (by first | rfl | omega) (by first | rfl | omega) (by first | omega | (simp at *; omega))) rfl (ra_cons rfl rfl ra_nil)) rfl (by rfl) (r7_eq hy) rfl rfl rfl rfl (wb_skip rfl wb_nil) an_nil rfl) ?_
  conv => whnf
  refine br.h h ?_ ?_ ?_
  · rfl
  · clear h; intro hb h; conv => whnf
    replace h := obind.elim h; obtain ⟨a, hy, h⟩ := h
    refine sumK.q rfl rfl (r13_eq hy) rfl rfl rfl ?_
    conv => whnf
    all_goals (cases h; exact Res.z rfl rfl rfl)
  clear h; intro hb h; conv => whnf
  replace h := obind.elim h; obtain ⟨s1, hy, h⟩ := h
  refine sumK.q rfl rfl (r15_eq hy) rfl rfl rfl ?_
  conv => whnf
  replace h := obind.elim h; obtain ⟨s2, hy, h⟩ := h
  refine sumK.q rfl rfl (r14_eq hy) rfl rfl rfl ?_
  conv => whnf
  refine br.h2 h ?_ ?_ ?_
  · rfl
  · clear h; intro hb h; conv => whnf
    replace h := obind.elim h; obtain ⟨p4, hy, h⟩ := h
    refine sumK.q rfl rfl (r19_eq hy) rfl rfl rfl ?_
    conv => whnf
    refine br.h h ?_ ?_ ?_
    · rfl
    · clear h; intro hb h; conv => whnf
      replace h := obind.elim h; obtain ⟨d2, hy, h⟩ := h
      refine sumK.q rfl rfl (r17_eq hy) rfl rfl rfl ?_
      conv => whnf
      refine br.h h ?_ ?_ ?_
      · rfl
      · clear h; intro hb h; conv => whnf
        refine br.h2 h ?_ ?_ ?_
        · rfl
        · clear h; intro hb h; conv => whnf
          all_goals (cases h; exact Res.z rfl rfl rfl)
        clear h; intro hb h; conv => whnf
        replace h := obind.elim h; obtain ⟨a5, hy, h⟩ := h
        refine sumK.q rfl rfl (r13_eq hy) rfl rfl rfl ?_
        conv => whnf
        all_goals (cases h; exact Res.z rfl rfl rfl)
      clear h; intro hb h; conv => whnf
      replace h := obind.elim h; obtain ⟨p5, hy, h⟩ := h
      refine sumK.q rfl rfl (r16_eq hy) rfl rfl rfl ?_
      conv => whnf
      replace h := obind.elim h; obtain ⟨w3, hy, h⟩ := h
      refine sumK.q rfl rfl (r18_eq hy) rfl rfl rfl ?_
      conv => whnf
      refine br.h h ?_ ?_ ?_
      · rfl
      · clear h; intro hb h; conv => whnf
        all_goals (cases h; exact Res.z rfl rfl rfl)
      clear h; intro hb h; conv => whnf
      refine br.h h ?_ ?_ ?_
      · rfl
      · clear h; intro hb h; conv => whnf
        all_goals (cases h; exact Res.z rfl rfl rfl)
      clear h; intro hb h; conv => whnf
      refine br.h h ?_ ?_ ?_
      · rfl
      · clear h; intro hb h; conv => whnf
        all_goals (cases h; exact Res.z rfl rfl rfl)
      clear h; intro hb h; conv => whnf
      refine br.h h ?_ ?_ ?_
      · rfl
      · clear h; intro hb h; conv => whnf
        all_goals (cases h; exact Res.z rfl rfl rfl)
      clear h; intro hb h; conv => whnf
      replace h := oreq.elim h; obtain ⟨hb, h⟩ := h
      first | (refine req.intro hb ?_; conv => whnf) | skip
      let t7 : List UInt8 := (d2.1.drop w3.2.1.toNat).take (d2.1.length - w3.2.1.toNat)
      refine br.h h ?_ ?_ ?_
      · rfl
      · clear h; intro hb h; conv => whnf
        all_goals (cases h; exact Res.z rfl rfl rfl)
      clear h; intro hb h; conv => whnf
      let t8 : Bool := !((p5.1.Tuple.Proto == t.Proto) && ((p5.1.Tuple.Src.V6 == t.Src.V6) && ((p5.1.Tuple.Src.Hi == t.Src.Hi) && ((p5.1.Tuple.Src.Lo == t.Src.Lo) && ((p5.1.Tuple.Dst.V6 == t.Dst.V6) && ((p5.1.Tuple.Dst.Hi == t.Dst.Hi) && ((p5.1.Tuple.Dst.Lo == t.Dst.Lo) && ((p5.1.Tuple.SPort == t.SPort) && ((p5.1.Tuple.DPort == t.DPort) && true)))))))))
      refine br.h h ?_ ?_ ?_
      · rfl
      · clear h; intro hb h; conv => whnf
        all_goals (cases h; exact Res.z rfl rfl rfl)
      clear h; intro hb h; conv => whnf
      refine br.h h ?_ ?_ ?_
      · rfl
      · clear h; intro hb h; conv => whnf
        all_goals (cases h; exact Res.z rfl rfl rfl)
      clear h; intro hb h; conv => whnf
      refine br.h h ?_ ?_ ?_
      · rfl
      · clear h; intro hb h; conv => whnf
        all_goals (cases h; exact Res.z rfl rfl rfl)
      clear h; intro hb h; conv => whnf
      refine br.h h ?_ ?_ ?_
      · rfl
      · clear h; intro hb h; conv => whnf
        all_goals (cases h; exact Res.z rfl rfl rfl)
      clear h; intro hb h; conv => whnf
      refine br.pos ?_ ?_; (focus (clear h; first | assumption | (simp_all; done)))
      conv => whnf
      replace h := obind.elim h; obtain ⟨a6, hy, h⟩ := h
      refine sumK.q rfl rfl (r13_eq hy) rfl rfl rfl ?_
      conv => whnf
      all_goals (cases h; exact Res.z rfl rfl rfl)
    clear h; intro hb h; conv => whnf
    replace h := obind.elim h; obtain ⟨d3, hy, h⟩ := h
    refine sumK.q rfl rfl (r17_eq hy) rfl rfl rfl ?_
    conv => whnf
    refine br.h h ?_ ?_ ?_
    · rfl
    · clear h; intro hb h; conv => whnf
      refine br.h2 h ?_ ?_ ?_
      · rfl
      · clear h; intro hb h; conv => whnf
        all_goals (cases h; exact Res.z rfl rfl rfl)
      clear h; intro hb h; conv => whnf
      replace h := obind.elim h; obtain ⟨a7, hy, h⟩ := h
      refine sumK.q rfl rfl (r13_eq hy) rfl rfl rfl ?_
      conv => whnf
      all_goals (cases h; exact Res.z rfl rfl rfl)
    clear h; intro hb h; conv => whnf
    replace h := obind.elim h; obtain ⟨p6, hy, h⟩ := h
    refine sumK.q rfl rfl (r16_eq hy) rfl rfl rfl ?_
    conv => whnf
    replace h := obind.elim h; obtain ⟨w4, hy, h⟩ := h
    refine sumK.q rfl rfl (r18_eq hy) rfl rfl rfl ?_
    conv => whnf
    refine br.h h ?_ ?_ ?_
    · rfl
    · clear h; intro hb h; conv => whnf
      all_goals (cases h; exact Res.z rfl rfl rfl)
    clear h; intro hb h; conv => whnf
    refine br.h h ?_ ?_ ?_
    · rfl
    · clear h; intro hb h; conv => whnf
      all_goals (cases h; exact Res.z rfl rfl rfl)
    clear h; intro hb h; conv => whnf
    refine br.h h ?_ ?_ ?_
    · rfl
    · clear h; intro hb h; conv => whnf
      all_goals (cases h; exact Res.z rfl rfl rfl)
    clear h; intro hb h; conv => whnf
    refine br.h h ?_ ?_ ?_
    · rfl
    · clear h; intro hb h; conv => whnf
      all_goals (cases h; exact Res.z rfl rfl rfl)
    clear h; intro hb h; conv => whnf
    replace h := oreq.elim h; obtain ⟨hb, h⟩ := h
    first | (refine req.intro hb ?_; conv => whnf) | skip
    let t9 : List UInt8 := (d3.1.drop w4.2.1.toNat).take (d3.1.length - w4.2.1.toNat)
    refine br.h h ?_ ?_ ?_
    · rfl
    · clear h; intro hb h; conv => whnf
      all_goals (cases h; exact Res.z rfl rfl rfl)
    clear h; intro hb h; conv => whnf
    let t10 : Bool := !((p6.1.Tuple.Proto == t.Proto) && ((p6.1.Tuple.Src.V6 == t.Src.V6) && ((p6.1.Tuple.Src.Hi == t.Src.Hi) && ((p6.1.Tuple.Src.Lo == t.Src.Lo) && ((p6.1.Tuple.Dst.V6 == t.Dst.V6) && ((p6.1.Tuple.Dst.Hi == t.Dst.Hi) && ((p6.1.Tuple.Dst.Lo == t.Dst.Lo) && ((p6.1.Tuple.SPort == t.SPort) && ((p6.1.Tuple.DPort == t.DPort) && true)))))))))
    refine br.h h ?_ ?_ ?_
    · rfl
    · clear h; intro hb h; conv => whnf
      all_goals (cases h; exact Res.z rfl rfl rfl)
    clear h; intro hb h; conv => whnf
    refine br.h h ?_ ?_ ?_
    · rfl
    · clear h; intro hb h; conv => whnf
      all_goals (cases h; exact Res.z rfl rfl rfl)
    clear h; intro hb h; conv => whnf
    refine br.h h ?_ ?_ ?_
    · rfl
    · clear h; intro hb h; conv => whnf
      all_goals (cases h; exact Res.z rfl rfl rfl)
    clear h; intro hb h; conv => whnf
    refine br.h h ?_ ?_ ?_
    · rfl
    · clear h; intro hb h; conv => whnf
      all_goals (cases h; exact Res.z rfl rfl rfl)
    clear h; intro hb h; conv => whnf
    refine br.neg ?_ ?_; (focus (clear h; first | assumption | (simp_all; done)))
    conv => whnf
    refine br.h2 h ?_ ?_ ?_
    · rfl
    · clear h; intro hb h; conv => whnf
      all_goals (cases h; exact Res.z rfl rfl rfl)
    clear h; intro hb h; conv => whnf
    refine br.h2 h ?_ ?_ ?_
    · rfl
    · clear h; intro hb h; conv => whnf
      all_goals (cases h; exact Res.z rfl rfl rfl)
    clear h; intro hb h; conv => whnf
    replace h := obind.elim h; obtain ⟨a8, hy, h⟩ := h
    refine sumK.q rfl rfl (r13_eq hy) rfl rfl rfl ?_
    conv => whnf
    all_goals (cases h; exact Res.z rfl rfl rfl)
  clear h; intro hb h; conv => whnf
  replace h := obind.elim h; obtain ⟨p, hy, h⟩ := h
  refine sumK.q rfl rfl (r16_eq hy) rfl rfl rfl ?_
  conv => whnf
  replace h := obind.elim h; obtain ⟨w, hy, h⟩ := h
  refine sumK.q rfl rfl (r18_eq hy) rfl rfl rfl ?_
  conv => whnf
  refine br.h h ?_ ?_ ?_
  · rfl
  · clear h; intro hb h; conv => whnf
    all_goals (cases h; exact Res.z rfl rfl rfl)
  clear h; intro hb h; conv => whnf
  let t1 : Bool := !((p.1.Tuple.Proto == t.Proto) && ((p.1.Tuple.Src.V6 == t.Src.V6) && ((p.1.Tuple.Src.Hi == t.Src.Hi) && ((p.1.Tuple.Src.Lo == t.Src.Lo) && ((p.1.Tuple.Dst.V6 == t.Dst.V6) && ((p.1.Tuple.Dst.Hi == t.Dst.Hi) && ((p.1.Tuple.Dst.Lo == t.Dst.Lo) && ((p.1.Tuple.SPort == t.SPort) && ((p.1.Tuple.DPort == t.DPort) && ((p.1.Flags == (wI .i64 flags)) && ((p.1.Stamped == true) && ((p.1.Val == val) && ((p.1.Echo == echo) && ((p.1.Long == false) && ((p.1.CID == []) && ((p.1.Size == (s2.1.length : Int)) && true))))))))))))))))
  refine br.h h ?_ ?_ ?_
  · rfl
  · clear h; intro hb h; conv => whnf
    all_goals (cases h; exact Res.z rfl rfl rfl)
  clear h; intro hb h; conv => whnf
  refine br.h h ?_ ?_ ?_
  · rfl
  · clear h; intro hb h; conv => whnf
    all_goals (cases h; exact Res.z rfl rfl rfl)
  clear h; intro hb h; conv => whnf
  refine br.h h ?_ ?_ ?_
  · rfl
  · clear h; intro hb h; conv => whnf
    all_goals (cases h; exact Res.z rfl rfl rfl)
  clear h; intro hb h; conv => whnf
  refine br.h h ?_ ?_ ?_
  · rfl
  · clear h; intro hb h; conv => whnf
    all_goals (cases h; exact Res.z rfl rfl rfl)
  clear h; intro hb h; conv => whnf
  replace h := oreq.elim h; obtain ⟨hb, h⟩ := h
  first | (refine req.intro hb ?_; conv => whnf) | skip
  let t2 : List UInt8 := (s2.1.drop w.2.1.toNat).take (s2.1.length - w.2.1.toNat)
  refine br.h h ?_ ?_ ?_
  · rfl
  · clear h; intro hb h; conv => whnf
    all_goals (cases h; exact Res.z rfl rfl rfl)
  clear h; intro hb h; conv => whnf
  replace h := obind.elim h; obtain ⟨p1, hy, h⟩ := h
  refine sumK.q rfl rfl (r19_eq hy) rfl rfl rfl ?_
  conv => whnf
  refine br.h h ?_ ?_ ?_
  · rfl
  · clear h; intro hb h; conv => whnf
    replace h := obind.elim h; obtain ⟨d, hy, h⟩ := h
    refine sumK.q rfl rfl (r17_eq hy) rfl rfl rfl ?_
    conv => whnf
    refine br.h h ?_ ?_ ?_
    · rfl
    · clear h; intro hb h; conv => whnf
      refine br.h2 h ?_ ?_ ?_
      · rfl
      · clear h; intro hb h; conv => whnf
        all_goals (cases h; exact Res.z rfl rfl rfl)
      clear h; intro hb h; conv => whnf
      replace h := obind.elim h; obtain ⟨a1, hy, h⟩ := h
      refine sumK.q rfl rfl (r13_eq hy) rfl rfl rfl ?_
      conv => whnf
      all_goals (cases h; exact Res.z rfl rfl rfl)
    clear h; intro hb h; conv => whnf
    replace h := obind.elim h; obtain ⟨p2, hy, h⟩ := h
    refine sumK.q rfl rfl (r16_eq hy) rfl rfl rfl ?_
    conv => whnf
    replace h := obind.elim h; obtain ⟨w1, hy, h⟩ := h
    refine sumK.q rfl rfl (r18_eq hy) rfl rfl rfl ?_
    conv => whnf
    refine br.h h ?_ ?_ ?_
    · rfl
    · clear h; intro hb h; conv => whnf
      all_goals (cases h; exact Res.z rfl rfl rfl)
    clear h; intro hb h; conv => whnf
    refine br.h h ?_ ?_ ?_
    · rfl
    · clear h; intro hb h; conv => whnf
      all_goals (cases h; exact Res.z rfl rfl rfl)
    clear h; intro hb h; conv => whnf
    refine br.h h ?_ ?_ ?_
    · rfl
    · clear h; intro hb h; conv => whnf
      all_goals (cases h; exact Res.z rfl rfl rfl)
    clear h; intro hb h; conv => whnf
    refine br.h h ?_ ?_ ?_
    · rfl
    · clear h; intro hb h; conv => whnf
      all_goals (cases h; exact Res.z rfl rfl rfl)
    clear h; intro hb h; conv => whnf
    replace h := oreq.elim h; obtain ⟨hb, h⟩ := h
    first | (refine req.intro hb ?_; conv => whnf) | skip
    let t3 : List UInt8 := (d.1.drop w1.2.1.toNat).take (d.1.length - w1.2.1.toNat)
    refine br.h h ?_ ?_ ?_
    · rfl
    · clear h; intro hb h; conv => whnf
      all_goals (cases h; exact Res.z rfl rfl rfl)
    clear h; intro hb h; conv => whnf
    let t4 : Bool := !((p2.1.Tuple.Proto == t.Proto) && ((p2.1.Tuple.Src.V6 == t.Src.V6) && ((p2.1.Tuple.Src.Hi == t.Src.Hi) && ((p2.1.Tuple.Src.Lo == t.Src.Lo) && ((p2.1.Tuple.Dst.V6 == t.Dst.V6) && ((p2.1.Tuple.Dst.Hi == t.Dst.Hi) && ((p2.1.Tuple.Dst.Lo == t.Dst.Lo) && ((p2.1.Tuple.SPort == t.SPort) && ((p2.1.Tuple.DPort == t.DPort) && true)))))))))
    refine br.h h ?_ ?_ ?_
    · rfl
    · clear h; intro hb h; conv => whnf
      all_goals (cases h; exact Res.z rfl rfl rfl)
    clear h; intro hb h; conv => whnf
    refine br.h h ?_ ?_ ?_
    · rfl
    · clear h; intro hb h; conv => whnf
      all_goals (cases h; exact Res.z rfl rfl rfl)
    clear h; intro hb h; conv => whnf
    refine br.h h ?_ ?_ ?_
    · rfl
    · clear h; intro hb h; conv => whnf
      all_goals (cases h; exact Res.z rfl rfl rfl)
    clear h; intro hb h; conv => whnf
    refine br.h h ?_ ?_ ?_
    · rfl
    · clear h; intro hb h; conv => whnf
      all_goals (cases h; exact Res.z rfl rfl rfl)
    clear h; intro hb h; conv => whnf
    refine br.pos ?_ ?_; (focus (clear h; first | assumption | (simp_all; done)))
    conv => whnf
    replace h := obind.elim h; obtain ⟨a2, hy, h⟩ := h
    refine sumK.q rfl rfl (r13_eq hy) rfl rfl rfl ?_
    conv => whnf
    all_goals (cases h; exact Res.z rfl rfl rfl)
  clear h; intro hb h; conv => whnf
  replace h := obind.elim h; obtain ⟨d1, hy, h⟩ := h
  refine sumK.q rfl rfl (r17_eq hy) rfl rfl rfl ?_
  conv => whnf
  refine br.h h ?_ ?_ ?_
  · rfl
  · clear h; intro hb h; conv => whnf
    refine br.h2 h ?_ ?_ ?_
    · rfl
    · clear h; intro hb h; conv => whnf
      all_goals (cases h; exact Res.z rfl rfl rfl)
    clear h; intro hb h; conv => whnf
    replace h := obind.elim h; obtain ⟨a3, hy, h⟩ := h
    refine sumK.q rfl rfl (r13_eq hy) rfl rfl rfl ?_
    conv => whnf
    all_goals (cases h; exact Res.z rfl rfl rfl)
  clear h; intro hb h; conv => whnf
  replace h := obind.elim h; obtain ⟨p3, hy, h⟩ := h
  refine sumK.q rfl rfl (r16_eq hy) rfl rfl rfl ?_
  conv => whnf
  replace h := obind.elim h; obtain ⟨w2, hy, h⟩ := h
  refine sumK.q rfl rfl (r18_eq hy) rfl rfl rfl ?_
  conv => whnf
  refine br.h h ?_ ?_ ?_
  · rfl
  · clear h; intro hb h; conv => whnf
    all_goals (cases h; exact Res.z rfl rfl rfl)
  clear h; intro hb h; conv => whnf
  refine br.h h ?_ ?_ ?_
  · rfl
  · clear h; intro hb h; conv => whnf
    all_goals (cases h; exact Res.z rfl rfl rfl)
  clear h; intro hb h; conv => whnf
  refine br.h h ?_ ?_ ?_
  · rfl
  · clear h; intro hb h; conv => whnf
    all_goals (cases h; exact Res.z rfl rfl rfl)
  clear h; intro hb h; conv => whnf
  refine br.h h ?_ ?_ ?_
  · rfl
  · clear h; intro hb h; conv => whnf
    all_goals (cases h; exact Res.z rfl rfl rfl)
  clear h; intro hb h; conv => whnf
  replace h := oreq.elim h; obtain ⟨hb, h⟩ := h
  first | (refine req.intro hb ?_; conv => whnf) | skip
  let t5 : List UInt8 := (d1.1.drop w2.2.1.toNat).take (d1.1.length - w2.2.1.toNat)
  refine br.h h ?_ ?_ ?_
  · rfl
  · clear h; intro hb h; conv => whnf
    all_goals (cases h; exact Res.z rfl rfl rfl)
  clear h; intro hb h; conv => whnf
  let t6 : Bool := !((p3.1.Tuple.Proto == t.Proto) && ((p3.1.Tuple.Src.V6 == t.Src.V6) && ((p3.1.Tuple.Src.Hi == t.Src.Hi) && ((p3.1.Tuple.Src.Lo == t.Src.Lo) && ((p3.1.Tuple.Dst.V6 == t.Dst.V6) && ((p3.1.Tuple.Dst.Hi == t.Dst.Hi) && ((p3.1.Tuple.Dst.Lo == t.Dst.Lo) && ((p3.1.Tuple.SPort == t.SPort) && ((p3.1.Tuple.DPort == t.DPort) && true)))))))))
  refine br.h h ?_ ?_ ?_
  · rfl
  · clear h; intro hb h; conv => whnf
    all_goals (cases h; exact Res.z rfl rfl rfl)
  clear h; intro hb h; conv => whnf
  refine br.h h ?_ ?_ ?_
  · rfl
  · clear h; intro hb h; conv => whnf
    all_goals (cases h; exact Res.z rfl rfl rfl)
  clear h; intro hb h; conv => whnf
  refine br.h h ?_ ?_ ?_
  · rfl
  · clear h; intro hb h; conv => whnf
    all_goals (cases h; exact Res.z rfl rfl rfl)
  clear h; intro hb h; conv => whnf
  refine br.h h ?_ ?_ ?_
  · rfl
  · clear h; intro hb h; conv => whnf
    all_goals (cases h; exact Res.z rfl rfl rfl)
  clear h; intro hb h; conv => whnf
  refine br.neg ?_ ?_; (focus (clear h; first | assumption | (simp_all; done)))
  conv => whnf
  refine br.h2 h ?_ ?_ ?_
  · rfl
  · clear h; intro hb h; conv => whnf
    all_goals (cases h; exact Res.z rfl rfl rfl)
  clear h; intro hb h; conv => whnf
  refine br.h2 h ?_ ?_ ?_
  · rfl
  · clear h; intro hb h; conv => whnf
    all_goals (cases h; exact Res.z rfl rfl rfl)
  clear h; intro hb h; conv => whnf
  replace h := obind.elim h; obtain ⟨a4, hy, h⟩ := h
  refine sumK.q rfl rfl (r13_eq hy) rfl rfl rfl ?_
  conv => whnf
  all_goals (cases h; exact Res.z rfl rfl rfl)
def law11_PacketBack : api_Tuple → Int → Int → Int → (List UInt8) → quic_Head → Option Bool := law11_PacketBackF R07_Small R07_Stamped R09_Put law11_awake packet_Datagram packet_Parse packet_Segment packet_Where
end Go.Vm.Code
namespace Go.Vm.Code
open Go Go.Vm
theorem awake11b : law11_awake = some true := by decide +kernel
theorem drop_end (X l : List UInt8) : (X ++ l).drop ((X ++ l).length - l.length) = l := by
  rw [List.length_append, Nat.add_sub_cancel]; exact List.drop_left
theorem end_made {t : api_Tuple} {b X l : List UInt8} (h0 : (put11 t b).2 = 0) (hb : b = X ++ l) : (put11 t b).1.drop ((put11 t b).1.length - l.length) = l := by
  obtain ⟨_, _, _, _, _, h⟩ := put11_ok h0
  rcases h with ⟨v, hh, hl, e⟩ | ⟨v, hh, hl, e⟩
  · rw [e]
    simp only []
    rw [hb, ← List.append_assoc]; exact drop_end _ _
  · rw [e]
    simp only []
    rw [hb, ← List.append_assoc]; exact drop_end _ _
def tail11b (t : api_Tuple) (d : List UInt8 × Int) (body : List UInt8) (K : api_Packet → Option Bool) : Option Bool :=
                    cond (d.2 != 0)
                      (
                      cond (d.1 == [])
                        (
                        (law11_awake).bind fun a1 =>
                        some (a1))
                        (
                        some (false)))
                      (
                      (packet_Parse d.1).bind fun p2 =>
                      (packet_Where d.1).bind fun w1 =>
                      cond (p2.2 != 0)
                        (
                        some (false))
                        (
                        cond (w1.2.2 != 0)
                          (
                          some (false))
                          (
                          cond (w1.2.1 != (wI .i64 (w1.1 + 8)))
                            (
                            some (false))
                            (
                            cond (decide (w1.2.1 > (d.1.length : Int)))
                              (
                              some (false))
                              (
                              oreq (decide ((0 : Int) ≤ w1.2.1 ∧ w1.2.1 ≤ (d.1.length : Int))) <|
                              let t3 := (d.1.drop w1.2.1.toNat).take (d.1.length - w1.2.1.toNat)
                              cond (!(t3 == body))
                                (
                                some (false))
                                (
                                let t4 := !((p2.1.Tuple.Proto == t.Proto) && ((p2.1.Tuple.Src.V6 == t.Src.V6) && ((p2.1.Tuple.Src.Hi == t.Src.Hi) && ((p2.1.Tuple.Src.Lo == t.Src.Lo) && ((p2.1.Tuple.Dst.V6 == t.Dst.V6) && ((p2.1.Tuple.Dst.Hi == t.Dst.Hi) && ((p2.1.Tuple.Dst.Lo == t.Dst.Lo) && ((p2.1.Tuple.SPort == t.SPort) && ((p2.1.Tuple.DPort == t.DPort) && true)))))))))
                                cond (t4)
                                  (
                                  some (false))
                                  (
                                  cond (p2.1.Size != (d.1.length : Int))
                                    (
                                    some (false))
                                    (
                                    cond (p2.1.Stamped)
                                      (
                                      some (false))
                                      (
                                      cond (p2.1.Flags != 0)
                                        (
                                        some (false))
                                        (K p2.1))))))))))
theorem tail11b_eq {t : api_Tuple} {body : List UInt8} {K : api_Packet → Option Bool} (h1 : A4 t.Src) (h2 : A4 t.Dst) (hK : ∀ p : api_Packet, p.Long = (qc11 body).1 → p.CID = (qc11 body).2 → K p = some true) : tail11b t (dat11 t body) body K = some true := by
  unfold tail11b
  rw [awake11b]
  by_cases gd : (dat11 t body).2 = 0
  · obtain ⟨p17, d0, de⟩ := dat11_ok gd
    rw [show ((dat11 t body).2 != 0) = false by simpa using gd, cond_false]
    rw [de] at gd ⊢
    have hi := in_dat (t := t) (h := ⟨t.SPort, t.DPort⟩) (l := body) (z := cond t.Src.V6 40 20) (n := (put11 t (put8 ⟨t.SPort, t.DPort⟩ t.Src t.Dst body).1).1.length) d0 p17
    have htm := told_made h1 h2 gd
    rw [hi, if_neg (by simp)] at htm
    obtain ⟨_, _, _, _, c⟩ := put8_ok d0
    have hend := end_made (X := be t.SPort.toNat 2 ++ be t.DPort.toNat 2 ++ be (8 + body.length) 2 ++ be (ck8 (pseu t.Src t.Dst 17 (8 + body.length)) (u8 ⟨t.SPort, t.DPort⟩ body)).toNat 2) (l := body) gd (by rw [c]; rfl)
    have hbl : (put8 ⟨t.SPort, t.DPort⟩ t.Src t.Dst body).1.length = 8 + body.length := by rw [c]; exact dg_len _ _ _
    obtain ⟨ml, m9⟩ := made_len gd
    rw [hbl] at ml
    generalize (put11 t (put8 ⟨t.SPort, t.DPort⟩ t.Src t.Dst body).1).1 = P at *
    have hv : cond t.Src.V6 40 20 ≤ 40 := by cases t.Src.V6 <;> decide
    rw [parse_eq (by omega), where_eq (by omega), Option.bind_some, Option.bind_some, htm]
    simp only [bne_self_eq_false, cond_false]
    rw [wI64 (by omega) (by omega), show (((P.length - body.length : Nat) : Int) != ((cond t.Src.V6 40 20 : Nat) : Int) + 8) = false by simp; omega, cond_false, cond_n (by omega), oreq_p (by omega), Int.toNat_natCast, hend, List.take_of_length_le (by omega)]
    simp only [beq_self_eq_true, Bool.and_self, Bool.not_true, cond_false, bne_self_eq_false]
    exact hK _ rfl rfl
  · rw [show ((dat11 t body).2 != 0) = true by simpa using gd, cond_true, dat11_bad gd]; rfl
theorem qc11_put {h : quic_Head} (hk : HOK h) (hv : 0 ≤ h.Version ∧ h.Version < 2 ^ 32) : qc11 (bytesQ h) = (h.Long, h.DCID) := by
  unfold qc11
  rw [getQ_putQ hk hv, if_pos rfl]
def half11b (t : api_Tuple) (payload : List UInt8) (ha5 : quic_Head) : Option Bool :=
  (R09_Put ha5).bind fun p1 => cond (p1.2 != 0) ((packet_Datagram t payload).bind fun d => tail11b t d payload fun _ => (law11_awake).bind fun a => some a)
    ((packet_Datagram t p1.1).bind fun d1 => tail11b t d1 p1.1 fun p => cond (p.Long == ha5.Long) (cond (p.CID == ha5.DCID) ((law11_awake).bind fun a => some a) (some false)) (some false))
theorem bytesQ_len {h : quic_Head} (hk : HOK h) : (bytesQ h).length ≤ 47 + h.Rest.length := by
  obtain ⟨_, b⟩ := hk
  unfold bytesQ
  by_cases hl : h.Long = true
  · rw [if_pos hl] at b ⊢
    simp only [List.length_append, be_len]; omega
  · rw [if_neg hl] at b ⊢
    simp only [List.length_append, be_len]; omega
theorem half11b_eq {t : api_Tuple} {l : List UInt8} {h : quic_Head} (h1 : A4 t.Src) (h2 : A4 t.Dst) (hv : 0 ≤ h.Version ∧ h.Version < 2 ^ 32) (hl : l.length ≤ 100) (hr : h.Rest.length ≤ 100) : half11b t l h = some true := by
  unfold half11b
  rw [rputQ_eq hv (by omega), Option.bind_some, awake11b]
  unfold putQ
  by_cases hk : HOK h
  · have hbl := bytesQ_len hk
    rw [if_pos hk]
    simp only [bne_self_eq_false, cond_false]
    rw [p11dat_eq h1 h2 (by omega), Option.bind_some]
    refine tail11b_eq h1 h2 fun p a b => ?_
    rw [qc11_put hk hv] at a b
    rw [a, b]
    simp only [beq_self_eq_true, cond_true, Option.bind_some]
  · rw [if_neg hk]
    show ((packet_Datagram t l).bind _) = _
    rw [p11dat_eq h1 h2 (by omega), Option.bind_some]
    exact tail11b_eq h1 h2 fun p a b => rfl
theorem packetBack (t : api_Tuple) (flags val echo : Int) (l : List UInt8) (h : quic_Head) (h1 : A4 t.Src) (h2 : A4 t.Dst) (hf : 0 ≤ flags ∧ flags < 256) (hv : 0 ≤ val ∧ val < 4294967296) (he : 0 ≤ echo ∧ echo < 4294967296) (hq : 0 ≤ h.Version ∧ h.Version < 4294967296) : law11_PacketBack t flags val echo l h = some true := by
  unfold law11_PacketBack law11_PacketBackF
  rw [small_eq (by simp), Option.bind_some]
  cases hc : [l, h.DCID, h.SCID, h.Rest].all fun x => decide ((x.length : Int) ≤ 100)
  · rw [awake11b]; rfl
  simp only [List.all_cons, List.all_nil, Bool.and_true, Bool.and_eq_true, decide_eq_true_eq] at hc
  obtain ⟨v, rfl⟩ := Int.eq_ofNat_of_zero_le hv.1
  obtain ⟨e, rfl⟩ := Int.eq_ofNat_of_zero_le he.1
  have hv2 : v < 4294967296 := by omega
  have he2 : e < 4294967296 := by omega
  have hsl : (stamped7 v e).length = 12 := by simp [stamped7]
  have ht := half11b_eq (t := t) (l := l) (h := h) h1 h2 ⟨hq.1, by omega⟩ (by omega) (by omega)
  unfold half11b tail11b at ht
  rw [Bool.not_true, cond_false, rstamped_eq hv2 he2, Option.bind_some, wI64 (n := flags) (by omega) (by omega), p11seg_eq h1 h2 (by omega) (by omega), Option.bind_some]
  by_cases gs : (seg11 t flags (stamped7 v e) l).2 = 0
  · rw [show ((seg11 t flags (stamped7 v e) l).2 == 0) = true by simpa using gs, cond_true]
    obtain ⟨p6, d0, de⟩ := seg11_ok gs
    rw [de] at gs ⊢
    have hw : W7 ⟨t.SPort, t.DPort, 0, 0, flags, 65535, 0, stamped7 v e⟩ := ⟨⟨by simp only []; omega, by simp only []; omega⟩, by simp only []; omega, by simp only []; omega⟩
    have ho : (opt7 (stamped7 v e)).2 = 0 := by unfold stamped7; rw [opt7_stamped (by simp)]
    have hi := in_seg (t := t) (h := ⟨t.SPort, t.DPort, 0, 0, flags, 65535, 0, stamped7 v e⟩) (l := l) (z := cond t.Src.V6 40 20) (n := (put11 t (put7 ⟨t.SPort, t.DPort, 0, 0, flags, 65535, 0, stamped7 v e⟩ t.Src t.Dst l).1).1.length) hw ho d0 p6
    have hst : st11 (stamped7 v e) = (true, (v : Int), (e : Int)) := by unfold st11; rw [stamp_stamped hv2 he2]; rfl
    simp only [hst] at hi
    have htm := told_made h1 h2 gs
    rw [hi, if_neg (by simp)] at htm
    obtain ⟨_, _, k3⟩ := put7_ok d0
    have hend := end_made (l := l) gs (by rw [k3])
    have hbl : (put7 ⟨t.SPort, t.DPort, 0, 0, flags, 65535, 0, stamped7 v e⟩ t.Src t.Dst l).1.length = 32 + l.length := by
      rw [k3]; simp only [List.length_append, hc7_len, hsl]
    obtain ⟨ml, m9⟩ := made_len gs
    rw [hbl] at ml
    generalize (put11 t (put7 ⟨t.SPort, t.DPort, 0, 0, flags, 65535, 0, stamped7 v e⟩ t.Src t.Dst l).1).1 = P at *
    have hv6 : cond t.Src.V6 40 20 ≤ 40 := by cases t.Src.V6 <;> decide
    rw [parse_eq (by omega), where_eq (by omega), Option.bind_some, Option.bind_some, htm]
    simp only [bne_self_eq_false, cond_false, beq_self_eq_true, Bool.and_self, Bool.not_true]
    rw [wI64 (by omega) (by omega), show (((P.length - l.length : Nat) : Int) != ((cond t.Src.V6 40 20 : Nat) : Int) + 32) = false by simp; omega, cond_false, cond_n (by omega), oreq_p (by omega), Int.toNat_natCast, hend, List.take_of_length_le (by omega), beq_self_eq_true, Bool.not_true, cond_false]
    exact ht
  · rw [show ((seg11 t flags (stamped7 v e) l).2 == 0) = false by simpa using gs, cond_false]
    exact ht
end Go.Vm.Code
