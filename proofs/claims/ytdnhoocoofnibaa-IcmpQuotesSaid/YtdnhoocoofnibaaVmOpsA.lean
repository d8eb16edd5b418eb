import Derived.Test.YtdnhoocoofnibaaVmOps
namespace Go.Vm
open Go Go.RowKit
section
variable {P : Program} {w0 : World} {U : UG} {ρ : Ren} {o : Oper} {a : Operand → Value} {w : World} {H : Hp} {top : Nat} [NG U top]
  {x : Option Value} {H' : Hp} {top' : Nat} {vals : List Value}
theorem opRun_none {v : VOp} (hn : needs v vals = []) (hr : opRun v vals H top = some (x, H', top')) :
    ∃ r, core v vals [] top = some r ∧ x = r.v ∧ ((r.fresh = none ∧ H' = H ∧ top' = top) ∨ (∃ ob, r.fresh = some ob ∧ H' = aput H top ob ∧ top' = top + 1)) := by
  simp only [opRun, hn, agets] at hr
  cases hc : core v vals [] top with
  | none => simp [hc] at hr
  | some r =>
    obtain ⟨rv, ro, rf⟩ := r
    simp only [hc] at hr
    refine ⟨_, rfl, ?_⟩
    cases rf with
    | none => simp only [Option.some.injEq, Prod.mk.injEq] at hr; obtain ⟨rfl, rfl, rfl⟩ := hr; exact ⟨rfl, .inl ⟨rfl, by cases ro <;> rfl, rfl⟩⟩
    | some ob => simp only [Option.some.injEq, Prod.mk.injEq] at hr; obtain ⟨rfl, rfl, rfl⟩ := hr; exact ⟨rfl, .inr ⟨ob, rfl, by cases ro <;> rfl, rfl⟩⟩
theorem opPure (h : HpR P w0 U ρ H top w) {v : VOp} (hn : needs v vals = []) (hr : opRun v vals H top = some (x, H', top'))
    (key : ∀ r, core v vals [] top = some r → ∃ u u', r = ⟨some u, [], none⟩ ∧ (execOp a o).run P w = .ok (.value u') w ∧ VR ρ u u') :
    Done P w0 U ρ o a w x H' top' := by
  obtain ⟨r, hc, rfl, hh⟩ := opRun_none hn hr
  obtain ⟨u, u', rfl, hrun, hv⟩ := key r hc
  rcases hh with ⟨_, rfl, rfl⟩ | ⟨ob, e, _⟩
  · exact Done.pure h hrun hv
  · cases e
theorem val_inv {v : Value} {r : CoreR} (h : val v = some r) : r = ⟨some v, [], none⟩ := by simpa [val] using h.symm
theorem op_mv (h : HpR P w0 U ρ H top w) {y : Operand} (he : execOp a o = pure (.value (a y))) (hv : VRL ρ vals [a y])
    (hr : opRun (.mv y) vals H top = some (x, H', top')) : Done P w0 U ρ o a w x H' top' := by
  refine opPure h rfl hr fun r hc => ?_
  cases hv with | cons hv hl =>
  cases hl
  simp only [core] at hc
  exact ⟨_, _, val_inv hc, by rw [he]; rfl, hv⟩
theorem op_pick (h : HpR P w0 U ρ H top w) {c y z : Operand} (ho : o.op = .pick c y z) (hv : VRL ρ vals [a c, a y, a z])
    (hr : opRun (.pick c y z) vals H top = some (x, H', top')) : Done P w0 U ρ o a w x H' top' := by
  refine opPure h rfl hr fun r hc => ?_
  change c_pick vals [] = some r at hc
  unfold c_pick at hc; split at hc
  · obtain ⟨v1, v2, v3, e, h1, h2, h3⟩ := hv.inv3
    cases h1
    simp only [List.cons.injEq, and_true] at e
    obtain ⟨e1, rfl, rfl⟩ := e
    rename_i b _ _ _
    refine ⟨_, if b then a y else a z, val_inv hc, ?_, by cases b <;> simpa⟩
    simp [execOp, ho, asBool, e1]
  · cases hc
theorem op_nilCheck (h : HpR P w0 U ρ H top w) {y : Operand} (ho : o.op = .nilCheck y) (hv : VRL ρ vals [a y])
    (hr : opRun (.nilCheck y) vals H top = some (x, H', top')) : Done P w0 U ρ o a w x H' top' := by
  refine opPure h rfl hr fun r hc => ?_
  change c_nilCheck vals [] = some r at hc
  obtain ⟨y', hy⟩ : ∃ y', y' = a y := ⟨_, rfl⟩
  rw [← hy] at hv
  unfold c_nilCheck at hc; split at hc
  all_goals first
    | (cases hc; done)
    | (obtain ⟨v1, e, h1⟩ := hv.inv1
       simp only [List.cons.injEq, and_true] at e
       subst e
       refine ⟨_, y', val_inv hc, ?_, h1⟩
       cases h1 <;> simp [execOp, ho, ← hy])
theorem bin_run {op : BinOp} {u v r : Value} (hb : binV op u v = some r) (t : TypeId) : (Go.binOp op t u v).run P w = .ok r w := by
  unfold binV at hb
  split at hb
  · rename_i k p k' q
    split at hb
    · split at hb
      · cases hb; rename_i h0; simp [Go.binOp, Op.shift, show ¬ q < 0 by omega]
      · cases hb
    · split at hb
      · cases hb; rename_i h0; simp [Go.binOp, Op.shift, show ¬ q < 0 by omega]
      · cases hb
    · split at hb
      · rename_i hk; subst hk
        cases op <;> simp only at hb <;> first
          | (cases hb; simp [Go.binOp, Op.intArith, Op.intBits, Op.intCmp]; done)
          | (split at hb <;> first | (cases hb; done) | (cases hb; rename_i h0; simp [Go.binOp, Op.intDiv, h0]; done))
          | simp_all
      · cases hb
  · rename_i p q
    split at hb
    · split at hb
      · cases hb
        rename_i h0
        have hm : IntKind.i64.max = 2 ^ 63 - 1 := rfl
        have e1 : ¬ IntKind.i64.max < ((p.size + q.size : Nat) : Int) := by
          have : p.size = p.data.toList.length := by simp
          have : q.size = q.data.toList.length := by simp
          rw [hm]; omega
        have e2 : p ++ q = ⟨⟨p.data.toList ++ q.data.toList⟩⟩ := by
          apply ByteArray.ext
          simp
        simp only [Go.binOp, Op.stringOp, gt_iff_lt, if_neg e1, e2]; rfl
      · cases hb
    · cases hb; simp [Go.binOp, Op.stringOp, ByteArray.toList_eq]
    · cases hb; simp [Go.binOp, Op.stringOp, ByteArray.toList_eq]
    · cases hb; simp [Go.binOp, Op.stringOp, ByteArray.toList_eq]
    · cases hb
  · cases hb
theorem op_bin (h : HpR P w0 U ρ H top w) {op : BinOp} {t u : TypeId} {y z : Operand} (ho : o.op = .binOp op t y z u) (hv : VRL ρ vals [a y, a z])
    (hr : opRun (.bin op y z) vals H top = some (x, H', top')) : Done P w0 U ρ o a w x H' top' := by
  refine opPure h rfl hr fun r hc => ?_
  change c_bin op vals [] = some r at hc
  unfold c_bin at hc; split at hc
  · rename_i p q _
    split at hc
    · rename_i v hb
      obtain ⟨v1, v2, e, h1, h2⟩ := hv.inv2
      simp only [List.cons.injEq, and_true] at e
      obtain ⟨e1, e2⟩ := e
      have key : v1 = p ∧ v2 = q ∧ flatV v = true := by
        unfold binV at hb
        split at hb
        · cases h1; cases h2; refine ⟨rfl, rfl, ?_⟩
          split at hb
          · split at hb <;> first | (cases hb; done) | (cases hb; rfl)
          · split at hb <;> first | (cases hb; done) | (cases hb; rfl)
          · split at hb
            · cases op <;> simp only at hb <;> first | (cases hb; done) | (cases hb; rfl) | (split at hb <;> first | (cases hb; done) | (cases hb; rfl))
            · cases hb
        · cases h1; cases h2; refine ⟨rfl, rfl, ?_⟩
          split at hb <;> first | (cases hb; done) | (cases hb; rfl) | (split at hb <;> first | (cases hb; done) | (cases hb; rfl))
        · cases hb
      obtain ⟨rfl, rfl, hf⟩ := key
      refine ⟨_, v, val_inv hc, ?_, VR.flat ρ v hf⟩
      have hg : (eqGuard op t y z v1 v2).run P w = .ok () w := by
        unfold eqGuard
        cases v1 <;> cases v2 <;> first
          | (simp [binV] at hb; done)
          | (cases op <;> rfl)
      simp [execOp, ho, e1, e2, hg, bin_run hb t]
    · cases hc
  · cases hc
theorem run_equalIn_bool (d : Nat) {t : TypeId} (ht : P.underlying t = some .bool) (p q : Bool) : (Op.equalIn (d + 1) t (.bool p) (.bool q)).run P w = .ok (p == q) w := by
  simp only [Op.equalIn, Sem.run_bind, run_underlying ht, Result.andThen_ok]; rfl
theorem run_equal_bool {t : TypeId} (ht : P.underlying t = some .bool) (p q : Bool) : (Op.equal t (.bool p) (.bool q)).run P w = .ok (p == q) w := run_equalIn_bool 9999 ht p q
theorem op_eqB (h : HpR P w0 U ρ H top w) {neg : Bool} {t u : TypeId} {y z : Operand} (ho : o.op = .binOp (if neg then .neq else .eql) t y z u) (ht : P.underlying t = some .bool)
    (hv : VRL ρ vals [a y, a z]) (hr : opRun (.eqB neg y z) vals H top = some (x, H', top')) : Done P w0 U ρ o a w x H' top' := by
  refine opPure h rfl hr fun r hc => ?_
  change c_eqB neg vals [] = some r at hc
  unfold c_eqB at hc; split at hc
  · rename_i p q _
    obtain ⟨v1, v2, e, h1, h2⟩ := hv.inv2
    simp only [List.cons.injEq, and_true] at e
    obtain ⟨e1, e2⟩ := e
    cases h1; cases h2
    refine ⟨_, _, val_inv hc, ?_, .bool _⟩
    cases neg
    · simp only [execOp, ho, e1, e2]
      show (do let x ← (do (eqGuard .eql t y z (.bool p) (.bool q)); (do pure (Value.bool (← Op.equal t (.bool p) (.bool q)))) : Sem Value); pure (Next.value x) : Sem Next).run P w = _
      simp [eqGuard, run_equal_bool ht]
    · simp only [execOp, ho, e1, e2]
      show (do let x ← (do (eqGuard .neq t y z (.bool p) (.bool q)); (do pure (Value.bool (!(← Op.equal t (.bool p) (.bool q))))) : Sem Value); pure (Next.value x) : Sem Next).run P w = _
      simp [eqGuard, run_equal_bool ht]
  · cases hc
theorem op_not (h : HpR P w0 U ρ H top w) {t : TypeId} {y : Operand} (ho : o.op = .unOp .not t y) (hv : VRL ρ vals [a y])
    (hr : opRun (.not y) vals H top = some (x, H', top')) : Done P w0 U ρ o a w x H' top' := by
  refine opPure h rfl hr fun r hc => ?_
  change c_not vals [] = some r at hc
  unfold c_not at hc; split at hc
  · obtain ⟨v1, e, h1⟩ := hv.inv1
    simp only [List.cons.injEq, and_true] at e
    cases h1
    exact ⟨_, _, val_inv hc, by simp [execOp, ho, e, Op.unary], .bool _⟩
  · cases hc
theorem op_neg (h : HpR P w0 U ρ H top w) {t : TypeId} {y : Operand} (ho : o.op = .unOp .neg t y) (hv : VRL ρ vals [a y])
    (hr : opRun (.neg y) vals H top = some (x, H', top')) : Done P w0 U ρ o a w x H' top' := by
  refine opPure h rfl hr fun r hc => ?_
  change c_neg vals [] = some r at hc
  unfold c_neg at hc; split at hc
  · obtain ⟨v1, e, h1⟩ := hv.inv1
    simp only [List.cons.injEq, and_true] at e
    cases h1
    exact ⟨_, _, val_inv hc, by simp [execOp, ho, e, Op.unary, Op.intArith], .int _ _⟩
  · cases hc
theorem op_cmpl (h : HpR P w0 U ρ H top w) {t : TypeId} {y : Operand} (ho : o.op = .unOp .xor t y) (hv : VRL ρ vals [a y])
    (hr : opRun (.cmpl y) vals H top = some (x, H', top')) : Done P w0 U ρ o a w x H' top' := by
  refine opPure h rfl hr fun r hc => ?_
  change c_cmpl vals [] = some r at hc
  unfold c_cmpl at hc; split at hc
  · obtain ⟨v1, e, h1⟩ := hv.inv1
    simp only [List.cons.injEq, and_true] at e
    cases h1
    exact ⟨_, _, val_inv hc, by simp [execOp, ho, e, Op.unary, Op.intBits], .int _ _⟩
  · cases hc
theorem op_conv (h : HpR P w0 U ρ H top w) {s t : TypeId} {k : IntKind} {d : TypeDesc} {y : Operand} (ho : o.op = .convert s t y) (hs : P.underlying s = some d) (ht : P.underlying t = some (.int k)) (hv : VRL ρ vals [a y])
    (hr : opRun (.conv k y) vals H top = some (x, H', top')) : Done P w0 U ρ o a w x H' top' := by
  refine opPure h rfl hr fun r hc => ?_
  change c_conv k vals [] = some r at hc
  unfold c_conv at hc; split at hc
  · obtain ⟨v1, e, h1⟩ := hv.inv1
    simp only [List.cons.injEq, and_true] at e
    cases h1
    exact ⟨_, _, val_inv hc, by simp [execOp, ho, e, Go.convert, run_underlying hs, run_underlying ht, Conv.intToInt], .int _ _⟩
  · cases hc
theorem op_s2s (h : HpR P w0 U ρ H top w) {s t : TypeId} {y : Operand} (ho : o.op = .convert s t y) (hs : P.underlying s = some .string) (ht : P.underlying t = some .string) (hv : VRL ρ vals [a y])
    (hr : opRun (.s2s y) vals H top = some (x, H', top')) : Done P w0 U ρ o a w x H' top' := by
  refine opPure h rfl hr fun r hc => ?_
  change c_s2s vals [] = some r at hc
  unfold c_s2s at hc; split at hc
  · obtain ⟨v1, e, h1⟩ := hv.inv1
    simp only [List.cons.injEq, and_true] at e
    cases h1
    exact ⟨_, _, val_inv hc, by simp [execOp, ho, e, Go.convert, run_underlying hs, run_underlying ht], .string _⟩
  · cases hc
theorem op_iface (h : HpR P w0 U ρ H top w) {t : TypeId} {y : Operand} {d : TypeDesc} (ho : o.op = .makeInterface t y) (ht : P.underlying t = some d) (hd : ∀ ms, d ≠ .interface ms) (hv : VRL ρ vals [a y])
    (hr : opRun (.iface t y) vals H top = some (x, H', top')) : Done P w0 U ρ o a w x H' top' := by
  refine opPure h rfl hr fun r hc => ?_
  change c_iface t vals [] = some r at hc
  unfold c_iface at hc; split at hc
  · obtain ⟨v1, e, h1⟩ := hv.inv1
    simp only [List.cons.injEq, and_true] at e
    subst e
    refine ⟨_, _, val_inv hc, ?_, .iface _ h1⟩
    simp only [execOp, ho, Instr.makeInterface, Sem.run_bind, run_underlying ht, Result.andThen_ok]
    cases d <;> first | rfl | exact absurd rfl (hd _)
  · cases hc
theorem op_tassert (h : HpR P w0 U ρ H top w) {t s : TypeId} {z : Value} {y : Operand} {d : TypeDesc} {i : TypeInfo} (ho : o.op = .typeAssert y s t true) (ht : P.underlying t = some d) (hd : ∀ ms, d ≠ .interface ms)
    (hi : P.info? t = some i) (hz : i.zero = some z) (hf : flatV z = true) (hv : VRL ρ vals [a y])
    (hr : opRun (.tassert t z y) vals H top = some (x, H', top')) : Done P w0 U ρ o a w x H' top' := by
  refine opPure h rfl hr fun r hc => ?_
  change c_tassert t z vals [] = some r at hc
  unfold c_tassert at hc; split at hc
  · rename_i t' v _
    obtain ⟨v1, e, h1⟩ := hv.inv1
    simp only [List.cons.injEq, and_true] at e
    cases h1
    rename_i v' h1
    split at hc
    · rename_i htt
      refine ⟨_, .tuple #[v', .bool true], val_inv hc, ?_, .tuple (.cons h1 (.cons (.bool _) .nil))⟩
      simp only [execOp, ho, Instr.typeAssert, e, Sem.run_bind, run_underlying ht, Result.andThen_ok]
      cases d <;> first | exact absurd rfl (hd _) | (simp [htt]; done)
    · rename_i htt
      refine ⟨_, .tuple #[z, .bool false], val_inv hc, ?_, .tuple (.cons (VR.flat ρ z hf) (.cons (.bool _) .nil))⟩
      simp only [execOp, ho, Instr.typeAssert, e, Sem.run_bind, run_underlying ht, Result.andThen_ok]
      cases d <;> first | exact absurd rfl (hd _) | (simp [htt, run_zeroValue' hi hz]; done)
  · obtain ⟨v1, e, h1⟩ := hv.inv1
    simp only [List.cons.injEq, and_true] at e
    cases h1
    refine ⟨_, .tuple #[z, .bool false], val_inv hc, ?_, .tuple (.cons (VR.flat ρ z hf) (.cons (.bool _) .nil))⟩
    simp only [execOp, ho, Instr.typeAssert, e, Sem.run_bind, run_underlying ht, Result.andThen_ok]
    cases d <;> first | exact absurd rfl (hd _) | (simp [run_zeroValue' hi hz]; done)
  · cases hc
theorem op_mkFunc (h : HpR P w0 U ρ H top w) {f : Nat} {fs cs : Array Operand} (ho : o.op = .makeFunc (.func f) fs cs) (hv : VRL ρ vals ((fs.toList ++ cs.toList).map a))
    (hr : opRun (.mkFunc f fs.toList cs.toList) vals H top = some (x, H', top')) : Done P w0 U ρ o a w x H' top' := by
  refine opPure h rfl hr fun r hc => ?_
  change c_mkFunc f fs.toList.length vals [] = some r at hc
  unfold c_mkFunc at hc; split at hc
  · refine ⟨_, .func (.func f) (fs.map a) (cs.map a), val_inv hc, by simp [execOp, ho, Instr.makeFunc], ?_⟩
    have e1 : fs.map a = ⟨((fs.toList ++ cs.toList).map a).take fs.toList.length⟩ := by
      apply Array.ext'; simp
    have e2 : cs.map a = ⟨((fs.toList ++ cs.toList).map a).drop fs.toList.length⟩ := by
      apply Array.ext'; simp
    rw [e1, e2]
    exact .func f (hv.take _) (hv.drop _)
  · rename_i hx; exact absurd rfl hx
theorem op_extract (h : HpR P w0 U ρ H top w) {i : Nat} {y : Operand} (ho : o.op = .extract y i) (hv : VRL ρ vals [a y])
    (hr : opRun (.extract i y) vals H top = some (x, H', top')) : Done P w0 U ρ o a w x H' top' := by
  refine opPure h rfl hr fun r hc => ?_
  change c_extract i vals [] = some r at hc
  unfold c_extract at hc; split at hc
  · obtain ⟨v1, e, h1⟩ := hv.inv1
    simp only [List.cons.injEq, and_true] at e
    cases h1
    rename_i h1
    split at hc
    · rename_i v hg
      obtain ⟨v', g', hvr⟩ := h1.get hg
      exact ⟨_, v', val_inv hc, by simp [execOp, ho, e, Instr.extract, g'], hvr⟩
    · cases hc
  · cases hc
theorem op_lenS (h : HpR P w0 U ρ H top w) {t : TypeId} {y : Operand} (ho : o.op = .call ⟨.builtin .len, #[y], #[t]⟩) (ht : P.underlying t = some .string) (hv : VRL ρ vals [a y])
    (hr : opRun (.lenS y) vals H top = some (x, H', top')) : Done P w0 U ρ o a w x H' top' := by
  refine opPure h rfl hr fun r hc => ?_
  change c_lenS vals [] = some r at hc
  unfold c_lenS at hc; split at hc
  · obtain ⟨v1, e, h1⟩ := hv.inv1
    simp only [List.cons.injEq, and_true] at e
    cases h1
    refine ⟨_, _, val_inv hc, ?_, .int _ _⟩
    simp [execOp, ho, resolve, invoke, Go.builtin, Builtin.len_, e, run_underlying ht, goInt]
  · cases hc
theorem op_lenL (h : HpR P w0 U ρ H top w) {t e : TypeId} {y : Operand} (ho : o.op = .call ⟨.builtin .len, #[y], #[t]⟩) (ht : P.underlying t = some (.slice e)) (hv : VRL ρ vals [a y])
    (hr : opRun (.lenL y) vals H top = some (x, H', top')) : Done P w0 U ρ o a w x H' top' := by
  refine opPure h rfl hr fun r hc => ?_
  change c_lenL vals [] = some r at hc
  unfold c_lenL at hc; split at hc
  · obtain ⟨v1, e, h1⟩ := hv.inv1
    simp only [List.cons.injEq, and_true] at e
    refine ⟨_, _, val_inv hc, ?_, .int _ _⟩
    cases h1 <;> simp [execOp, ho, resolve, invoke, Go.builtin, Builtin.len_, e, run_underlying ht, goInt]
  · obtain ⟨v1, e, h1⟩ := hv.inv1
    simp only [List.cons.injEq, and_true] at e
    refine ⟨_, _, val_inv hc, ?_, .int _ _⟩
    cases h1 with
    | tnil => simp [execOp, ho, resolve, invoke, Go.builtin, Builtin.len_, e, run_underlying ht, goInt]
    | tsl m h hv' =>
      rcases hv' with ⟨rfl, rfl⟩ | ⟨c, rfl, _⟩ <;> simp [execOp, ho, resolve, invoke, Go.builtin, Builtin.len_, e, run_underlying ht, goInt]
  · cases hc
theorem op_lenN (h : HpR P w0 U ρ H top w) {t : TypeId} {n : Nat} {e : TypeId} {y : Operand} (ho : o.op = .call ⟨.builtin .len, #[y], #[t]⟩) (ht : P.underlying t = some (.array n e) ∨ ∃ q, P.underlying t = some (.pointer q) ∧ P.underlying q = some (.array n e)) (hv : VRL ρ vals [])
    (hr : opRun (.lenN n) vals H top = some (x, H', top')) : Done P w0 U ρ o a w x H' top' := by
  refine opPure h rfl hr fun r hc => ?_
  change c_lenN n vals [] = some r at hc
  unfold c_lenN at hc; split at hc
  · refine ⟨_, _, val_inv hc, ?_, .int _ _⟩
    rcases ht with ht | ⟨q, ht, hq⟩
    · simp only [execOp, ho, resolve, invoke, Go.builtin, Builtin.len_, Sem.run_bind, Sem.run_pure, Result.andThen_ok, List.map_toArray, List.map, List.getElem?_toArray, List.getElem?_cons_zero, run_underlying ht]
      cases a y <;> rfl
    · simp only [execOp, ho, resolve, invoke, Go.builtin, Builtin.len_, Sem.run_bind, Sem.run_pure, Result.andThen_ok, List.map_toArray, List.map, List.getElem?_toArray, List.getElem?_cons_zero, run_underlying ht]
      cases a y <;> simp [run_underlying hq, goInt]
  · cases hc
theorem op_fieldA (h : HpR P w0 U ρ H top w) {t : TypeId} {fs : Array Field} {fd : Field} {f : Nat} {i : TypeInfo} {y : Operand} (ho : o.op = .fieldAddr t y f) (ht : P.underlying t = some (.struct fs)) (hf : fs[f]? = some fd)
    (hi : P.info? fd.type = some i) (hs : i.size ≠ 0) (hv : VRL ρ vals [a y]) (hr : opRun (.fieldA fd.offset y) vals H top = some (x, H', top')) : Done P w0 U ρ o a w x H' top' := by
  refine opPure h rfl hr fun r hc => ?_
  change c_fieldA fd.offset vals [] = some r at hc
  unfold c_fieldA at hc; split at hc
  · obtain ⟨v1, e, h1⟩ := hv.inv1
    simp only [List.cons.injEq, and_true] at e
    cases h1
    rename_i q _ l hl
    refine ⟨_, .pointer (some ⟨l.blk, l.sh + (q + fd.offset), none⟩), val_inv hc, ?_, .ptr hl⟩
    simp only [execOp, ho, Instr.fieldAt, e, Sem.run_bind, run_underlying ht, Result.andThen_ok, hf, Instr.sureAddr, fieldPlace, Sem.run_pure, run_size hi, hs, ↓reduceIte, Addr.add]
    by_cases h0 : fd.offset = 0 <;> simp [h0, Nat.add_assoc]
  · cases hc
theorem op_part1 (h : HpR P w0 U ρ H top w) {t : TypeId} {fs : Array Field} {fd : Field} {f : Nat} {d : TypeDesc} {y : Operand} (ho : o.op = .field t y f) (ht : P.underlying t = some (.struct fs)) (hf : fs[f]? = some fd)
    (hd : P.underlying fd.type = some d) (ha : isAggB P fd.type = false) (hv : VRL ρ vals [a y]) (hr : opRun (.part1 fd.offset y) vals H top = some (x, H', top')) : Done P w0 U ρ o a w x H' top' := by
  refine opPure h rfl hr fun r hc => ?_
  change c_part1 fd.offset vals [] = some r at hc
  unfold c_part1 at hc; split at hc
  · obtain ⟨v1, e, h1⟩ := hv.inv1
    simp only [List.cons.injEq, and_true] at e
    cases h1
    rename_i h1
    split at hc
    · rename_i v hg
      obtain ⟨v', g', hvr⟩ := h1.get hg
      refine ⟨_, v', val_inv hc, ?_, hvr⟩
      simp [execOp, ho, Instr.field, e, run_underlying ht, hf, asAgg, part, run_isAgg' hd, ha, g']
    · cases hc
  · cases hc
theorem op_partN (h : HpR P w0 U ρ H top w) {t : TypeId} {fs : Array Field} {fd : Field} {f : Nat} {i : TypeInfo} {d : TypeDesc} {y : Operand} (ho : o.op = .field t y f) (ht : P.underlying t = some (.struct fs)) (hf : fs[f]? = some fd)
    (hd : P.underlying fd.type = some d) (hi : P.info? fd.type = some i) (ha : isAggB P fd.type = true) (hv : VRL ρ vals [a y]) (hr : opRun (.partN fd.offset i.size y) vals H top = some (x, H', top')) : Done P w0 U ρ o a w x H' top' := by
  refine opPure h rfl hr fun r hc => ?_
  change c_partN fd.offset i.size vals [] = some r at hc
  unfold c_partN at hc; split at hc
  · obtain ⟨v1, e, h1⟩ := hv.inv1
    simp only [List.cons.injEq, and_true] at e
    cases h1
    rename_i cs' h1
    split at hc
    · refine ⟨_, .agg ⟨(cs'.drop fd.offset).take i.size⟩, val_inv hc, ?_, .agg ((h1.drop _).take _)⟩
      simp [execOp, ho, Instr.field, e, run_underlying ht, hf, asAgg, part, run_isAgg' hd, ha, run_size hi]
    · cases hc
  · cases hc
theorem op_idxAA (h : HpR P w0 U ρ H top w) {t e : TypeId} {n : Nat} {j : TypeInfo} {y z : Operand} (ho : o.op = .indexAddr t y z) (ht : P.underlying t = some (.array n e)) (hj : P.info? e = some j)
    (hv : VRL ρ vals [a y, a z]) (hr : opRun (.idxAA n j.size y z) vals H top = some (x, H', top')) : Done P w0 U ρ o a w x H' top' := by
  refine opPure h rfl hr fun r hc => ?_
  change c_idxAA n j.size vals [] = some r at hc
  unfold c_idxAA at hc; split at hc
  · obtain ⟨v1, v2, e, h1, h2⟩ := hv.inv2
    simp only [List.cons.injEq, and_true] at e
    cases h1; cases h2
    rename_i b q k i _ l hl
    split at hc
    · rename_i hin
      refine ⟨_, .pointer (some ⟨l.blk, l.sh + (q + i.toNat * j.size), none⟩), val_inv hc, ?_, .ptr hl⟩
      simp only [execOp, ho, Instr.indexAt, e.1, e.2, asIntOf, Sem.run_bind, Sem.run_pure, run_underlying ht, Result.andThen_ok, Instr.sureAddr, if_pos hin, run_size hj, Addr.add]
      by_cases h0 : i.toNat * j.size = 0 <;> simp [h0, Nat.add_assoc]
    · cases hc
  · cases hc
theorem op_idxAL (h : HpR P w0 U ρ H top w) {t e : TypeId} {j : TypeInfo} {y z : Operand} (ho : o.op = .indexAddr t y z) (ht : P.underlying t = some (.slice e)) (hj : P.info? e = some j)
    (hv : VRL ρ vals [a y, a z]) (hr : opRun (.idxAL j.size y z) vals H top = some (x, H', top')) : Done P w0 U ρ o a w x H' top' := by
  refine opPure h rfl hr fun r hc => ?_
  change c_idxAL j.size vals [] = some r at hc
  unfold c_idxAL at hc; split at hc
  · obtain ⟨v1, v2, e, h1, h2⟩ := hv.inv2
    simp only [List.cons.injEq, and_true] at e
    cases h2
    cases h1
    · rename_i b q n sz k i _ c l hl hn hcap
      split at hc
      · rename_i hin
        refine ⟨_, .pointer (some ⟨l.blk, l.sh + (q + i.toNat * j.size), none⟩), val_inv hc, ?_, .ptr hl⟩
        simp only [execOp, ho, Instr.indexAt, e.1, e.2, asIntOf, Sem.run_bind, Sem.run_pure, run_underlying ht, Result.andThen_ok, if_pos hin, run_size hj, Addr.add]
        by_cases h0 : i.toNat * j.size = 0 <;> simp [h0, Nat.add_assoc]
      · cases hc
    · split at hc
      · omega
      · cases hc
  · cases hc
theorem op_idxV1 (h : HpR P w0 U ρ H top w) {t e : TypeId} {n : Nat} {j : TypeInfo} {d : TypeDesc} {y z : Operand} (ho : o.op = .index t y z) (ht : P.underlying t = some (.array n e)) (hj : P.info? e = some j)
    (hd : P.underlying e = some d) (ha : isAggB P e = false) (h1j : j.size = 1) (hv : VRL ρ vals [a y, a z]) (hr : opRun (.idxV1 n y z) vals H top = some (x, H', top')) : Done P w0 U ρ o a w x H' top' := by
  refine opPure h rfl hr fun r hc => ?_
  change c_idxV1 n vals [] = some r at hc
  unfold c_idxV1 at hc; split at hc
  · obtain ⟨v1, v2, e, h1, h2⟩ := hv.inv2
    simp only [List.cons.injEq, and_true] at e
    cases h1; cases h2
    rename_i h1
    split at hc
    · rename_i hin
      split at hc
      · rename_i v hg
        obtain ⟨v', g', hvr⟩ := h1.get hg
        refine ⟨_, v', val_inv hc, ?_, hvr⟩
        simp [execOp, ho, Instr.index, e.1, e.2, asIntOf, run_underlying ht, hin, run_size hj, h1j, part, run_isAgg' hd, ha, g']
      · cases hc
    · cases hc
  · cases hc
theorem op_idxVN (h : HpR P w0 U ρ H top w) {t e : TypeId} {n : Nat} {j : TypeInfo} {d : TypeDesc} {y z : Operand} (ho : o.op = .index t y z) (ht : P.underlying t = some (.array n e)) (hj : P.info? e = some j)
    (hd : P.underlying e = some d) (ha : isAggB P e = true) (hv : VRL ρ vals [a y, a z]) (hr : opRun (.idxVN n j.size y z) vals H top = some (x, H', top')) : Done P w0 U ρ o a w x H' top' := by
  refine opPure h rfl hr fun r hc => ?_
  change c_idxVN n j.size vals [] = some r at hc
  unfold c_idxVN at hc; split at hc
  · obtain ⟨v1, v2, e, h1, h2⟩ := hv.inv2
    simp only [List.cons.injEq, and_true] at e
    cases h1; cases h2
    rename_i cs k i _ cs' h1
    split at hc
    · rename_i hin
      refine ⟨_, .agg ⟨(cs'.drop (i.toNat * j.size)).take j.size⟩, val_inv hc, ?_, .agg ((h1.drop _).take _)⟩
      simp [execOp, ho, Instr.index, e.1, e.2, asIntOf, run_underlying ht, hin.1, hin.2.1, run_size hj, part, run_isAgg' hd, ha]
    · cases hc
  · cases hc
theorem op_idxS (h : HpR P w0 U ρ H top w) {t : TypeId} {y z : Operand} (ho : o.op = .index t y z) (ht : P.underlying t = some .string)
    (hv : VRL ρ vals [a y, a z]) (hr : opRun (.idxS y z) vals H top = some (x, H', top')) : Done P w0 U ρ o a w x H' top' := by
  refine opPure h rfl hr fun r hc => ?_
  change c_idxS vals [] = some r at hc
  unfold c_idxS at hc; split at hc
  · obtain ⟨v1, v2, e, h1, h2⟩ := hv.inv2
    simp only [List.cons.injEq, and_true] at e
    cases h1; cases h2
    rename_i s k i _
    split at hc
    · rename_i hin
      split at hc
      · rename_i b hg
        have hg' : s[i.toNat]? = some b := by
          rw [← hg]; simp [getElem?_def]; rfl
        refine ⟨_, _, val_inv hc, ?_, .int _ _⟩
        simp [execOp, ho, Instr.index, e.1, e.2, asIntOf, run_underlying ht, hin, hg']
      · cases hc
    · cases hc
  · cases hc
end
end Go.Vm
