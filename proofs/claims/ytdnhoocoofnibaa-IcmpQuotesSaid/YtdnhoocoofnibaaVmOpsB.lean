import Derived.Test.YtdnhoocoofnibaaVmOpsA
namespace Go.Vm
open Go Go.RowKit
section
variable {P : Program} {w0 : World} {U : UG} {ρ : Ren} {o : Oper} {a : Operand → Value} {w : World} {H : Hp} {top : Nat} [NG U top]
  {x : Option Value} {H' : Hp} {top' : Nat} {vals : List Value}
theorem bound_run {k : IntKind} {i : Int} {y : Nat} {c : BoundsCode} (h0 : 0 ≤ i) (h1 : i ≤ y) : (Instr.sliceBound (.int k i) y c).run P w = .ok i.toNat w := by
  simp [Instr.sliceBound, asIntOf, h0, h1]
theorem loHi_run {bs : List Value} {lo hi : Option Operand} {n cap l r : Nat} (hbs : VRL ρ bs ((lo.toList ++ hi.toList).map a)) (hl : loHi n lo.isSome hi.isSome bs = some (l, r)) (hn : n ≤ cap) (isS : Bool) :
    (Instr.sliceBounds isS n cap (lo.map a) (hi.map a) none).run P w = .ok (l, r, cap) w ∧ l ≤ r ∧ r ≤ n := by
  unfold loHi at hl
  split at hl
  · rename_i h1 h2
    cases lo <;> cases hi <;> simp at h1 h2
    cases hl
    exact ⟨by simp [Instr.sliceBounds], Nat.zero_le _, Nat.le_refl _⟩
  · rename_i h1 h2
    cases lo <;> cases hi <;> simp at h1 h2
    obtain ⟨v1, e, h3⟩ := hbs.inv1
    simp only [Option.toList, List.append_nil, List.map, List.cons.injEq, and_true] at e
    cases h3
    split at hl
    · rename_i hh
      cases hl
      refine ⟨?_, by omega, Nat.le_refl _⟩
      simp [Instr.sliceBounds, e, bound_run hh.1 hh.2]
    · cases hl
  · rename_i h1 h2
    cases lo <;> cases hi <;> simp at h1 h2
    obtain ⟨v1, e, h3⟩ := hbs.inv1
    simp only [Option.toList, List.nil_append, List.map, List.cons.injEq, and_true] at e
    cases h3
    split at hl
    · rename_i hh
      cases hl
      refine ⟨?_, by omega, by omega⟩
      simp [Instr.sliceBounds, e, bound_run hh.1 (show _ ≤ (cap : Int) by omega)]
    · cases hl
  · rename_i h1 h2
    cases lo <;> cases hi <;> simp at h1 h2
    obtain ⟨v1, v2, e, h3, h4⟩ := hbs.inv2
    simp only [Option.toList, List.cons_append, List.nil_append, List.map, List.cons.injEq, and_true] at e
    cases h3; cases h4
    split at hl
    · rename_i hh
      cases hl
      refine ⟨?_, by omega, by omega⟩
      simp only [Instr.sliceBounds, Option.map, e.1, e.2, Sem.run_bind, Sem.run_pure, Result.andThen_ok, bound_run hh.1 (show _ ≤ (cap : Int) by omega), bound_run hh.2.2.1 hh.2.2.2]
    · cases hl
  · cases hl
theorem op_sliceS (h : HpR P w0 U ρ H top w) {t : TypeId} {y : Operand} {lo hi : Option Operand} (ho : o.op = .slice t y lo hi none) (ht : P.underlying t = some .string)
    (hv : VRL ρ vals ((y :: (lo.toList ++ hi.toList)).map a)) (hr : opRun (.sliceS y lo hi) vals H top = some (x, H', top')) : Done P w0 U ρ o a w x H' top' := by
  refine opPure h rfl hr fun r hc => ?_
  change c_sliceS lo.isSome hi.isSome vals [] = some r at hc
  unfold c_sliceS at hc; split at hc
  · rename_i s bs _
    obtain ⟨v1, l', e, h1, h2⟩ := hv.inv
    simp only [List.map_cons, List.cons.injEq] at e
    cases h1
    split at hc
    · rename_i l r hl
      obtain ⟨e1, e2⟩ := e
      rw [← e2] at h2
      obtain ⟨hb, hlr, hrn⟩ := loHi_run (P := P) (w := w) h2 hl (Nat.le_refl _) false
      refine ⟨_, _, val_inv hc, ?_, .string _⟩
      have hsz : s.size = s.data.toList.length := by simp
      simp only [execOp, ho, Instr.sliceAt, Sem.run_bind, run_underlying ht, Result.andThen_ok, e1, Option.map_none]
      simp only [Instr.slice, Sem.run_bind, run_underlying ht, Result.andThen_ok, hsz, hb, Option.isSome_none, Bool.false_eq_true, ↓reduceIte, Sem.run_pure]
      congr 3
      apply ByteArray.ext
      apply Array.ext'
      simp [ByteArray.data_extract]
    · cases hc
  · cases hc
theorem Value.nilSlice {v' : Value} {n c : Nat} (h : VR ρ (.slice none n c) v') : n = 0 ∧ v' = .slice none 0 0 := by cases h; exact ⟨rfl, rfl⟩
theorem op_sliceL (h : HpR P w0 U ρ H top w) {t e : TypeId} {j : TypeInfo} {y : Operand} {lo hi : Option Operand} (ho : o.op = .slice t y lo hi none) (ht : P.underlying t = some (.slice e)) (hj : P.info? e = some j)
    (hv : VRL ρ vals ((y :: (lo.toList ++ hi.toList)).map a)) (hr : opRun (.sliceL j.size y lo hi) vals H top = some (x, H', top')) : Done P w0 U ρ o a w x H' top' := by
  refine opPure h rfl hr fun r hc => ?_
  change c_sliceL j.size lo.isSome hi.isSome vals [] = some r at hc
  unfold c_sliceL at hc; split at hc
  · rename_i c bs _
    obtain ⟨v1, l', e, h1, h2⟩ := hv.inv
    simp only [List.map_cons, List.cons.injEq] at e
    obtain ⟨e1, e2⟩ := e
    obtain ⟨_, rfl⟩ := Value.nilSlice h1
    rw [← e2] at h2
    split at hc
    · rename_i lr hl
      obtain ⟨l, r'⟩ := lr
      obtain ⟨hb, hlr, hrn⟩ := loHi_run (P := P) (w := w) h2 hl (Nat.le_refl _) true
      refine ⟨_, _, val_inv hc, ?_, .nils _⟩
      obtain rfl : r' = 0 := by omega
      obtain rfl : l = 0 := by omega
      simp only [execOp, ho, Instr.sliceAt, Sem.run_bind, run_underlying ht, Result.andThen_ok, e1, Option.map_none]
      simp only [Instr.slice, Sem.run_bind, run_underlying ht, Result.andThen_ok, hb, run_size hj, Sem.run_pure]
      simp
    · cases hc
  · rename_i b q n sz bs _
    obtain ⟨v1, l', e, h1, h2⟩ := hv.inv
    simp only [List.map_cons, List.cons.injEq] at e
    obtain ⟨e1, e2⟩ := e
    rw [← e2] at h2
    split at hc
    · rename_i hsz
      split at hc
      · rename_i l r' hl
        subst hsz
        cases h1 with
        | @slice _ _ _ _ c ll hll hn hcap =>
          obtain ⟨hb, hlr, hrn⟩ := loHi_run (P := P) (w := w) h2 hl hn true
          by_cases hcl : c = l
          · subst hcl
            have : r' - c = 0 := by omega
            rw [this] at hc
            refine ⟨_, .slice (some ⟨ll.blk, ll.sh + q, none⟩) 0 0, val_inv hc, ?_, .slice0 _⟩
            simp only [execOp, ho, Instr.sliceAt, Sem.run_bind, run_underlying ht, Result.andThen_ok, e1, Option.map_none]
            simp only [Instr.slice, Sem.run_bind, run_underlying ht, Result.andThen_ok, hb, run_size hj, Sem.run_pure]
            simp [this]
          · refine ⟨_, .slice (some ⟨ll.blk, ll.sh + (q + l * j.size), none⟩) (r' - l) (c - l), val_inv hc, ?_, .slice hll (by omega) ?_⟩
            · simp only [execOp, ho, Instr.sliceAt, Sem.run_bind, run_underlying ht, Result.andThen_ok, e1, Option.map_none]
              simp only [Instr.slice, Sem.run_bind, run_underlying ht, Result.andThen_ok, hb, run_size hj, Sem.run_pure, if_neg hcl, Option.map_some, Addr.add]
              by_cases h0 : l * j.size = 0 <;> simp [h0, Nat.add_assoc]
            · have : l * j.size + (c - l) * j.size = c * j.size := by rw [← Nat.add_mul]; congr 1; omega
              omega
        | slice0 ad =>
          obtain ⟨hb, hlr, hrn⟩ := loHi_run (P := P) (w := w) h2 hl (Nat.le_refl 0) true
          obtain rfl : r' = 0 := by omega
          obtain rfl : l = 0 := by omega
          refine ⟨_, .slice ad 0 0, val_inv hc, ?_, .slice0 _⟩
          simp only [execOp, ho, Instr.sliceAt, Sem.run_bind, run_underlying ht, Result.andThen_ok, e1, Option.map_none]
          simp only [Instr.slice, Sem.run_bind, run_underlying ht, Result.andThen_ok, hb, run_size hj, Sem.run_pure]
          simp
      · cases hc
    · cases hc
  · cases hc
theorem foldV_run {mx : Bool} (f : Value → Value → Sem Value) (hf : ∀ k p q, f (.int k p) (.int k q) = pure (.int k (if mx then (if q > p then q else p) else (if q < p then q else p)))) :
    ∀ {l l' : List Value} {k : IntKind} {n : Int} {v : Value}, VRL ρ l l' → foldV mx (.int k n) l = some v → (l'.foldlM f (.int k n)).run P w = .ok v w ∧ ∃ m, v = .int k m
  | [], _, k, n, v, .nil, he => by
    simp only [foldV, Option.some.injEq] at he
    subst he
    exact ⟨rfl, _, rfl⟩
  | y :: l, _, k, n, v, .cons hy hl, he => by
    simp only [foldV] at he
    split at he
    · rename_i z hz
      cases y <;> simp only [minmaxV] at hz <;> first | (cases hz; done) | skip
      rename_i k' m
      split at hz
      · rename_i hk
        subst hk
        cases hz
        cases hy
        obtain ⟨h1, h2⟩ := foldV_run f hf hl he
        refine ⟨?_, h2⟩
        rw [List.foldlM_cons, hf]
        simpa using h1
      · cases hz
    · cases he
theorem op_minmax (h : HpR P w0 U ρ H top w) {mx : Bool} {xs : Array Operand} {ts : Array TypeId} (ho : o.op = .call ⟨.builtin (if mx then .max else .min), xs, ts⟩)
    (hv : VRL ρ vals (xs.toList.map a)) (hr : opRun (.minmax mx xs.toList) vals H top = some (x, H', top')) : Done P w0 U ρ o a w x H' top' := by
  refine opPure h rfl hr fun r hc => ?_
  change c_minmax mx vals [] = some r at hc
  unfold c_minmax at hc; split at hc
  · rename_i k n us _
    obtain ⟨v1, l', e, h1, h2⟩ := hv.inv
    split at hc
    · rename_i z hz
      cases h1
      cases mx
      · obtain ⟨hrun, m, rfl⟩ := foldV_run (P := P) (w := w) (ρ := ρ) (mx := false) Builtin.min2 (fun k p q => by simp [Builtin.min2]) h2 hz
        refine ⟨_, _, val_inv hc, ?_, .int _ _⟩
        simp only [execOp, ho, resolve, invoke, Go.builtin, Builtin.min_, Sem.run_bind, Sem.run_pure, Result.andThen_ok, Array.toList_map, e, Bool.false_eq_true, ↓reduceIte, hrun]
      · obtain ⟨hrun, m, rfl⟩ := foldV_run (P := P) (w := w) (ρ := ρ) (mx := true) Builtin.max2 (fun k p q => by simp [Builtin.max2]) h2 hz
        refine ⟨_, _, val_inv hc, ?_, .int _ _⟩
        simp only [execOp, ho, resolve, invoke, Go.builtin, Builtin.max_, Sem.run_bind, Sem.run_pure, Result.andThen_ok, Array.toList_map, e, ↓reduceIte, hrun]
    · cases hc
  · cases hc
def nilCase (k : Nat) (d : TypeDesc) (v : Value) : Prop :=
  match k, d with
  | 0, .pointer _ => v = .pointer none
  | 1, .slice _ => v = .slice none 0 0
  | 2, .func .. => v = .nilFunc
  | 3, .interface _ => v = .nilIface
  | _, _ => False
theorem nil_equalIn {k : Nat} {d : TypeDesc} {t : TypeId} {v v' z : Value} {b : Bool} (ht : P.underlying t = some d) (hk : nilCase k d z) (hvr : VR ρ v v') (hb : nilV k v = some b) (m : Nat) :
    (Op.equalIn (m + 1) t v' z).run P w = .ok b w := by
  unfold nilV at hb
  unfold nilCase at hk
  split at hk <;> first | exact hk.elim | subst hk
  all_goals
    split at hb
    all_goals first
      | (cases hb; done)
      | (exfalso; omega)
      | (cases hvr <;> (cases hb; simp only [Op.equalIn, Sem.run_bind, run_underlying ht, Result.andThen_ok]; rfl))
theorem nil_binOp {k : Nat} {d : TypeDesc} {t : TypeId} {v v' z : Value} {b : Bool} (hk : nilCase k d z) (hvr : VR ρ v v') (hb : nilV k v = some b) :
    Go.binOp .eql t v' z = (do pure (Value.bool (← Op.equal t v' z))) ∧ Go.binOp .neq t v' z = (do pure (Value.bool (!(← Op.equal t v' z)))) := by
  unfold nilCase at hk
  split at hk <;> first | exact hk.elim | subst hk
  all_goals
    cases hvr <;> first | exact ⟨rfl, rfl⟩ | (simp [nilV] at hb; done)
theorem nil_guard {k : Nat} {d : TypeDesc} {t : TypeId} {v v' z : Value} {b : Bool} {y : Operand} {op : BinOp} (hk : nilCase k d z) (hvr : VR ρ v v') (hb : nilV k v = some b) :
    (eqGuard op t y (.const z) v' z).run P w = .ok () w := by
  unfold nilCase at hk
  split at hk <;> first | exact hk.elim | subst hk
  all_goals
    cases hvr <;> first | (simp [nilV] at hb; done) | (cases op <;> simp [eqGuard])
theorem op_isNil (h : HpR P w0 U ρ H top w) {k : Nat} {neg : Bool} {t u : TypeId} {d : TypeDesc} {y : Operand} {z : Value} (ho : o.op = .binOp (if neg then .neq else .eql) t y (.const z) u) (ht : P.underlying t = some d)
    (hk : nilCase k d z) (hz : a (.const z) = z)
    (hv : VRL ρ vals [a y]) (hr : opRun (.isNil k neg y) vals H top = some (x, H', top')) : Done P w0 U ρ o a w x H' top' := by
  refine opPure h rfl hr fun r hc => ?_
  change c_isNil k neg vals [] = some r at hc
  unfold c_isNil at hc; split at hc
  · rename_i v _
    obtain ⟨v1, e, h1⟩ := hv.inv1
    simp only [List.cons.injEq, and_true] at e
    split at hc
    · rename_i b hb
      refine ⟨_, _, val_inv hc, ?_, .bool _⟩
      have e1 : (Op.equal t v1 z).run P w = .ok b w := nil_equalIn ht hk h1 hb 9999
      obtain ⟨e2, e3⟩ := nil_binOp (t := t) hk h1 hb
      have e4 := fun op => nil_guard (P := P) (w := w) (t := t) (y := y) (op := op) hk h1 hb
      cases neg <;> simp [execOp, ho, e, hz, e1, e2, e3, e4]
    · cases hc
  · cases hc
end
end Go.Vm
