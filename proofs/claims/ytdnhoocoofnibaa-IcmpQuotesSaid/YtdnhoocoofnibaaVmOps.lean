import Derived.Test.YtdnhoocoofnibaaVmHeap
import Derived.WalkSpells
namespace Go.Vm
open Go Go.RowKit
theorem VRL.inv {ρ : Ren} {v : Value} {l r : List Value} (h : VRL ρ (v :: l) r) : ∃ v' l', r = v' :: l' ∧ VR ρ v v' ∧ VRL ρ l l' := by
  cases h with | cons h hl => exact ⟨_, _, rfl, h, hl⟩
theorem VRL.inv0 {ρ : Ren} {r : List Value} (h : VRL ρ [] r) : r = [] := by cases h; rfl
theorem VRL.inv1 {ρ : Ren} {v : Value} {r : List Value} (h : VRL ρ [v] r) : ∃ v', r = [v'] ∧ VR ρ v v' := by
  obtain ⟨v', l', rfl, a, b⟩ := h.inv; rw [b.inv0]; exact ⟨_, rfl, a⟩
theorem VRL.inv2 {ρ : Ren} {u v : Value} {r : List Value} (h : VRL ρ [u, v] r) : ∃ u' v', r = [u', v'] ∧ VR ρ u u' ∧ VR ρ v v' := by
  obtain ⟨u', l', rfl, a, b⟩ := h.inv; obtain ⟨v', rfl, c⟩ := b.inv1; exact ⟨_, _, rfl, a, c⟩
theorem VRL.inv3 {ρ : Ren} {u v x : Value} {r : List Value} (h : VRL ρ [u, v, x] r) : ∃ u' v' x', r = [u', v', x'] ∧ VR ρ u u' ∧ VR ρ v v' ∧ VR ρ x x' := by
  obtain ⟨u', l', rfl, a, b⟩ := h.inv; obtain ⟨v', x', rfl, c, d⟩ := b.inv2; exact ⟨_, _, _, rfl, a, c, d⟩
section
variable (P : Program) (w0 : World) (U : UG) (ρ : Ren)
def Done (o : Oper) (a : Operand → Value) (w : World) (v : Option Value) (H' : Hp) (top' : Nat) : Prop :=
  ∃ (ρ' : Ren) (w' : World) (nx : Next), (execOp a o).run P w = .ok nx w' ∧ Ext ρ ρ' ∧ HpR P w0 U ρ' H' top' w' ∧
    match v with
    | some v => ∃ v', nx = .value v' ∧ VR ρ' v v'
    | none => nx = .skip
end
section
variable {P : Program} {w0 : World} {U : UG} {ρ : Ren} {o : Oper} {a : Operand → Value} {w : World} {H : Hp} {top : Nat} [NG U top]
theorem Done.pure {P : Program} {w0 : World} {U : UG} {ρ : Ren} {o : Oper} {a : Operand → Value} {w : World} {H : Hp} {top : Nat} (h : HpR P w0 U ρ H top w) {v v' : Value} (hr : (execOp a o).run P w = .ok (.value v') w) (hv : VR ρ v v') : Done P w0 U ρ o a w (some v) H top :=
  ⟨ρ, w, _, hr, Ext.refl ρ, h, _, rfl, hv⟩
theorem Done.fresh (h : HpR P w0 U ρ H top w) {v v' : Value} {w' : World} {ob : VObj} {ext : Nat} (hr : (execOp a o).run P w = .ok (.value v') w')
    (hk : Keep U w0 w') (hb : ∀ k, k < w.heap.size → w'.heap[k]? = w.heap[k]?)
    (ho : ObjR P (upd ρ top ⟨w.heap.size, 0, ext⟩) w' ⟨w.heap.size, 0, ext⟩ ob) (hv : VR (upd ρ top ⟨w.heap.size, 0, ext⟩) v v') :
    Done P w0 U ρ o a w (some v) (aput H top ob) (top + 1) :=
  ⟨_, w', _, hr, Ext.upd (h.off0), h.new hk hb ho (.inl (Nat.le_refl _)), _, rfl, hv⟩
theorem cellsOf_eq {t : TypeId} {i : TypeInfo} (h : P.info? t = some i) : P.cellsOf t = i.size := by simp [Program.cellsOf, h]
theorem run_size {t : TypeId} {i : TypeInfo} (h : P.info? t = some i) (w : World) : (sizeOf t).run P w = .ok i.size w := by
  rw [run_sizeOf (w := w) h, cellsOf_eq h]
theorem run_zeroValue' {t : TypeId} {i : TypeInfo} {z : Value} (h : P.info? t = some i) (hz : i.zero = some z) (w : World) : (zeroValue t).run P w = .ok z w := by
  simp [zeroValue, run_typeInfo (w := w) h, hz]
theorem run_isAgg' {t : TypeId} {d : TypeDesc} (h : P.underlying t = some d) (w : World) : (isAgg t).run P w = .ok (isAggB P t) w := by
  unfold isAgg isAggB
  simp only [Sem.run_bind, run_underlying h, Result.andThen_ok, h]
  cases d <;> rfl
theorem flat_cells (ρ : Ren) (z : Value) (h : flatV z = true) : VRL ρ (cellsL z) (cellsL z) := by
  cases z with
  | agg cs => obtain ⟨l⟩ := cs; exact VRL.flat ρ l (by simpa [flatV] using h)
  | _ => exact .cons (VR.flat ρ _ h) .nil
theorem VR.one {ρ : Ren} {v v' : Value} (h : VR ρ v v') : oneC v = oneC v' := by
  cases h <;> first | rfl | (rename_i h; exact h.symm) | (rename_i hv; rcases hv with ⟨_, rfl⟩ | ⟨c, rfl, _⟩ <;> rfl)
theorem VR.cells {ρ : Ren} {v v' : Value} (h : VR ρ v v') : VRL ρ (cellsL v) (cellsL v') := by
  cases h with
  | agg h => simpa [cellsL, Value.cells] using h
  | junk k n h =>
    have : cellsL v' = [v'] := by cases v' <;> first | rfl | simp [oneC] at h
    rw [this]; exact .cons (.junk k n h) .nil
  | tsl m h hv =>
    have : cellsL v' = [v'] := by rcases hv with ⟨_, rfl⟩ | ⟨c, rfl, _⟩ <;> rfl
    rw [this]; exact .cons (.tsl m h hv) .nil
  | _ => all_goals (refine .cons ?_ .nil; constructor <;> assumption)
end
end Go.Vm
