import Derived.Test.YtdnhoocoofnibaaVmApp2
import Derived.Lib.Builder
import Derived.Lib.UnsafeStr
import Derived.Laws.Externs
import Derived.KernelRfl
namespace Go.Vm
open Go Go.RowKit
section
variable {P : Program} {w0 : World} {U : UG} {ρ : Ren} {o : Oper} {a : Operand → Value} {w : World} {H : Hp} {top : Nat} [NG U top]
  {x : Option Value} {H' : Hp} {top' : Nat} {vals : List Value}
theorem isBld_inv {i : TypeInfo} {t : TypeId} {e : TypeId} (h : isBld P i t = some e) : i.zero = some (.agg ⟨[.pointer none, .slice none 0 0]⟩) ∧ i.size = 2 := by
  unfold isBld at h
  split at h <;> try (cases h; done)
  split at h <;> try (cases h; done)
  split at h <;> try (cases h; done)
  split at h <;> try (cases h; done)
  split at h <;> try (cases h; done)
  rename_i hz
  split at h <;> try (cases h; done)
  rename_i hs
  exact ⟨hz, hs⟩
theorem op_allocB (h : HpR P w0 U ρ H top w) {t e : TypeId} {i : TypeInfo} (ho : o.op = .alloc t) (hi : P.info? t = some i) (hb : isBld P i t = some e)
    (hv : VRL ρ vals []) (hr : opRun (.allocB t e) vals H top = some (x, H', top')) : Done P w0 U ρ o a w x H' top' := by
  obtain ⟨hz, hsz⟩ := isBld_inv hb
  obtain ⟨r, hc, rfl, hh⟩ := opRun_none (v := .allocB t e) rfl hr
  change c_allocB t e vals [] top = some r at hc
  unfold c_allocB at hc
  split at hc
  · cases hc
    rcases hh with ⟨e1, _⟩ | ⟨ob, e1, rfl, rfl⟩
    · cases e1
    · cases e1
      have hrun : (execOp a o).run P w = .ok (.value (.pointer (some ⟨w.heap.size, 0, none⟩))) (w.alloc (.cells #[.pointer none, .slice none 0 0] t)) := by
        simp [execOp, ho, Instr.alloc, run_zeroValue' hi hz, newVar, newRow, Value.cells]
      have hheap : (w.alloc (.cells #[.pointer none, .slice none 0 0] t)).heap[w.heap.size]? = some (.cells #[.pointer none, .slice none 0 0] t) := by
        show (w.heap.push _)[w.heap.size]? = _
        exact Array.getElem?_push_size
      refine Done.fresh h (ext := 2) hrun (h.keep.alloc _) (fun k hk => heap_push_old w _ k hk) ⟨⟨Nat.le_refl _, fun j v ej => ?_, fun j hj => ⟨?_, fun _ => ?_⟩⟩, rfl, .inr ?_⟩ (.ptr (upd_same _ _ _))
      · simp only [World.cell?, Nat.zero_add, hheap]
        match j, ej with
        | 0, ej => simp at ej; subst ej; exact ⟨_, rfl, .nilp⟩
        | 1, ej => simp at ej; subst ej; exact ⟨_, rfl, .tnil _ _⟩
        | j + 2, ej => simp at ej
      · simp only [World.cell?, Nat.zero_add, hheap]
        simp only at hj
        match j, hj with
        | 0, _ => rfl
        | 1, _ => rfl
      · simp only [World.frozen?, Nat.zero_add, hheap]
        simp
      · simp only [World.shape?, hheap]; rfl
  · cases hc
theorem op_eqP (h : HpR P w0 U ρ H top w) {t u te : TypeId} {y z : Operand} (ho : o.op = .binOp .neq t y z u) (hd : P.underlying t = some (.pointer te)) (hi : (P.info? te).isSome = true) (hv : VRL ρ vals [a y, a z])
    (hr : opRun (.eqP true y z) vals H top = some (x, H', top')) : Done P w0 U ρ o a w x H' top' := by
  obtain ⟨j, hj⟩ := Option.isSome_iff_exists.1 hi
  refine opPure h rfl hr fun r hc => ?_
  change c_eqP true vals [] = some r at hc
  unfold c_eqP at hc; split at hc
  · split at hc
    · rename_i hb
      obtain ⟨rfl, rfl⟩ := hb
      obtain ⟨v1, v2, e, h1, h2⟩ := hv.inv2
      simp only [List.cons.injEq, and_true] at e
      obtain ⟨e1, e2⟩ := e
      refine ⟨_, _, val_inv hc, ?_, .bool _⟩
      cases h1 with | ptr hl1 =>
      cases h2 with | ptr hl2 =>
      rw [hl1] at hl2; cases hl2
      have hg : ∀ v v', (eqGuard .neq t y z (.pointer v) (.pointer v')).run P w = .ok () w := fun v v' => by simp [eqGuard]
      simp [execOp, ho, e1, e2, hg, Lib.run_neq_ptr_same (P := P) w _ hd hj]
    · cases hc
  · cases hc
theorem ty_shape {l : Loc} {t q : Nat} {cs : List Value} (h : ObjR P ρ w l (.ty t cs)) (hq : q < cs.length) : w.shape? l.blk = some (t, l.ext) ∧ l.sh = 0 ∧ q < l.ext := by
  obtain ⟨h1, h2, h3⟩ := h
  have := h1.1
  rcases h3 with h3 | h3
  · omega
  · exact ⟨h3, h2, by omega⟩
theorem op_toU (h : HpR P w0 U ρ H top w) {s d t : TypeId} {i : TypeInfo} {y : Operand} (ho : o.op = .convert s d y) (hs : P.underlying s = some (.pointer t)) (hd : P.underlying d = some .unsafePointer) (hi : P.info? t = some i) (hz : i.size ≠ 0) (hv : VRL ρ vals [a y])
    (hr : opRun (.toU y) vals H top = some (x, H', top')) : Done P w0 U ρ o a w x H' top' := by
  have hn : ∃ b q, vals = [.pointer (some ⟨b, q, none⟩)] := by
    obtain ⟨objs, rr, hc⟩ := opRun_core hr
    change c_toU vals objs = _ at hc
    unfold c_toU at hc
    split at hc
    · exact ⟨_, _, rfl⟩
    · cases hc
  obtain ⟨b, q, rfl⟩ := hn
  obtain ⟨v1, e, h1⟩ := hv.inv1
  simp only [List.cons.injEq, and_true] at e
  refine opRead h (b := b) rfl hr fun ob r l hb hl hob hc => ?_
  simp only [core, c_toU] at hc
  split at hc
  · rename_i heq1 heq2
    cases heq1
    cases heq2
    split at hc
    · rename_i hlt
      obtain ⟨z1, z2, z3⟩ := ty_shape hob hlt
      refine ⟨_, v1, (Option.some.inj hc).symm, ?_, h1⟩
      cases h1 with | ptr hl' =>
      rw [hl] at hl'; cases hl'
      have := Lib.run_to_unsafe (P := P) w ⟨l.blk, l.sh + q, none⟩ hs hd hi hz z1 (by simp only [z2]; omega)
      simp only [execOp, ho, e, Sem.run_bind, this]; rfl
    · cases hc
  · cases hc
theorem liesAt_self {e : TypeId} (hc : 1 ≤ P.cellsOf e) (count n : Nat) (hn : n ≤ count) : liesAt P P.depth e count 0 e n = true := by
  have hd : P.depth = (2 * (P.types.size + Made.depth) + 1) + 1 := rfl
  rw [hd]
  simp only [liesAt, Bool.or_eq_true]
  left
  rw [hd]
  have h0 : ¬ P.cellsOf e = 0 := by omega
  simp [rowAt, h0, hn, sameLayout]
theorem op_ofU (h : HpR P w0 U ρ H top w) {s d u : TypeId} {i : TypeInfo} {y : Operand} (ho : o.op = .convert s d y) (hs : P.underlying s = some .unsafePointer) (hd : P.underlying d = some (.pointer u)) (hi : P.info? u = some i) (hz : i.size ≠ 0) (hv : VRL ρ vals [a y])
    (hr : opRun (.ofU u i.size y) vals H top = some (x, H', top')) : Done P w0 U ρ o a w x H' top' := by
  have hn : ∃ b, vals = [.pointer (some ⟨b, 0, none⟩)] := by
    obtain ⟨objs, rr, hc⟩ := opRun_core hr
    change c_ofU u i.size vals objs = _ at hc
    unfold c_ofU at hc
    split at hc
    · exact ⟨_, rfl⟩
    · cases hc
  obtain ⟨b, rfl⟩ := hn
  obtain ⟨v1, e, h1⟩ := hv.inv1
  simp only [List.cons.injEq, and_true] at e
  refine opRead h (b := b) rfl hr fun ob r l hb hl hob hc => ?_
  simp only [core, c_ofU] at hc
  split at hc
  · rename_i heq1 heq2
    cases heq1
    cases heq2
    split at hc
    · rename_i hlt
      obtain ⟨rfl, hlt⟩ := hlt
      obtain ⟨z1, z2, z3⟩ := ty_shape (q := 0) hob (by omega)
      have hext : i.size ≤ l.ext := Nat.le_trans hlt hob.1.1
      refine ⟨_, v1, (Option.some.inj hc).symm, ?_, h1⟩
      cases h1 with | ptr hl' =>
      rw [hl] at hl'; cases hl'
      have hlies := liesAt_self (P := P) (e := _) (by rw [cellsOf_eq hi]; omega) (l.ext / i.size) 1 (by rw [Nat.le_div_iff_mul_le (by omega)]; omega)
      have := Lib.run_from_unsafe (P := P) w ⟨l.blk, l.sh + 0, none⟩ hs hd hi z1 (by simp only [z2, Nat.add_zero, cellsOf_eq hi]; exact hlies)
      simp only [execOp, ho, e, Sem.run_bind, this]; rfl
    · cases hc
  · cases hc
theorem next_none : Extern.allNextRows.lookup "internal/abi.NoEscape" = none := by kernel_rfl
theorem next_none' : Extern.allNextRows.lookup "" = none := by kernel_rfl
theorem rows_gen : Extern.allGenericRows.lookup "internal/abi.NoEscape" = none := by kernel_rfl
theorem rows_typ : Extern.allTypedRows.lookup "internal/abi.NoEscape" = none := by kernel_rfl
theorem rows_all : Extern.allRows.lookup "internal/abi.NoEscape" = some Extern.AbiNoEscape.same := by kernel_rfl
theorem op_noesc (h : HpR P w0 U ρ H top w) {f : FuncId} {fn : Func} {y : Operand} {ts : Array TypeId} (ho : o.op = .call ⟨.value (.func f), #[y], ts⟩) (ha : a (.func f) = .func (.func f) #[] #[]) (hf : P.funcs[f]? = some fn) (hb : fn.body.isNone = true) (hn : fn.name = "internal/abi.NoEscape") (hor : fn.origin = "" ∨ fn.origin = "internal/abi.NoEscape") (hv : VRL ρ vals [a y])
    (hr : opRun (.mv y) vals H top = some (x, H', top')) : Done P w0 U ρ o a w x H' top' := by
  refine opPure h rfl hr fun r hc => ?_
  obtain ⟨v, rfl⟩ : ∃ v, vals = [v] := by
    cases hv with | cons _ ht => cases ht; exact ⟨_, rfl⟩
  obtain ⟨v2, e2, h2⟩ := hv.inv1
  simp only [List.cons.injEq, and_true] at e2
  simp only [core, c_mv] at hc
  refine ⟨_, v2, val_inv hc, ?_, h2⟩
  have hname : (fn.name == "runtime.NumGoroutine") = false := by rw [hn]; decide
  have hnx : Extern.findNext fn = none := by
    unfold Extern.findNext
    simp only [hn, next_none]
    rcases hor with h | h <;> simp [h, next_none, next_none']
  have hfd : Extern.find fn = some Extern.AbiNoEscape.same := by
    unfold Extern.find
    simp only [hn, rows_gen, rows_typ, rows_all]
    rfl
  have := run_callFunc_extern hf hname hb hnx hfd #[v2] w
  rw [Lib.run_noEscape] at this
  simp only [execOp, ho, resolve, ha, Deferred.ofValue, Sem.run_bind, Sem.run_pure, Result.andThen_ok, invoke, Array.append_empty, Array.empty_append, List.map_toArray, List.map, e2]
  rw [this]; rfl
theorem op_sdata (h : HpR P w0 U ρ H top w) {ts : Array TypeId} {y : Operand} (ho : o.op = .call ⟨.builtin .unsafeSliceData, #[y], ts⟩) (hv : VRL ρ vals [a y])
    (hr : opRun (.sdata y) vals H top = some (x, H', top')) : Done P w0 U ρ o a w x H' top' := by
  refine opPure h rfl hr fun r hc => ?_
  change c_sdata vals [] = some r at hc
  unfold c_sdata at hc; split at hc
  · obtain ⟨v1, e, h1⟩ := hv.inv1
    simp only [List.cons.injEq, and_true] at e
    have : v1 = .slice none 0 0 := by cases h1; rfl
    subst this
    refine ⟨_, .pointer none, val_inv hc, ?_, .nilp⟩
    simp only [execOp, ho, resolve, invoke, Go.builtin, Sem.run_bind, Sem.run_pure, Result.andThen_ok, List.map_toArray, List.map, e]
    rfl
  · obtain ⟨v1, e, h1⟩ := hv.inv1
    simp only [List.cons.injEq, and_true] at e
    cases h1 with
    | tsl m hl hv' =>
      rcases hv' with ⟨rfl, rfl⟩ | ⟨c, rfl, hnc, hc0, hce⟩
      · refine ⟨_, .pointer none, val_inv hc, ?_, .sdat _ hl (fun h => absurd h (Nat.lt_irrefl _))⟩
        simp only [execOp, ho, resolve, invoke, Go.builtin, Sem.run_bind, Sem.run_pure, Result.andThen_ok, List.map_toArray, List.map, e]
        rfl
      · refine ⟨_, .pointer (some ⟨_, _, none⟩), val_inv hc, ?_, .sdat _ hl (fun _ => rfl)⟩
        simp only [execOp, ho, resolve, invoke, Go.builtin, Sem.run_bind, Sem.run_pure, Result.andThen_ok, List.map_toArray, List.map, e, Lib.run_unsafeSliceData_row (P := P) w ts o.type _ _ c (by omega)]
  · cases hc
theorem shape_freeze (w : World) (b q n b' : Nat) : (w.freeze ⟨b, q, none⟩ n).shape? b' = w.shape? b' := by
  unfold World.freeze
  split
  · rfl
  · unfold World.shape?
    simp only [Array.getElem?_modify]
    by_cases h : b = b'
    · subst h
      cases w.heap[b]? with
      | none => simp
      | some x => cases x <;> simp
    · simp [h]
theorem cell_freeze (w : World) (b q n b' k : Nat) : (w.freeze ⟨b, q, none⟩ n).cell? ⟨b', k, none⟩ = w.cell? ⟨b', k, none⟩ := by
  unfold World.freeze
  split
  · rfl
  · unfold World.cell?
    simp only [Array.getElem?_modify]
    by_cases h : b = b'
    · subst h
      cases w.heap[b]? with
      | none => simp
      | some x => cases x <;> simp
    · simp [h]
theorem heap_freeze (w : World) (b q n b' : Nat) (h : b ≠ b') : (w.freeze ⟨b, q, none⟩ n).heap[b']? = w.heap[b']? := by
  unfold World.freeze
  split
  · rfl
  · simp only [Array.getElem?_modify, if_neg h]
end
section
variable {P : Program} {w0 : World} {U : UG} {ρ : Ren} {o : Oper} {a : Operand → Value} {w : World} {H : Hp} {top : Nat}
theorem HpR.freeze (h : HpR P w0 U ρ H top w) {b n t : Nat} {l : Loc} {cs : List Value} (hb : aget H b = some (.ty t cs)) (hl : ρ b = some l) (hn : 0 < n) (hc : n ≤ cs.length) :
    HpR P w0 U ρ (aput H b (.row false cs)) top (w.freeze ⟨l.blk, 0, none⟩ n) := by
  obtain ⟨l', hl', hob, hwr⟩ := h.obj b _ hb
  rw [hl] at hl'; cases hl'
  obtain ⟨hsh, hs0, hext⟩ := ty_shape (q := 0) hob (by omega)
  obtain ⟨hcr, _, _⟩ := hob
  have hle := hcr.1
  have hw := hwr rfl
  obtain ⟨arr, fr, hheap, hsz⟩ : ∃ arr fr, w.heap[l.blk]? = some (.cells arr t fr) ∧ arr.size = l.ext := by
    unfold World.shape? at hsh
    split at hsh
    · rename_i c e f hh
      simp only [Option.some.injEq, Prod.mk.injEq] at hsh
      obtain ⟨rfl, hs⟩ := hsh
      exact ⟨c, f, hh, hs⟩
    · cases hsh
  have hnf : ∀ k, k < l.ext → ¬ (fr.1 ≤ k ∧ k < fr.2) := fun k hk hx => by
    have := (hcr.2.2 k hk).2 rfl
    rw [hs0, Nat.zero_add] at this
    simp only [World.frozen?, hheap] at this
    simp at this
    omega
  have hwb : (w.freeze ⟨l.blk, 0, none⟩ n).heap[l.blk]? = some (.cells arr t (if fr.1 == fr.2 then (0, n) else (min fr.1 0, max fr.2 n))) := by
    unfold World.freeze
    rw [if_neg (by omega)]
    simp only [Array.getElem?_modify, if_true, hheap, Option.map_some]
    cases fr; simp
  have hk : Keep U w0 (w.freeze ⟨l.blk, 0, none⟩ n) := by
    refine ⟨?_, ?_, ?_, ?_, fun b' hb' => ?_⟩
    · unfold World.freeze; split <;> exact h.keep.os
    · unfold World.freeze; split <;> exact h.keep.tape
    · unfold World.freeze; split <;> exact h.keep.output
    · have := h.keep.size
      unfold World.freeze; split
      · exact this
      · simpa using this
    · have hbk := h.keep.block b' hb'
      by_cases hbl : l.blk = b'
      · subst hbl
        have hU : ∀ k, k < l.ext → U.u l.blk k := fun k hk => by
          rcases hw k (by omega) (by omega) with h1 | h1
          · exact h1
          · omega
        rw [hwb]
        rw [hheap] at hbk
        cases h0 : w0.heap[l.blk]? with
        | none => rw [Array.getElem?_eq_none_iff] at h0; omega
        | some y =>
          rw [h0] at hbk
          cases y with
          | cells arr0 T fr0 =>
            obtain ⟨arr', fr', e1, e2, e3, e4⟩ := hbk
            cases e1
            refine ⟨arr, _, rfl, e2, .inr ⟨0, hU 0 hext⟩, fun k hku => ⟨(e4 k hku).1, fun hk' => absurd (hU k (by omega)) hku⟩⟩
          | _ =>
            rcases hbk with hz | hz
            · exact .inl hz
            · cases hz
      · rw [heap_freeze _ _ _ _ _ hbl]; exact hbk
  have hother : ∀ j x lj, b ≠ j → aget H j = some x → ρ j = some lj → 0 < lj.ext → lj.blk ≠ l.blk := fun j x lj hbj hj hlj he e => by
    have ap := h.dis b j _ x l lj hbj hb hj hl hlj rfl
    obtain ⟨lj', hlj', hor, _⟩ := h.obj j x hj
    rw [hlj] at hlj'; cases hlj'
    have key : ∀ own cs', CellsR ρ w lj own cs' → False := fun own cs' hcj => by
      have := (hcj.2.2 0 he).1
      rw [e, Nat.add_zero] at this
      simp only [World.cell?, hheap] at this
      simp at this
      exact ap lj.sh e.symm (by omega) (by omega) (Nat.le_refl _) (by omega)
    cases x with
    | cells cs' => exact key _ _ hor
    | row own cs' => exact key _ _ hor
    | ty t' cs' => exact key _ _ hor.1
    | siter s p => have a := hor.1; rw [e, hheap] at a; cases a
    | loop r => obtain ⟨⟨r', a, _⟩, _⟩ := hor; rw [e, hheap] at a; cases a
    | marks => have a := hor.1; rw [e, hheap] at a; cases a
  refine ⟨fun j x hj => ?_, fun i j oi oj li lj hij hi hj hli hlj hwi => ?_, h.lt, hk⟩
  · rw [aget_aput] at hj
    by_cases hbj : b = j
    · subst hbj
      rw [if_pos rfl] at hj; cases hj
      refine ⟨l, hl, ?_, fun e => by cases e⟩
      refine ⟨hcr.1, fun i v e => ?_, fun i hi => ⟨?_, fun e => by cases e⟩⟩
      · obtain ⟨v', e1, e2⟩ := hcr.2.1 i v e
        exact ⟨v', by rw [cell_freeze]; exact e1, e2⟩
      · rw [cell_freeze]; exact (hcr.2.2 i hi).1
    · rw [if_neg hbj] at hj
      obtain ⟨lj, hlj, hor, hwj⟩ := h.obj j x hj
      refine ⟨lj, hlj, ?_, hwj⟩
      rcases Nat.eq_zero_or_pos lj.ext with he | he
      · exact hor.same (Ext.refl ρ) (fun h => by omega)
      · exact hor.same (Ext.refl ρ) (fun _ => heap_freeze _ _ _ _ _ (Ne.symm (hother j x lj hbj hj hlj he)))
  · rw [aget_aput] at hi hj
    by_cases h1 : b = i
    · subst h1; rw [if_pos rfl] at hi; cases hi; cases hwi
    · rw [if_neg h1] at hi
      by_cases h2 : b = j
      · subst h2
        rw [if_pos rfl] at hj
        exact h.dis i b oi _ li lj hij hi hb hli hlj hwi
      · rw [if_neg h2] at hj
        exact h.dis i j oi oj li lj hij hi hj hli hlj hwi
theorem HpR.thaw (h : HpR P w0 U ρ H top w) {b t : Nat} {cs : List Value} (hb : aget H b = some (.ty t cs)) : HpR P w0 U ρ (aput H b (.row false cs)) top w := by
  refine ⟨fun j x hj => ?_, fun i j oi oj li lj hij hi hj hli hlj hwi => ?_, h.lt, h.keep⟩
  · rw [aget_aput] at hj
    by_cases hbj : b = j
    · subst hbj
      rw [if_pos rfl] at hj; cases hj
      obtain ⟨l, hl, hob, _⟩ := h.obj b _ hb
      refine ⟨l, hl, ⟨hob.1.1, hob.1.2.1, fun i hi => ⟨(hob.1.2.2 i hi).1, fun e => by cases e⟩⟩, fun e => by cases e⟩
    · rw [if_neg hbj] at hj; exact h.obj j x hj
  · rw [aget_aput] at hi hj
    by_cases h1 : b = i
    · subst h1; rw [if_pos rfl] at hi; cases hi; cases hwi
    · rw [if_neg h1] at hi
      by_cases h2 : b = j
      · subst h2
        exact h.dis i b oi _ li lj hij hi hb hli hlj hwi
      · rw [if_neg h2] at hj
        exact h.dis i j oi oj li lj hij hi hj hli hlj hwi
end
section
variable {P : Program} {w0 : World} {U : UG} {ρ : Ren} {o : Oper} {a : Operand → Value} {w : World} {H : Hp} {top : Nat} [NG U top]
  {x : Option Value} {H' : Hp} {top' : Nat} {vals : List Value}
theorem toBytes_cells : ∀ {vs : List Value} {bs : List UInt8}, toBytes vs = some bs → bs.length = vs.length
  | [], bs, h => by simp only [toBytes, Option.some.injEq] at h; subst h; rfl
  | v :: vs, bs, h => by
    unfold toBytes at h
    split at h
    · cases ‹_ = []›
    · rename_i n l heq
      cases heq
      split at h <;> cases h
      rename_i bs' hbs
      simp [toBytes_cells hbs]
    · cases h
theorem run_loadBytesI : ∀ (l : List Int) (a : Addr) (acc : ByteArray), (∀ (j : Nat) x, l[j]? = some x → w.cell? (a.add j) = some (.int .u8 x)) →
    (loadBytes a acc l.length).run P w = .ok ⟨acc.data ++ (l.map fun n => UInt8.ofNat n.toNat).toArray⟩ w
  | [], a, acc, _ => by simp [loadBytes]
  | x :: l, a, acc, h => by
    have h0 : w.cell? a = some (.int .u8 x) := by
      have := h 0 x rfl
      simpa [Addr.add] using this
    have ih := run_loadBytesI l (a.add 1) (acc.push (UInt8.ofNat x.toNat)) (fun j y hy => by
      have := h (j + 1) y (by simpa using hy)
      have e : (a.add 1).add j = a.add (j + 1) := by
        unfold Addr.add
        by_cases hj : j = 0
        · subst hj; simp
        · simp [hj]; omega
      rw [e]; exact this)
    have hx : x.toNat.toUInt8 = UInt8.ofNat x.toNat := rfl
    simp only [List.length_cons, loadBytes, Sem.run_bind, run_load, h0, Result.andThen, hx]
    rw [ih]
    congr 1
    apply ByteArray.ext
    simp [ByteArray.push]
theorem run_unsafeStringI (pt it ty e : TypeId) (hp : P.underlying pt = some (.pointer e)) (hc : P.cellsOf e = 1) (g cells : Nat) (hsh : w.shape? g = some (e, cells)) (l : List Int) (h0 : l ≠ []) (hn : l.length ≤ cells) (h63 : l.length ≤ 9223372036854775807)
    (hcell : ∀ (j : Nat) x, l[j]? = some x → w.cell? ((⟨g, 0, none⟩ : Addr).add j) = some (.int .u8 x)) :
    (Builtin.unsafeString_ #[pt, it] ty #[.pointer (some ⟨g, 0, none⟩), .int .i64 l.length]).run P w = .ok (.string ⟨(l.map fun n => UInt8.ofNat n.toNat).toArray⟩) (w.freeze ⟨g, 0, none⟩ l.length) := by
  have hl : l.length ≠ 0 := by simpa using h0
  have hlb := run_loadBytesI (P := P) (w := w) l ⟨g, 0, none⟩ .empty hcell
  have hlies := liesAt_self (P := P) (e := e) (by omega) (cells / P.cellsOf e) l.length (by rw [hc]; simpa using hn)
  have h63' : ¬ (9223372036854775807 : Int) < (l.length : Int) := by omega
  obtain ⟨err, hdef⟩ : ∃ err, Builtin.unsafeString_ #[pt, it] ty #[.pointer (some ⟨g, 0, none⟩), .int .i64 l.length] =
      (do
        let n ← asInt (.int .i64 l.length)
        if n < 0 then runtimePanic err
        if n > IntKind.i64.max then unsupported (.unsafePointer "String: a length above the largest int")
        if n = 0 then pure (.string .empty)
        else if ← variablesAt ⟨g, 0, none⟩ (← elemOf pt) n.toNat then do
          let s ← loadBytes ⟨g, 0, none⟩ .empty n.toNat
          freeze ⟨g, 0, none⟩ n.toNat
          pure (.string s)
        else unsupported (.unsafePointer "String: not so many bytes at ptr")) := ⟨_, rfl⟩
  rw [hdef]
  have hmax : IntKind.i64.max = 9223372036854775807 := rfl
  have hneg : ¬ (l.length : Int) < 0 := by omega
  simp [asInt, asIntOf, hmax, h63', hneg, hl, variablesAt, hsh, elemOf, run_underlying hp, hlies, hlb]
theorem op_ustr (h : HpR P w0 U ρ H top w) {pt it e : TypeId} {i : TypeInfo} {y z : Operand} (ho : o.op = .call ⟨.builtin .unsafeString, #[y, z], #[pt, it]⟩) (hp : P.underlying pt = some (.pointer e)) (hi : P.info? e = some i) (hs : i.size = 1) (hv : VRL ρ vals [a y, a z])
    (hr : opRun (.ustr e y z) vals H top = some (x, H', top')) : Done P w0 U ρ o a w x H' top' := by
  have hexec : ∀ r w', (Builtin.unsafeString_ #[pt, it] o.type #[a y, a z]).run P w = .ok r w' → (execOp a o).run P w = .ok (.value r) w' := by
    intro r w' hrun
    simp only [execOp, ho, resolve, invoke, Go.builtin, Sem.run_bind, Sem.run_pure, Result.andThen_ok, List.map_toArray, List.map, hrun]
  have hn : vals = [.pointer none, .int .i64 0] ∨ ∃ m b n k, vals = [.func (.method m) ⟨[.slice (some ⟨b, 0, none⟩) n 1]⟩ ⟨[.bool true]⟩, .int .i64 k] := by
    obtain ⟨objs, rr, hc⟩ := opRun_core hr
    change c_ustr e vals objs = _ at hc
    unfold c_ustr at hc
    split at hc
    · exact .inl rfl
    · exact .inr ⟨_, _, _, _, rfl⟩
    · cases hc
  obtain ⟨v1, v2, ev, h1, h2⟩ : ∃ v1 v2, (a y = v1 ∧ a z = v2) ∧ True ∧ VRL ρ vals [v1, v2] := ⟨_, _, ⟨rfl, rfl⟩, trivial, hv⟩
  rcases hn with rfl | ⟨m, b, n, k, rfl⟩
  · refine opPure h rfl hr fun r hc => ?_
    obtain ⟨u1, u2, eu, k1, k2⟩ := h2.inv2
    simp only [List.cons.injEq, and_true] at eu
    obtain ⟨rfl, rfl⟩ := eu
    cases k1
    cases k2
    change val _ = some r at hc
    refine ⟨_, .string .empty, val_inv hc, ?_, .string _⟩
    exact hexec _ _ (by rw [ev.1, ev.2]; exact Lib.run_unsafeString_none w pt it o.type none)
  · obtain ⟨ob, r, hb, hc, rfl, hh⟩ := opRun_one (b := b) rfl hr
    simp only [core] at hc
    unfold c_ustr at hc
    split at hc
    · rename_i heq _; cases heq
    · rename_i heq1 heq2
      cases heq1
      cases heq2
      split at hc <;> try (cases hc; done)
      rename_i hcond
      obtain ⟨het, rfl, hle, h63⟩ := hcond
      subst het
      split at hc <;> try (cases hc; done)
      rename_i bs hbs
      cases hc
      rcases hh with ⟨_, rfl, rfl⟩ | ⟨fo, e', _⟩
      case inr => cases e'
      obtain ⟨u1, u2, eu, k1, k2⟩ := h2.inv2
      simp only [List.cons.injEq, and_true] at eu
      obtain ⟨rfl, rfl⟩ := eu
      cases k2
      obtain ⟨l, hl, hob, _⟩ := h.obj b _ hb
      rcases Nat.eq_zero_or_pos n with h0 | h0
      · subst h0
        simp only [List.take_zero, toBytes, Option.some.injEq] at hbs
        subst hbs
        have hrn := hexec (.string .empty) w (by
          rw [ev.1, ev.2]
          cases k1 with
          | sdat _ hl' hp' => exact Lib.run_unsafeString_none w pt it o.type _)
        exact ⟨ρ, w, _, hrn, Ext.refl ρ, h.thaw hb, _, rfl, .string _⟩
      · cases k1 with
        | sdat _ hl' hp' =>
          rw [hl] at hl'; cases hl'
          have hp0 := hp' h0
          subst hp0
          obtain ⟨hsh, hs0, _⟩ := ty_shape (q := 0) hob (by omega)
          obtain ⟨ns, n1, n2⟩ := toBytes_ints hbs
          obtain ⟨vs, g1, g2, g3⟩ := hob.1.values 0 n (by omega)
          rw [List.drop_zero, n1] at g1
          have hvs := g1.ints
          have hnl : ns.length = n := by rw [← g2, hvs]; simp
          have hrn := hexec (.string ⟨(ns.map fun n => UInt8.ofNat n.toNat).toArray⟩) (w.freeze ⟨l.blk, 0, none⟩ n) (by
            rw [ev.1, ev.2]
            have := run_unsafeStringI (P := P) (w := w) pt it o.type _ hp (by rw [cellsOf_eq hi, hs]) l.blk l.ext hsh ns (by intro e; rw [e] at hnl; simp at hnl; omega) (by have := hob.1.1; omega) (by omega) (fun j x hx => by
              rw [addr_add, Nat.zero_add]
              have := g3 j (.int .u8 x) (by rw [hvs, List.getElem?_map, hx]; rfl)
              rw [hs0] at this
              simpa using this)
            rw [hnl] at this
            rw [hs0]
            exact this)
          refine ⟨ρ, _, _, hrn, Ext.refl ρ, h.freeze hb hl h0 hle, _, rfl, ?_⟩
          rw [n2]
          exact .string _
    · cases hc
end
end Go.Vm
