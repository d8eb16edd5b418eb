import Derived.Test.YtdnhoocoofnibaaVmMake
namespace Go.Vm
open Go Go.RowKit
section
variable {P : Program} {w0 : World} {U : UG} {ρ : Ren} {o : Oper} {a : Operand → Value} {w : World} {H : Hp} {top : Nat} [NG U top]
  {x : Option Value} {H' : Hp} {top' : Nat} {vals : List Value}
theorem HpR.congr {P : Program} {w0 : World} {U : UG} {ρ : Ren} {H H' : Hp} {top : Nat} {w : World} (h : HpR P w0 U ρ H top w) (e : ∀ i, aget H' i = aget H i) : HpR P w0 U ρ H' top w where
  obj i o ho := h.obj i o (by rw [← e]; exact ho)
  dis i j oi oj li lj hij hi hj := h.dis i j oi oj li lj hij (by rw [← e]; exact hi) (by rw [← e]; exact hj)
  lt := h.lt
  keep := h.keep
theorem aput_same {α : Type} {l : List (Nat × α)} {i : Nat} {y : α} (h : aget l i = some y) (j : Nat) : aget (aput l i y) j = aget l j := by
  rw [aget_aput]; split
  · rename_i e; rw [← e, h]
  · rfl
theorem opRun_core {v : VOp} (hr : opRun v vals H top = some (x, H', top')) : ∃ objs r, core v vals objs top = some r := by
  unfold opRun at hr
  split at hr
  · cases hr
  · split at hr
    · cases hr
    · rename_i h; exact ⟨_, _, h⟩
theorem opRun_one {v : VOp} {b : Nat} (hn : needs v vals = [b]) (hr : opRun v vals H top = some (x, H', top')) :
    ∃ ob r, aget H b = some ob ∧ core v vals [ob] top = some r ∧ x = r.v ∧ ((r.fresh = none ∧ H' = aputs H [b] r.objs ∧ top' = top) ∨ (∃ fo, r.fresh = some fo ∧ H' = aput (aputs H [b] r.objs) top fo ∧ top' = top + 1)) := by
  simp only [opRun, hn, agets] at hr
  cases hb : aget H b with
  | none => simp [hb] at hr
  | some ob =>
    simp only [hb] at hr
    cases hc : core v vals [ob] top with
    | none => simp [hc] at hr
    | some r =>
      obtain ⟨rv, ro, rf⟩ := r
      simp only [hc] at hr
      refine ⟨ob, _, rfl, hc, ?_⟩
      cases rf with
      | none => simp only [Option.some.injEq, Prod.mk.injEq] at hr; obtain ⟨rfl, rfl, rfl⟩ := hr; exact ⟨rfl, .inl ⟨rfl, rfl, rfl⟩⟩
      | some fo => simp only [Option.some.injEq, Prod.mk.injEq] at hr; obtain ⟨rfl, rfl, rfl⟩ := hr; exact ⟨rfl, .inr ⟨fo, rfl, rfl, rfl⟩⟩
theorem opRead (h : HpR P w0 U ρ H top w) {v : VOp} {b : Nat} (hn : needs v vals = [b]) (hr : opRun v vals H top = some (x, H', top'))
    (key : ∀ ob r l, aget H b = some ob → ρ b = some l → ObjR P ρ w l ob → core v vals [ob] top = some r → ∃ u u', r = ⟨some u, [some ob], none⟩ ∧ (execOp a o).run P w = .ok (.value u') w ∧ VR ρ u u') :
    Done P w0 U ρ o a w x H' top' := by
  obtain ⟨ob, r, hb, hc, rfl, hh⟩ := opRun_one hn hr
  obtain ⟨l, hl, hob, _⟩ := h.obj b ob hb
  obtain ⟨u, u', rfl, hrun, hv⟩ := key ob r l hb hl hob hc
  rcases hh with ⟨_, rfl, rfl⟩ | ⟨fo, e, _⟩
  · exact ⟨ρ, w, _, hrun, Ext.refl ρ, h.congr (fun i => by simp only [aputs]; exact aput_same hb i), _, rfl, hv⟩
  · cases e
theorem ObjR.cells {ob : VObj} {l : Loc} {cs : List Value} (h : ObjR P ρ w l ob) (hc : ob.cs = some cs) : ∃ own, CellsR ρ w l own cs := by
  cases ob with
  | cells c => simp only [VObj.cs, Option.some.injEq] at hc; subst hc; exact ⟨true, h⟩
  | row own c => simp only [VObj.cs, Option.some.injEq] at hc; subst hc; exact ⟨own, h⟩
  | ty t c => simp only [VObj.cs, Option.some.injEq] at hc; subst hc; exact ⟨true, h.1⟩
  | _ => simp [VObj.cs] at hc
theorem CellsR.values {l : Loc} {own : Bool} {cs : List Value} (h : CellsR ρ w l own cs) (q n : Nat) (hn : q + n ≤ cs.length) :
    ∃ vs, VRL ρ ((cs.drop q).take n) vs ∧ vs.length = n ∧ ∀ j v, vs[j]? = some v → w.cell? ⟨l.blk, l.sh + q + j, none⟩ = some v := by
  induction n with
  | zero => exact ⟨[], by simpa using VRL.nil, rfl, fun j v e => by simp at e⟩
  | succ n ih =>
    obtain ⟨vs, h1, h2, h3⟩ := ih (by omega)
    have hlt : q + n < cs.length := by omega
    obtain ⟨v', hc, hv⟩ := h.2.1 (q + n) cs[q + n] (List.getElem?_eq_getElem hlt)
    refine ⟨vs ++ [v'], ?_, by simp [h2], fun j v e => ?_⟩
    · have : (cs.drop q).take (n + 1) = (cs.drop q).take n ++ [cs[q + n]] := by
        rw [List.take_succ_eq_append_getElem (by simp; omega)]
        simp
      rw [this]
      exact VRL.append h1 (.cons hv .nil)
    · rcases Nat.lt_or_ge j n with hj | hj
      · rw [List.getElem?_append_left (by omega)] at e
        exact h3 j v e
      · rw [List.getElem?_append_right (by omega)] at e
        have : j = n := by
          rcases Nat.eq_or_lt_of_le hj with h | h
          · exact h.symm
          · rw [List.getElem?_eq_none (by simp; omega)] at e; cases e
        subst this
        simp [h2] at e
        subst e
        rw [← hc]; congr 2; omega
theorem addr_add (b q j : Nat) : Addr.add ⟨b, q, none⟩ j = ⟨b, q + j, none⟩ := by
  unfold Addr.add; split
  · rename_i h; subst h; rfl
  · rfl
theorem loadCells_run {l : Loc} {q n : Nat} {vs : List Value} (hl : vs.length = n) (h : ∀ j v, vs[j]? = some v → w.cell? ⟨l.blk, l.sh + q + j, none⟩ = some v) :
    (loadCells ⟨l.blk, l.sh + q, none⟩ n).run P w = .ok ⟨vs⟩ w := by
  subst hl
  exact run_loadCells_list w ⟨l.blk, l.sh + q, none⟩ vs fun j v e => by rw [addr_add]; exact h j v e
theorem op_load1 (h : HpR P w0 U ρ H top w) {t : TypeId} {d : TypeDesc} {k : SK} {y : Operand} (ho : o.op = .load t y) (hd : P.underlying t = some d) (ha : isAggB P t = false) (hv : VRL ρ vals [a y])
    (hr : opRun (.load1 k y) vals H top = some (x, H', top')) : Done P w0 U ρ o a w x H' top' := by
  have hn : ∃ b q, vals = [.pointer (some ⟨b, q, none⟩)] := by
    obtain ⟨objs, rr, hc⟩ := opRun_core hr
    change c_load1 vals objs = _ at hc
    unfold c_load1 at hc
    split at hc
    · exact ⟨_, _, rfl⟩
    · cases hc
  obtain ⟨b, q, rfl⟩ := hn
  obtain ⟨v1, e, h1⟩ := hv.inv1
  simp only [List.cons.injEq, and_true] at e
  refine opRead h (b := b) rfl hr fun ob r l hb hl hob hc => ?_
  simp only [core, c_load1] at hc
  split at hc
  · rename_i cs hcs
    split at hc
    · rename_i v hg
      obtain ⟨own, hcr⟩ := hob.cells hcs
      obtain ⟨v', hv', hvr⟩ := hcr.2.1 q v hg
      cases h1 with | ptr hl' =>
      rw [hl] at hl'; cases hl'
      refine ⟨v, v', (Option.some.inj hc).symm, ?_, hvr⟩
      simp [execOp, ho, Instr.loadAt, e, Instr.sureAddr, loadVar, run_isAgg' hd, ha, hv']
    · cases hc
  · cases hc
theorem op_loadN (h : HpR P w0 U ρ H top w) {t : TypeId} {d : TypeDesc} {i : TypeInfo} {ks : List SK} {y : Operand} (ho : o.op = .load t y) (hd : P.underlying t = some d) (ha : isAggB P t = true) (hi : P.info? t = some i) (hk : ks.length = i.size) (hv : VRL ρ vals [a y])
    (hr : opRun (.loadN ks y) vals H top = some (x, H', top')) : Done P w0 U ρ o a w x H' top' := by
  have hn : ∃ b q, vals = [.pointer (some ⟨b, q, none⟩)] := by
    obtain ⟨objs, rr, hc⟩ := opRun_core hr
    change c_loadN ks.length vals objs = _ at hc
    unfold c_loadN at hc
    split at hc
    · exact ⟨_, _, rfl⟩
    · cases hc
  obtain ⟨b, q, rfl⟩ := hn
  obtain ⟨v1, e, h1⟩ := hv.inv1
  simp only [List.cons.injEq, and_true] at e
  refine opRead h (b := b) rfl hr fun ob r l hb hl hob hc => ?_
  simp only [core, c_loadN] at hc
  split at hc
  · rename_i cs hcs
    split at hc
    · rename_i hle
      obtain ⟨own, hcr⟩ := hob.cells hcs
      obtain ⟨vs, g1, g2, g3⟩ := hcr.values q ks.length hle
      cases h1 with | ptr hl' =>
      rw [hl] at hl'; cases hl'
      refine ⟨_, .agg ⟨vs⟩, (Option.some.inj hc).symm, ?_, .agg g1⟩
      simp only [execOp, ho, Instr.loadAt, e, Instr.sureAddr, loadVar, Sem.run_bind, Sem.run_pure, run_isAgg' hd, ha, Result.andThen_ok, ↓reduceIte, run_size hi, ← hk, loadCells_run g2 g3]
    · cases hc
  · cases hc
theorem setAt_get {α : Type} : ∀ (vs cs : List α) (q i : Nat), q + vs.length ≤ cs.length → (setAt cs q vs)[i]? = if q ≤ i ∧ i < q + vs.length then vs[i - q]? else cs[i]?
  | [], cs, q, i, _ => by
    simp only [setAt, List.length_nil, Nat.add_zero]
    rw [if_neg (by omega)]
  | v :: vs, cs, q, i, h => by
    simp only [List.length_cons] at h
    rw [setAt, setAt_get vs (cs.set q v) (q + 1) i (by simp; omega)]
    simp only [List.length_cons]
    by_cases h1 : i = q
    · subst h1
      rw [if_neg (by omega), if_pos (by omega)]
      simp [show i < cs.length by omega]
    · by_cases h2 : q ≤ i ∧ i < q + (vs.length + 1)
      · rw [if_pos (by omega), if_pos h2]
        rw [show i - q = (i - (q + 1)) + 1 by omega, List.getElem?_cons_succ]
      · rw [if_neg (by omega), if_neg h2, List.getElem?_set_ne (by omega)]
theorem oneC_eq (v : Value) : v.oneCell' = oneC v := by cases v <;> rfl
theorem shape_setCell (w : World) (b q : Nat) (v : Value) (b' : Nat) : (w.setCell ⟨b, q, none⟩ v).shape? b' = w.shape? b' := by
  unfold World.shape? World.setCell
  simp only [Array.getElem?_modify]
  by_cases h : b = b'
  · subst h
    cases w.heap[b]? with
    | none => simp
    | some x => cases x <;> simp
  · simp [h]
theorem storeCells_run (b q : Nat) : ∀ (vs : List Value) (i : Nat) (w : World), (∀ j, j < vs.length → (w.cell? ⟨b, q + i + j, none⟩).isSome = true ∧ w.frozen? ⟨b, q + i + j, none⟩ = false) → vs.all oneC = true →
    ∃ w', (storeCells ⟨b, q, none⟩ vs i).run P w = .ok () w' ∧ (∀ j v, vs[j]? = some v → w'.cell? ⟨b, q + i + j, none⟩ = some v) ∧
      (∀ b' k, ¬ (b' = b ∧ q + i ≤ k ∧ k < q + i + vs.length) → w'.cell? ⟨b', k, none⟩ = w.cell? ⟨b', k, none⟩) ∧ (∀ b' k, w'.frozen? ⟨b', k, none⟩ = w.frozen? ⟨b', k, none⟩) ∧
      (∀ b', b' ≠ b → w'.heap[b']? = w.heap[b']?) ∧ (vs = [] → w' = w) ∧
      (∀ w0 U, Keep U w0 w → (∀ k, q + i ≤ k → k < q + i + vs.length → U.u b k ∨ w0.heap.size ≤ b) → Keep U w0 w') ∧ (∀ b', w'.shape? b' = w.shape? b')
  | [], i, w, _, _ => ⟨w, rfl, fun j v e => by simp at e, fun _ _ _ => rfl, fun _ _ => rfl, fun _ _ => rfl, fun _ => rfl, fun _ _ k _ => k, fun _ => rfl⟩
  | v :: vs, i, w, h, h1 => by
    simp only [List.all_cons, Bool.and_eq_true] at h1
    have h0 := h 0 (by simp)
    simp only [Nat.add_zero] at h0
    obtain ⟨u, hu⟩ := Option.isSome_iff_exists.1 h0.1
    obtain ⟨w', e1, e2, e3, e4, e5, e6, e7, e8⟩ := storeCells_run b q vs (i + 1) (w.setCell ⟨b, q + i, none⟩ v) (fun j hj => by
      have hx := h (j + 1) (by simp; omega)
      rw [show q + (i + 1) + j = q + i + (j + 1) by omega]
      rw [World.cell?_setCell_other _ _ _ _ (by intro e; injection e with _ e _; omega), World.frozen?_setCell]
      exact hx) h1.2
    refine ⟨w', ?_, ?_, ?_, ?_, ?_, ?_, ?_, fun b' => by rw [e8, shape_setCell]⟩
    · simp only [storeCells, Sem.run_bind, addr_add, run_store P w _ v _ (by rw [oneC_eq]; exact h1.1), hu, h0.2, Bool.false_eq_true, ↓reduceIte, Result.andThen_ok, e1]
    · intro j x hx
      cases j with
      | zero =>
        simp at hx; subst hx
        rw [e3 _ _ (by omega), Nat.add_zero]
        exact World.cell?_setCell_same _ _ _ hu
      | succ j =>
        rw [show q + i + (j + 1) = q + (i + 1) + j by omega]
        exact e2 j x (by simpa using hx)
    · intro b' k hk
      simp only [List.length_cons] at hk
      rw [e3 b' k (by omega)]
      exact World.cell?_setCell_other _ _ _ _ (by intro e; injection e with e1 e2 _; exact hk ⟨e1.symm, by omega, by omega⟩)
    · intro b' k; rw [e4, World.frozen?_setCell]
    · intro b' hb; rw [e5 b' hb]; exact Below.heap_setCell _ _ _ _ hb
    · intro e; cases e
    · intro w0 U hk hu'
      simp only [List.length_cons] at hu'
      exact e7 w0 U (hk.setCell b (q + i) v (hu' _ (by omega) (by omega))) (fun k h1 h2 => hu' k (by omega) (by omega))
theorem VRL.oneC {l l' : List Value} (h : VRL ρ l l') : l.all oneC = l'.all oneC := by
  induction l generalizing l' with
  | nil => cases h; rfl
  | cons v l ih => cases h with | cons h hl => simp only [List.all_cons, h.one, ih hl]
theorem wr_inv {ob ob' : VObj} {cs : List Value} (h : ob.wr cs = some ob') : writable ob = true ∧ ((∃ c, ob = .cells c ∧ ob' = .cells cs) ∨ (∃ c, ob = .row true c ∧ ob' = .row true cs) ∨ ∃ t c, ob = .ty t c ∧ ob' = .ty t cs) := by
  unfold VObj.wr at h
  split at h <;> cases h
  · exact ⟨rfl, .inl ⟨_, rfl, rfl⟩⟩
  · exact ⟨rfl, .inr (.inl ⟨_, rfl, rfl⟩)⟩
  · exact ⟨rfl, .inr (.inr ⟨_, _, rfl, rfl⟩)⟩
theorem storeObj {P : Program} {w0 : World} {U : UG} {ρ : Ren} {H : Hp} {top : Nat} {w : World} (h : HpR P w0 U ρ H top w) {b q : Nat} {ob ob' : VObj} {l : Loc} {cs vs rs : List Value} (hb : aget H b = some ob) (hl : ρ b = some l) (hc : ob.cs = some cs) (hw : ob.wr (setAt cs q vs) = some ob') (hr : VRL ρ vs rs) (h1 : vs.all oneC = true) (hle : q + vs.length ≤ cs.length) :
    ∃ w', (storeCells ⟨l.blk, l.sh + q, none⟩ rs 0).run P w = .ok () w' ∧ HpR P w0 U ρ (aput H b ob') top w' := by
  obtain ⟨l', hl', hob, hwr⟩ := h.obj b ob hb
  rw [hl] at hl'; cases hl'
  obtain ⟨hwo, hsh⟩ := wr_inv hw
  have hcr : CellsR ρ w l true cs := by
    rcases hsh with ⟨c, rfl, _⟩ | ⟨c, rfl, _⟩ | ⟨t, c, rfl, _⟩
    · simp only [VObj.cs, Option.some.injEq] at hc; subst hc; exact hob
    · simp only [VObj.cs, Option.some.injEq] at hc; subst hc; exact hob
    · simp only [VObj.cs, Option.some.injEq] at hc; subst hc; exact hob.1
  have hlen := hr.length
  have hext : cs.length ≤ l.ext := hcr.1
  obtain ⟨w', e1, e2, e3, e4, e5, e6, e7, e8⟩ := storeCells_run (P := P) l.blk (l.sh + q) rs 0 w (fun j hj => by
    have := hcr.2.2 (q + j) (by omega)
    rw [show l.sh + q + 0 + j = l.sh + (q + j) by omega]
    exact ⟨this.1, this.2 rfl⟩) (by rw [← hr.oneC]; exact h1)
  refine ⟨w', e1, ?_⟩
  have hnew : CellsR ρ w' l true (setAt cs q vs) := by
    refine ⟨by rw [setAt_length]; exact hext, fun i v hi => ?_, fun i hi => ⟨?_, fun _ => ?_⟩⟩
    · rw [setAt_get _ _ _ _ hle] at hi
      split at hi
      · rename_i hin
        obtain ⟨v', g1, g2⟩ := hr.get hi
        refine ⟨v', ?_, g2⟩
        have := e2 (i - q) v' g1
        rw [show l.sh + q + 0 + (i - q) = l.sh + i by omega] at this
        exact this
      · rename_i hout
        obtain ⟨v', g1, g2⟩ := hcr.2.1 i v hi
        exact ⟨v', by rw [e3 _ _ (by omega)]; exact g1, g2⟩
    · by_cases hin : q ≤ i ∧ i < q + rs.length
      · have hj : i - q < rs.length := by omega
        have := e2 (i - q) _ (List.getElem?_eq_getElem hj)
        rw [show l.sh + q + 0 + (i - q) = l.sh + i by omega] at this
        rw [this]; rfl
      · rw [e3 _ _ (by omega)]; exact (hcr.2.2 i hi).1
    · rw [e4]; exact (hcr.2.2 i hi).2 rfl
  have hk : Keep U w0 w' := e7 w0 U h.keep (fun k k1 k2 => hwr hwo k (by omega) (by omega))
  have hbk : ∀ (b' : Nat), (∀ c t f, w.heap[b']? ≠ some (Obj.cells c t f)) → w'.heap[b']? = w.heap[b']? := by
    intro b' hb'
    by_cases hbb : b' = l.blk
    · subst hbb
      cases rs with
      | nil => rw [e6 rfl]
      | cons r rs =>
        exfalso
        have := (hcr.2.2 q (by simp at hlen; omega)).1
        unfold World.cell? at this
        cases hh : w.heap[l.blk]? with
        | none => simp [hh] at this
        | some y => cases y <;> simp [hh] at this <;> exact hb' _ _ _ hh
    · exact e5 b' hbb
  have hnewO : ObjR P ρ w' l ob' := by
    rcases hsh with ⟨c, _, rfl⟩ | ⟨c, _, rfl⟩ | ⟨t, c, rfl, rfl⟩
    · exact hnew
    · exact hnew
    · exact ⟨hnew, hob.2.1, by rw [e8]; exact hob.2.2⟩
  exact h.put hb hl hwo hk hnewO (fun b' k hk' => e3 b' k (by omega)) (fun b' k _ => e4 b' k) (fun b' hb' _ => hbk b' hb') (fun b' x hx => by rw [e8]; exact hx)
theorem op_store (h : HpR P w0 U ρ H top w) {t : TypeId} {i : TypeInfo} {y z : Operand} (ho : o.op = .store t y z) (hi : P.info? t = some i) (hv : VRL ρ vals [a y, a z])
    (hr : opRun (.store i.size y z) vals H top = some (x, H', top')) : Done P w0 U ρ o a w x H' top' := by
  have hn : ∃ b q v, vals = [.pointer (some ⟨b, q, none⟩), v] := by
    obtain ⟨objs, rr, hc⟩ := opRun_core hr
    change c_store i.size vals objs = _ at hc
    unfold c_store at hc
    split at hc
    · exact ⟨_, _, _, rfl⟩
    · cases hc
  obtain ⟨b, q, v, rfl⟩ := hn
  obtain ⟨v1, v2, e, h1, h2⟩ := hv.inv2
  simp only [List.cons.injEq, and_true] at e
  obtain ⟨ob, r, hb, hc, rfl, hh⟩ := opRun_one (b := b) rfl hr
  simp only [core, c_store] at hc
  split at hc
  · rename_i cs hcs
    split at hc
    · rename_i hcond
      obtain ⟨c1, c2, c3⟩ := hcond
      split at hc
      · rename_i ob' hw
        cases hc
        cases h1 with | ptr hl =>
        have hcl := h2.cells
        obtain ⟨w', g1, g2⟩ := storeObj (P := P) h hb hl hcs hw hcl c3 (by omega)
        rcases hh with ⟨_, rfl, rfl⟩ | ⟨fo, e', _⟩
        · refine ⟨ρ, w', .skip, ?_, Ext.refl ρ, g2, rfl⟩
          have hsz : v2.cells.size = i.size := by
            have := hcl.length
            simp only [cellsL, Array.length_toList] at this c1
            omega
          simp only [execOp, ho, Instr.storeAt, e.1, e.2, Instr.sureAddr, storeVar, Sem.run_bind, Sem.run_pure, Result.andThen_ok, run_size hi, hsz, ne_eq, not_true_eq_false, ↓reduceIte]
          have g1' : (storeCells ⟨_, _, none⟩ v2.cells.toList).run P w = .ok () w' := g1
          rw [g1']; rfl
        · cases e'
      · cases hc
    · cases hc
  · cases hc
end
end Go.Vm
