import Derived.Test.YtdnhoocoofnibaaVmEq
namespace Go.Vm
open Go Go.RowKit
section
variable {P : Program} {w0 : World} {U : UG} {ρ : Ren} {o : Oper} {a : Operand → Value} {w : World} {H : Hp} {top : Nat} [NG U top]
  {x : Option Value} {H' : Hp} {top' : Nat} {vals : List Value}
theorem fold_setAt : ∀ (vs : List Value) (off k : Nat) (cs : Array Value), (vs.zipIdx k).foldl (fun cs (p : Value × Nat) => cs.setIfInBounds (off + p.2) p.1) cs = ⟨setAt cs.toList (off + k) vs⟩
  | [], off, k, cs => by simp [setAt]
  | v :: vs, off, k, cs => by
    simp only [List.zipIdx_cons, List.foldl_cons, setAt]
    rw [fold_setAt vs off (k + 1)]
    congr 1
    rw [Array.toList_setIfInBounds]
    rfl
theorem setAt_length {α : Type} : ∀ (vs cs : List α) (off : Nat), (setAt cs off vs).length = cs.length
  | [], cs, off => rfl
  | v :: vs, cs, off => by simp [setAt, setAt_length vs]
theorem fill_run (place : Nat → Option (Nat × Nat)) : ∀ (pl : List (Nat × Operand)) (q : List (Nat × Nat × Operand)) (vs : List Value) (cs cs' rcs : List Value),
    (pl.map fun p => (place p.1).map fun s => (s.1, s.2, p.2)) = q.map some → VRL ρ vs (q.map fun p => a p.2.2) → VRL ρ cs rcs → fillL cs (zipP q vs) = some cs' →
    ∃ rcs', Instr.fill place ⟨rcs⟩ (pl.map fun p => (p.1, a p.2)) = some ⟨rcs'⟩ ∧ VRL ρ cs' rcs'
  | [], q, vs, cs, cs', rcs, hq, hv, hc, hf => by
    cases q with
    | nil =>
      cases hv
      simp only [zipP, fillL, Option.some.injEq] at hf
      subst hf
      exact ⟨rcs, rfl, hc⟩
    | cons _ _ => simp at hq
  | (i, y) :: pl, q, vs, cs, cs', rcs, hq, hv, hc, hf => by
    cases q with
    | nil => simp at hq
    | cons p q =>
      obtain ⟨off, sz, y'⟩ := p
      simp only [List.map_cons, List.cons.injEq] at hq
      obtain ⟨hq1, hq2⟩ := hq
      cases hp : place i with
      | none => simp [hp] at hq1
      | some s =>
        simp only [hp, Option.map_some, Option.some.injEq, Prod.mk.injEq] at hq1
        obtain ⟨rfl, rfl, rfl⟩ := hq1
        cases hv with
        | cons hv hvs =>
          rename_i v vs
          simp only [zipP, fillL] at hf
          split at hf
          · rename_i hcond
            have hcl := hv.cells
            have hl : (a y).cells.size = s.2 := by
              have := hcl.length
              simp only [cellsL] at this hcond
              simp only [Array.length_toList] at this hcond
              omega
            have hle : s.1 + s.2 ≤ rcs.length := by have := hc.length; omega
            obtain ⟨rcs', e1, e2⟩ := fill_run place pl q vs _ cs' _ hq2 hvs (VRL.setAt s.1 hc hcl) hf
            refine ⟨rcs', ?_, e2⟩
            simp only [List.map_cons, Instr.fill, hp, hl]
            have : ¬ ((s.2 != s.2 || decide (s.1 + s.2 > (⟨rcs⟩ : Array Value).size)) = true) := by
              simp; omega
            simp only [ne_eq, not_true_eq_false, decide_false, Bool.false_or, decide_eq_true_eq]
            rw [if_neg (by simp; omega)]
            rw [← e1]
            congr 1
            have hfold := fold_setAt (cellsL (a y)) s.1 0 ⟨rcs⟩
            simp only [Nat.add_zero, cellsL] at hfold
            change _ = (⟨setAt rcs s.fst (a y).cells.toList⟩ : Array Value)
            rw [← hfold, ← Array.foldl_toList, Array.toList_zipIdx]
          · cases hf
theorem compPlaces_map {fs : Array Field} : ∀ {pl : List (Nat × Operand)} {q : List (Nat × Nat × Operand)}, compPlaces P fs pl = some q →
    (pl.map fun p => (((fs.map fun f => (f.offset, P.cellsOf f.type))[p.1]?).map fun s => (s.1, s.2, p.2))) = q.map some
  | [], q, h => by simp only [compPlaces, Option.some.injEq] at h; subst h; rfl
  | (i, y) :: pl, q, h => by
    simp only [compPlaces] at h
    split at h
    · rename_i f hf
      split at h
      · split at h
        · rename_i r hr
          cases h
          simp only [List.map_cons, compPlaces_map hr, List.cons.injEq, and_true]
          simp [hf]
        · cases h
      · cases h
    · cases h
theorem mapM_places : ∀ (fs : List Field), fs.all (fun f => (P.info? f.type).isSome) = true → (fs.mapM fun (f : Field) => (do pure (f.offset, ← sizeOf f.type) : Sem (Nat × Nat))).run P w = .ok (fs.map fun f => (f.offset, P.cellsOf f.type)) w
  | [], _ => rfl
  | f :: fs, h => by
    simp only [List.all_cons, Bool.and_eq_true] at h
    obtain ⟨i, hi⟩ := Option.isSome_iff_exists.1 h.1
    rw [List.mapM_cons]
    simp only [Sem.run_bind, run_size hi, Result.andThen_ok, Sem.run_pure, mapM_places fs h.2, List.map_cons, cellsOf_eq hi]
theorem op_buildS (h : HpR P w0 U ρ H top w) {t : TypeId} {i : TypeInfo} {z : Value} {fs : Array Field} {ps : Array (Nat × Operand)} {q : List (Nat × Nat × Operand)} (ho : o.op = .build t ps) (hi : P.info? t = some i) (hz : i.zero = some z) (hf : flatV z = true)
    (hd : P.underlying t = some (.struct fs)) (hall : fs.toList.all (fun f => (P.info? f.type).isSome) = true) (hq : compPlaces P fs ps.toList = some q)
    (hv : VRL ρ vals (q.map fun p => a p.2.2)) (hr : opRun (.build (cellsL z) q) vals H top = some (x, H', top')) : Done P w0 U ρ o a w x H' top' := by
  refine opPure h rfl hr fun r hc => ?_
  change c_build (cellsL z) q vals [] = some r at hc
  simp only [c_build] at hc
  split at hc
  · split at hc
    · rename_i cs' hcs
      obtain ⟨rcs', e1, e2⟩ := fill_run (a := a) (fun j => (fs.map fun f => (f.offset, P.cellsOf f.type))[j]?) ps.toList q vals _ cs' _ (compPlaces_map hq) hv (flat_cells ρ z hf) hcs
      refine ⟨_, .agg ⟨rcs'⟩, val_inv hc, ?_, .agg e2⟩
      have hpl : (fs.mapM fun (f : Field) => (do pure (f.offset, ← sizeOf f.type) : Sem (Nat × Nat))).run P w = .ok (fs.map fun f => (f.offset, P.cellsOf f.type)) w := by
        rw [Array.mapM_eq_mapM_toList, Sem.run_map, mapM_places fs.toList hall]
        simp only [Result.andThen_ok]
        congr 1
        apply Array.ext'
        simp
      have hz' : z.cells = ⟨cellsL z⟩ := by simp [cellsL]
      simp only [execOp, ho, Instr.build, Sem.run_bind, run_zeroValue' hi hz, Result.andThen_ok, run_underlying hd, hpl, hz']
      have : (ps.map fun (p : Nat × Operand) => (p.1, a p.2)).toList = ps.toList.map fun p => (p.1, a p.2) := by simp
      rw [show (Array.map (fun x => match x with | (i, x) => (i, a x)) ps).toList = ps.toList.map fun p => (p.1, a p.2) by simp]
      rw [e1]
      rfl
    · cases hc
  · cases hc
theorem op_buildA (h : HpR P w0 U ρ H top w) {t e : TypeId} {m : Nat} {i j : TypeInfo} {z : Value} {ps : Array (Nat × Operand)} (ho : o.op = .build t ps) (hi : P.info? t = some i) (hz : i.zero = some z) (hf : flatV z = true)
    (hd : P.underlying t = some (.array m e)) (hj : P.info? e = some j)
    (hv : VRL ρ vals ((ps.toList.map fun p => (p.1 * P.cellsOf e, P.cellsOf e, p.2)).map fun p => a p.2.2))
    (hr : opRun (.build (cellsL z) (ps.toList.map fun p => (p.1 * P.cellsOf e, P.cellsOf e, p.2))) vals H top = some (x, H', top')) : Done P w0 U ρ o a w x H' top' := by
  refine opPure h rfl hr fun r hc => ?_
  change c_build (cellsL z) (ps.toList.map fun p => (p.1 * P.cellsOf e, P.cellsOf e, p.2)) vals [] = some r at hc
  simp only [c_build] at hc
  split at hc
  · split at hc
    · rename_i cs' hcs
      obtain ⟨rcs', e1, e2⟩ := fill_run (a := a) (fun k => some (k * j.size, j.size)) ps.toList _ vals _ cs' _ (by simp [cellsOf_eq hj]) hv (flat_cells ρ z hf) hcs
      refine ⟨_, .agg ⟨rcs'⟩, val_inv hc, ?_, .agg e2⟩
      have hz' : z.cells = ⟨cellsL z⟩ := by simp [cellsL]
      simp only [execOp, ho, Instr.build, Sem.run_bind, run_zeroValue' hi hz, Result.andThen_ok, run_underlying hd, run_size hj, hz']
      rw [show (Array.map (fun x => match x with | (i, x) => (i, a x)) ps).toList = ps.toList.map fun p => (p.1, a p.2) by simp]
      rw [e1]
      rfl
    · cases hc
  · cases hc
theorem heap_push_old (w : World) (ob : Obj) : ∀ k, k < w.heap.size → (w.alloc ob).heap[k]? = w.heap[k]? := fun k hk => Below.heap_alloc w ob k hk
theorem opNew (h : HpR P w0 U ρ H top w) {v : VOp} (hn : needs v vals = []) (hr : opRun v vals H top = some (x, H', top'))
    (key : ∀ r, core v vals [] top = some r → ∃ (u u' : Value) (vs rs : List Value) (T : TypeId) (own : Bool) (lo hi : Nat), (r = ⟨some u, [], some (.cells vs)⟩ ∧ own = true ∨ r = ⟨some u, [], some (.row own vs)⟩) ∧
      (∃ dr : Bool, (execOp a o).run P w = .ok (.value u') ((if dr then w.drew else w).alloc (.cells ⟨rs⟩ T (lo, hi)))) ∧ (rs.length ≤ lo ∨ hi ≤ lo) ∧
      vs.length ≤ rs.length ∧ VRL ρ vs (rs.take vs.length) ∧ VR (upd ρ top ⟨w.heap.size, 0, rs.length⟩) u u') :
    Done P w0 U ρ o a w x H' top' := by
  obtain ⟨r, hc, rfl, hh⟩ := opRun_none hn hr
  obtain ⟨u, u', vs, rs, T, own, lo, hi, hrr, ⟨dr, hrun⟩, hlo, hlen, hvr, hv⟩ := key r hc
  have hb : ∀ k, k < w.heap.size → ((if dr then w.drew else w).alloc (.cells ⟨rs⟩ T (lo, hi))).heap[k]? = w.heap[k]? := by
    intro k hk; cases dr <;> exact heap_push_old _ _ k hk
  have hk : Keep U w0 ((if dr then w.drew else w).alloc (.cells ⟨rs⟩ T (lo, hi))) := by cases dr; exact h.keep.alloc _; exact h.keep.drew.alloc _
  have hcells : CellsR (upd ρ top ⟨w.heap.size, 0, rs.length⟩) ((if dr then w.drew else w).alloc (.cells ⟨rs⟩ T (lo, hi))) ⟨w.heap.size, 0, rs.length⟩ own vs := by
    have hsz : (if dr then w.drew else w).heap.size = w.heap.size := by cases dr <;> rfl
    have hcell : ∀ i, ((if dr then w.drew else w).alloc (.cells ⟨rs⟩ T (lo, hi))).cell? ⟨w.heap.size, 0 + i, none⟩ = rs[i]? := fun i => by
      rw [← hsz, World.cell?_alloc_mark]; simp
    have hfr : ∀ i, i < rs.length → ((if dr then w.drew else w).alloc (.cells ⟨rs⟩ T (lo, hi))).frozen? ⟨w.heap.size, 0 + i, none⟩ = false := fun i hi => by
      rw [← hsz, World.frozen?_alloc_mark]; simp; omega
    refine ⟨hlen, fun i v e => ?_, fun i hi => ⟨?_, fun _ => hfr i hi⟩⟩
    · obtain ⟨v', e', r'⟩ := hvr.get e
      refine ⟨v', ?_, r'.mono (Ext.upd (h.off0))⟩
      rw [hcell]
      rw [List.getElem?_take] at e'
      split at e'
      · exact e'
      · cases e'
    · rw [hcell]; simp; exact hi
  rcases hh with ⟨e, _⟩ | ⟨ob, e, rfl, rfl⟩
  · rcases hrr with ⟨rfl, _⟩ | rfl <;> cases e
  · rcases hrr with ⟨rfl, rfl⟩ | rfl
    · cases e; exact Done.fresh h hrun hk hb hcells hv
    · cases e; exact Done.fresh h hrun hk hb hcells hv
theorem op_alloc (h : HpR P w0 U ρ H top w) {t : TypeId} {i : TypeInfo} {z : Value} (ho : o.op = .alloc t) (hi : P.info? t = some i) (hz : i.zero = some z) (hf : flatV z = true)
    (hv : VRL ρ vals []) (hr : opRun (.alloc (cellsL z)) vals H top = some (x, H', top')) : Done P w0 U ρ o a w x H' top' := by
  refine opNew h rfl hr fun r hc => ?_
  change c_alloc (cellsL z) vals [] top = some r at hc
  unfold c_alloc at hc; split at hc
  · refine ⟨_, .pointer (some ⟨w.heap.size, 0, none⟩), cellsL z, cellsL z, t, true, 0, 0, .inl ⟨(Option.some.inj hc).symm, rfl⟩, ⟨false, ?_⟩, .inr (Nat.le_refl _), Nat.le_refl _, by rw [List.take_length]; exact flat_cells ρ z hf, .ptr (upd_same _ _ _)⟩
    simp [execOp, ho, Instr.alloc, run_zeroValue' hi hz, newVar, newRow, cellsL]
  · cases hc
theorem op_box (h : HpR P w0 U ρ H top w) {t : TypeId} {y : Operand} (ho : o.op = .box t y)
    (hv : VRL ρ vals [a y]) (hr : opRun (.box y) vals H top = some (x, H', top')) : Done P w0 U ρ o a w x H' top' := by
  refine opNew h rfl hr fun r hc => ?_
  change c_box vals [] top = some r at hc
  unfold c_box at hc; split at hc
  · rename_i v _
    obtain ⟨v1, e, h1⟩ := hv.inv1
    simp only [List.cons.injEq, and_true] at e
    subst e
    have hcl := h1.cells
    refine ⟨_, .pointer (some ⟨w.heap.size, 0, none⟩), cellsL v, cellsL (a y), t, true, 0, 0, .inl ⟨(Option.some.inj hc).symm, rfl⟩, ⟨false, ?_⟩, .inr (Nat.le_refl _), by rw [hcl.length]; exact Nat.le_refl _, by rw [hcl.length, List.take_length]; exact hcl, .ptr (upd_same _ _ _)⟩
    simp [execOp, ho, Instr.box, newVar, newRow, cellsL]
  · cases hc
theorem flat_get (z : List Value) : ∀ (len i : Nat), i < len * z.length → ((List.replicate len z).flatten)[i]? = z[i % z.length]?
  | 0, i, h => by omega
  | len + 1, i, h => by
    rw [List.replicate_succ, List.flatten_cons]
    rcases Nat.lt_or_ge i z.length with hi | hi
    · rw [List.getElem?_append_left hi, Nat.mod_eq_of_lt hi]
    · rw [List.getElem?_append_right hi, flat_get z len (i - z.length) (by rw [Nat.succ_mul] at h; omega), Nat.mod_eq_sub_mod hi]
theorem range_flat (z : Value) (len : Nat) (hz : 1 ≤ (cellsL z).length) : (Array.range (len * (cellsL z).length)).map (fun i => z.cells[i % z.cells.size]!) = ⟨(List.replicate len (cellsL z)).flatten⟩ := by
  have hs : z.cells.size = (cellsL z).length := by simp [cellsL]
  apply Array.ext'
  simp only [Array.toList_map, Array.toList_range]
  apply List.ext_getElem?
  intro i
  rcases Nat.lt_or_ge i (len * (cellsL z).length) with h | h
  · rw [flat_get _ _ _ h]
    rw [List.getElem?_map, List.getElem?_range h]
    have hm : i % (cellsL z).length < (cellsL z).length := Nat.mod_lt _ (by omega)
    simp only [Option.map_some, hs]
    rw [getElem!_pos z.cells _ (by omega), List.getElem?_eq_getElem hm]
    simp [cellsL]
  · rw [List.getElem?_eq_none (by simpa using h), List.getElem?_eq_none (by simpa using h)]
theorem flat_rep (ρ : Ren) (z : Value) (hf : flatV z = true) (len : Nat) : VRL ρ ((List.replicate len (cellsL z)).flatten) ((List.replicate len (cellsL z)).flatten) := by
  induction len with
  | zero => exact .nil
  | succ n ih => simpa [List.replicate_succ] using VRL.append (flat_cells ρ z hf) ih
theorem op_buildSl (h : HpR P w0 U ρ H top w) {t e : TypeId} {len : Nat} {i : TypeInfo} {z : Value} {ps : Array (Nat × Operand)} (ho : o.op = .buildSlice t len ps) (hd : P.underlying t = some (.slice e)) (hi : P.info? e = some i) (hz : i.zero = some z) (hf : flatV z = true)
    (hl : (cellsL z).length = i.size) (h1 : 1 ≤ len * i.size) (h2 : len * i.size ≤ 2 ^ 24)
    (hv : VRL ρ vals ((ps.toList.map fun p => (p.1 * i.size, i.size, p.2)).map fun p => a p.2.2))
    (hr : opRun (.buildSl len i.size ((List.replicate len (cellsL z)).flatten) (ps.toList.map fun p => (p.1 * i.size, i.size, p.2))) vals H top = some (x, H', top')) : Done P w0 U ρ o a w x H' top' := by
  refine opNew h rfl hr fun r hc => ?_
  change c_buildSl len i.size _ _ vals [] top = some r at hc
  simp only [c_buildSl] at hc
  split at hc
  · split at hc
    · rename_i cs' hcs
      obtain ⟨rcs', e1, e2⟩ := fill_run (a := a) (fun k => some (k * i.size, i.size)) ps.toList _ vals _ cs' _ (by simp) hv (flat_rep ρ z hf len) hcs
      have hlen : cs'.length = rcs'.length := e2.length
      have hz1 : 1 ≤ (cellsL z).length := by
        rw [hl]; rcases Nat.eq_zero_or_pos i.size with h | h
        · rw [h] at h1; omega
        · exact h
      have hlr : rcs'.length = len * i.size := by
        rw [← hlen]
        have hff : ∀ (l : List (Nat × Nat × Value)) (cs cs' : List Value), fillL cs l = some cs' → cs'.length = cs.length := by
          intro l
          induction l with
          | nil => intro cs cs' h; simp only [fillL, Option.some.injEq] at h; rw [h]
          | cons p l ih =>
            obtain ⟨p1, p2, p3⟩ := p
            intro cs cs' h
            simp only [fillL] at h
            split at h
            · rw [ih _ _ h, setAt_length]
            · cases h
        rw [hff _ _ _ hcs]
        simp [hl]
      refine ⟨_, .slice (some ⟨w.heap.size, 0, none⟩) len len, cs', rcs', e, true, 0, 0, .inr (Option.some.inj hc).symm, ⟨false, ?_⟩, .inr (Nat.le_refl _), by omega, by rw [hlen, List.take_length]; exact e2, ?_⟩
      · have hne : len * i.size ≠ 0 := by omega
        have hle : ¬ (len * i.size > 2 ^ 24) := by omega
        have hrf := range_flat z len hz1
        rw [hl] at hrf
        simp only [execOp, ho, Instr.buildSlice, Sem.run_bind, run_underlying hd, Result.andThen_ok, run_size hi, if_neg hle, if_neg hne, Sem.run_pure, run_zeroValue' hi hz, Sem.run_ite, hrf]
        rw [show (Array.map (fun x => match x with | (i, x) => (i, a x)) ps).toList = ps.toList.map fun p => (p.1, a p.2) by simp]
        rw [e1]
        simp [newRow]
      · have := VR.slice (ρ := upd ρ top ⟨w.heap.size, 0, rcs'.length⟩) (b := top) (o := 0) (n := len) (sz := i.size) (c := len) (upd_same _ _ _) (Nat.le_refl _) (by simp [hlr])
        simpa using this
    · cases hc
  · cases hc
theorem freeze_new (w : World) (C : Array Value) (e : TypeId) (k : Nat) : (w.alloc (.cells C e)).freeze ⟨w.heap.size, k, none⟩ 1 = w.alloc (.cells C e (k, k + 1)) := by
  have hm : ∀ (a : Array Obj) (x : Obj) (f : Obj → Obj), (a.push x).modify a.size f = a.push (f x) := by
    intro a x f
    apply Array.ext
    · simp
    · intro i h1 h2
      simp only [Array.size_modify, Array.size_push] at h1
      rw [Array.getElem_modify]
      by_cases hi : a.size = i
      · subst hi; simp
      · have hi2 : i < a.size := by omega
        simp [hi, Array.getElem_push, hi2]
  unfold World.freeze
  simp only [Nat.one_ne_zero, ↓reduceIte]
  show ({ w with heap := (w.heap.push (.cells C e)).modify w.heap.size _ } : World) = _
  rw [hm]
  rfl
theorem shape_new (w : World) (C : Array Value) (e : TypeId) : (w.alloc (.cells C e)).shape? w.heap.size = some (e, C.size) := by
  have : (w.alloc (.cells C e)).heap[w.heap.size]? = some (.cells C e) := by
    show (w.heap.push (.cells C e))[w.heap.size]? = _
    simp
  unfold World.shape?
  rw [this]
theorem flat_ofBytes : ∀ (l : List UInt8), flatV.flatL (ofBytes l) = true
  | [] => rfl
  | b :: l => by
    have := flat_ofBytes l
    simp only [ofBytes, List.map_cons, flatV.flatL, Bool.and_eq_true] at this ⊢
    exact ⟨rfl, this⟩
theorem op_s2b (h : HpR P w0 U ρ H top w) {s t e : TypeId} {y : Operand} (ho : o.op = .convert s t y) (hs : P.underlying s = some .string) (ht : P.underlying t = some (.slice e)) (he : P.underlying e = some (.int .u8)) (hv : VRL ρ vals [a y])
    (hr : opRun (.s2b y) vals H top = some (x, H', top')) : Done P w0 U ρ o a w x H' top' := by
  refine opNew h rfl hr fun r hc => ?_
  change c_s2b vals [] top = some r at hc
  unfold c_s2b at hc; split at hc
  · rename_i str _
    obtain ⟨v1, ee, h1⟩ := hv.inv1
    simp only [List.cons.injEq, and_true] at ee
    cases h1
    obtain ⟨c, hcdef⟩ : ∃ c, (Question.appendCap str.size 0 e).cut (w.tape w.drawn (.appendCap str.size 0 e)) = c := ⟨_, rfl⟩
    have hcge : str.size ≤ c := by rw [← hcdef]; simp [Question.cut]
    have hsz : str.size = str.data.toList.length := by simp
    have hel : (str.data.map fun b => Value.int .u8 b.toNat).toList = ofBytes str.data.toList := by simp [ofBytes]
    have hln : (ofBytes str.data.toList).length = str.size := by simp [ofBytes]
    refine ⟨_, .slice (some ⟨w.heap.size, 0, none⟩) str.size c, ofBytes str.data.toList, ofBytes str.data.toList ++ List.replicate (c - str.size) (.int .u8 0), e, true, c, c + 1, .inr (Option.some.inj hc).symm, ⟨true, ?_⟩, ?_, ?_, ?_, ?_⟩
    · have harr : (str.data.map fun b => Value.int .u8 b.toNat) ++ Array.replicate (c - str.size) (Value.int .u8 0) = ⟨ofBytes str.data.toList ++ List.replicate (c - str.size) (.int .u8 0)⟩ := by
        apply Array.ext'; simp [ofBytes]
      have hasz : (⟨ofBytes str.data.toList ++ List.replicate (c - str.size) (.int .u8 0)⟩ : Array Value).size = c := by simp [ofBytes]; omega
      simp only [execOp, ho, Sem.run_bind, Go.convert, run_underlying hs, run_underlying ht, Result.andThen_ok, ee, run_underlying he, Conv.stringToBytes, run_choose, Question.forced, Bool.false_eq_true, ↓reduceIte, hcdef, newRow, run_newObj, Sem.run_pure, harr, markStringish, World.alloc_eq, World.drew_eq, run_shape]
      rw [show w.drew.heap.size = w.heap.size from rfl]
      have hsh := shape_new w.drew ⟨ofBytes str.data.toList ++ List.replicate (c - str.size) (.int .u8 0)⟩ e
      rw [show w.drew.heap.size = w.heap.size from rfl] at hsh
      rw [hsh]
      simp only [run_freeze, Result.andThen_ok]
      have hfz := freeze_new w.drew ⟨ofBytes str.data.toList ++ List.replicate (c - str.size) (.int .u8 0)⟩ e c
      rw [show w.drew.heap.size = w.heap.size from rfl] at hfz
      rw [hasz, hfz]
    · left; simp [hln]; omega
    · simp
    · rw [List.take_left']
      · exact VRL.flat _ _ (flat_ofBytes _)
      · rfl
    · have := VR.slice (ρ := upd ρ top ⟨w.heap.size, 0, (ofBytes str.data.toList ++ List.replicate (c - str.size) (Value.int .u8 0)).length⟩) (b := top) (o := 0) (n := str.data.toList.length) (sz := 1) (c := c) (upd_same _ _ _) (by omega) (by simp [hln]; omega)
      rw [hsz]
      simpa using this
  · cases hc
theorem op_mkSl (h : HpR P w0 U ρ H top w) {t e : TypeId} {i : TypeInfo} {z : Value} {y n : Operand} (ho : o.op = .makeSlice t y n) (hd : P.underlying t = some (.slice e)) (hi : P.info? e = some i) (hz : i.zero = some z) (hf : flatV z = true)
    (hl : (cellsL z).length = i.size) (h1 : 1 ≤ i.size) (hv : VRL ρ vals [a y, a n])
    (hr : opRun (.mkSl i.size i.bytes (cellsL z) y n) vals H top = some (x, H', top')) : Done P w0 U ρ o a w x H' top' := by
  refine opNew h rfl hr fun r hc => ?_
  change c_mkSl i.size i.bytes (cellsL z) vals [] top = some r at hc
  unfold c_mkSl at hc; split at hc
  · rename_i k l k' c _
    obtain ⟨v1, v2, ee, h3, h4⟩ := hv.inv2
    simp only [List.cons.injEq, and_true] at ee
    obtain ⟨e1, e2⟩ := ee
    cases h3; cases h4
    split at hc
    · rename_i hb
      obtain ⟨b1, b2, b3, b4⟩ := hb
      have hrl : ((List.replicate c.toNat (cellsL z)).flatten).length = c.toNat * i.size := by simp [hl]
      refine ⟨_, .slice (some ⟨w.heap.size, 0, none⟩) l.toNat c.toNat, _, (List.replicate c.toNat (cellsL z)).flatten, e, true, 0, 0, .inr (Option.some.inj hc).symm, ⟨false, ?_⟩, .inr (Nat.le_refl _), Nat.le_refl _, by rw [List.take_length]; exact flat_rep ρ z hf _, ?_⟩
      · have w1 : IntKind.i64.wrap l = l := by
          unfold IntKind.wrap IntKind.bits; simp; omega
        have w2 : IntKind.i64.wrap c = c := by
          unfold IntKind.wrap IntKind.bits; simp; omega
        have hrf := range_flat z c.toNat (by omega)
        rw [hl] at hrf
        have t1 : (decide (c < 0) || decide ((i.bytes : Int) * c > 2 ^ 48)) = false := by simp; omega
        simp only [execOp, ho, Instr.makeSlice, Sem.run_bind, run_underlying hd, Result.andThen_ok, e1, e2, asInt, asIntOf, Sem.run_pure, run_typeInfo (w := w) hi, w1, w2, t1]
        simp only [Bool.false_or, Bool.or_eq_true, decide_eq_true_eq, show ¬ (l < 0 ∨ l > c) by omega, ↓reduceIte, Sem.run_bind, run_askRoom, Result.andThen_ok, run_size hi]
        by_cases h0 : c.toNat * i.size = 0
        · have hc0 : c.toNat = 0 := by
            rcases Nat.mul_eq_zero.1 h0 with h | h
            · exact h
            · omega
          simp [hc0, newRow]
          congr 2
          apply Array.ext'; simp
        · simp only [h0, ↓reduceIte, Sem.run_bind, run_zeroValue' hi hz, Result.andThen_ok, Sem.run_pure, hrf, newRow, run_newObj]
          rfl
      · have := VR.slice (ρ := upd ρ top ⟨w.heap.size, 0, ((List.replicate c.toNat (cellsL z)).flatten).length⟩) (b := top) (o := 0) (n := l.toNat) (sz := i.size) (c := c.toNat) (upd_same _ _ _) (by omega) (by simp [hl])
        simpa using this
    · cases hc
  · cases hc
end
end Go.Vm
