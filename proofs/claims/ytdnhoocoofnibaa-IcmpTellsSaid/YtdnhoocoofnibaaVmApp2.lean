import Derived.Test.YtdnhoocoofnibaaVmApp
namespace Go.Vm
open Go Go.RowKit
section
variable {P : Program} {w0 : World} {U : UG} {ρ : Ren} {o : Oper} {a : Operand → Value} {w : World} {H : Hp} {top : Nat} [NG U top]
  {x : Option Value} {H' : Hp} {top' : Nat} {vals : List Value}
theorem append_run {t u ty e : TypeId} {i : TypeInfo} {z : Value} {du : TypeDesc} (ht : P.underlying t = some (.slice e)) (hu : P.underlying u = some du) (hdu : du = .string ∨ ∃ e', du = .slice e') (hi : P.info? e = some i) (hz : i.zero = some z)
    {base : Option Addr} {n c m : Nat} {y : Value} {olds news : List Value} (hlen : ∀ w, (Builtin.lenOf y).run P w = .ok m w)
    (ho : (Builtin.firstCells i.size n (.slice base n c)).run P w.drew = .ok ⟨olds⟩ w.drew) (hn : (Builtin.firstCells i.size m y).run P w = .ok ⟨news⟩ w) (hn' : (Builtin.firstCells i.size m y).run P w.drew = .ok ⟨news⟩ w.drew)
    (h1 : 1 ≤ i.bytes) (hb : (n + m) * i.bytes ≤ 2 ^ 47) :
    (n + m ≤ c → (Builtin.append_ #[t, u] ty #[.slice base n c, y]).run P w = (((match base with | some ad => storeCells (ad.add (n * i.size)) news | none => pure ()) : Sem Unit).run P w).andThen fun _ w' => .ok (.slice base (n + m) c) w') ∧
    (c < n + m → (Builtin.append_ #[t, u] ty #[.slice base n c, y]).run P w =
      .ok (.slice (some ⟨w.heap.size, 0, none⟩) (n + m) (grownCap w (n + m) c e)) (w.drew.alloc (.cells ⟨olds ++ news ++ (Builtin.zeroCells z.cells (grownCap w (n + m) c e - (n + m))).toList⟩ e))) := by
  constructor
  · intro hle
    rcases hdu with rfl | ⟨e', rfl⟩
    all_goals
      simp only [Builtin.append_, List.getElem?_toArray, List.getElem?_cons_zero, List.getElem?_cons_succ, Sem.run_bind, run_underlying ht, run_underlying hu, Result.andThen_ok, run_size hi, Sem.run_pure, Bool.false_eq_true, ↓reduceIte, hlen, hle, Bool.not_false, hn]
      cases base <;> simp
  · intro hlt
    have hle : ¬ (n + m ≤ c) := by omega
    have hfit := growslice_fits (need := n + m) (old := c) (bytes := i.bytes) hlt (by simpa using hb)
    have h48 : ¬ (Builtin.nextslicecap (n + m) c * i.bytes > 2 ^ 48) := by omega
    have hne : ¬ (i.bytes = 0) := by omega
    have harr : (⟨olds⟩ : Array Value) ++ ⟨news⟩ ++ Builtin.zeroCells z.cells (grownCap w (n + m) c e - (n + m)) = ⟨olds ++ news ++ (Builtin.zeroCells z.cells (grownCap w (n + m) c e - (n + m))).toList⟩ := by
      apply Array.ext'; simp
    rw [← harr]
    rcases hdu with rfl | ⟨e', rfl⟩
    all_goals
      simp only [Builtin.append_, List.getElem?_toArray, List.getElem?_cons_zero, List.getElem?_cons_succ, Sem.run_bind, run_underlying ht, run_underlying hu, Result.andThen_ok, run_size hi, Sem.run_pure, Bool.false_eq_true, ↓reduceIte, hlen, hle, Bool.not_false, run_typeInfo (w := w) hi]
      simp only [false_or, hne, and_false, ↓reduceIte, Sem.run_bind, run_typeInfo (w := w) hi, Result.andThen_ok, h48, run_choose, Question.forced, Bool.false_eq_true, World.drew_eq]
      simp only [run_typeInfo (w := w.drew) hi, Result.andThen_ok, Sem.run_bind, run_askRoom, ho, hn', run_zeroValue' hi hz, newRow, run_newObj, Sem.run_pure]
      rfl
theorem HpR.move (h : HpR P w0 U ρ H top w) {b q : Nat} {l : Loc} {cs : List Value} {ext : Nat} (hb : aget H b = some (.row true cs)) (hl : ρ b = some l) (hq : q + ext ≤ l.ext) (hc : (cs.drop q).length ≤ ext) :
    HpR P w0 U (upd ρ top ⟨l.blk, l.sh + q, ext⟩) (aput (adel H b) top (.row true (cs.drop q))) (top + 1) w := by
  have hnb : b ≠ top := fun e => by subst e; rw [h.off0] at hl; cases hl
  obtain ⟨l', hl', hob, hwr⟩ := h.obj b _ hb
  rw [hl] at hl'; cases hl'
  have hx : Ext ρ (upd ρ top ⟨l.blk, l.sh + q, ext⟩) := Ext.upd (h.off0)
  have hcr : CellsR ρ w l true cs := hob
  refine ⟨fun i ob hi => ?_, fun i j oi oj li lj hij hi hj hli hlj hw => ?_, fun i l' e => ?_, h.keep⟩
  · rw [aget_aput] at hi
    by_cases h1 : top = i
    · subst h1
      rw [if_pos rfl] at hi; cases hi
      refine ⟨_, upd_same _ _ _, ⟨hc, fun k v e => ?_, fun k hk => ?_⟩, fun _ k k1 k2 => hwr rfl k (by simp at k1; omega) (by simp at k2; omega)⟩
      · rw [List.getElem?_drop] at e
        obtain ⟨v', g1, g2⟩ := hcr.2.1 _ v e
        exact ⟨v', by rw [← g1]; congr 2; simp; omega, g2.mono hx⟩
      · have := hcr.2.2 (q + k) (by simp at hk; omega)
        rw [show l.sh + (q + k) = (⟨l.blk, l.sh + q, ext⟩ : Loc).sh + k by simp; omega] at this
        exact this
    · rw [if_neg h1, aget_adel] at hi
      by_cases h2 : b = i
      · simp [h2] at hi
      · rw [if_neg h2] at hi
        obtain ⟨l', hl', hr, hw⟩ := h.obj i ob hi
        exact ⟨l', by rw [upd_ne _ _ h1]; exact hl', hr.same hx (fun _ => rfl), hw⟩
  · have key : ∀ (j : Nat) oj lj, b ≠ j → aget H j = some oj → ρ j = some lj → Apart ⟨l.blk, l.sh + q, ext⟩ lj := fun j oj lj hbj hj hlj k e h1 h2 h3 h4 =>
      h.dis b j _ oj l lj hbj hb hj hl hlj rfl k e (by simp at h1; omega) (by simp at h2; omega) h3 h4
    rw [aget_aput] at hi hj
    by_cases h1 : top = i
    · subst h1
      rw [if_neg hij, aget_adel] at hj
      rw [upd_same] at hli; cases hli
      rw [upd_ne _ _ hij] at hlj
      by_cases h2 : b = j
      · simp [h2] at hj
      · rw [if_neg h2] at hj; exact key j oj lj h2 hj hlj
    · rw [if_neg h1, aget_adel] at hi
      rw [upd_ne _ _ h1] at hli
      by_cases h2 : b = i
      · simp [h2] at hi
      · rw [if_neg h2] at hi
        by_cases h3 : top = j
        · subst h3
          rw [upd_same] at hlj; cases hlj
          exact (key i oi li h2 hi hli).symm
        · rw [if_neg h3, aget_adel] at hj
          rw [upd_ne _ _ h3] at hlj
          by_cases h4 : b = j
          · simp [h4] at hj
          · rw [if_neg h4] at hj
            exact h.dis i j oi oj li lj hij hi hj hli hlj hw
  · by_cases h1 : top = i
    · have := (inferInstance : NG U top).le; omega
    · rw [upd_ne _ _ h1] at e; exact (h.lt i l' e).imp id (fun h => by omega)
theorem src_run {y : Value} {v : Value} {objs : List VObj} {sz m : Nat} {new : List Value} (hvr : VR ρ v y) (hs : srcCells sz v objs = some new) (hm : srcLen v = some m)
    (hob : ∀ ad n c ob, v = .slice (some ad) n c → objs = [ob] → ∃ l, ρ ad.block = some l ∧ ObjR P ρ w l ob) (hl : new.length = m * sz) :
    ∃ news, VRL ρ new news ∧ (∀ w', (Builtin.lenOf y).run P w' = .ok m w') ∧ (Builtin.firstCells sz m y).run P w = .ok ⟨news⟩ w ∧ (Builtin.firstCells sz m y).run P w.drew = .ok ⟨news⟩ w.drew := by
  unfold srcCells at hs
  split at hs
  · rename_i s
    cases hs
    simp only [srcLen, Option.some.injEq] at hm
    cases hvr
    refine ⟨ofBytes s.data.toList, VRL.flat _ _ (flat_ofBytes _), fun w' => ?_, ?_, ?_⟩
    · rw [← hm]; simp [Builtin.lenOf]
    all_goals
      have : (s.extract 0 m).data.map (fun b => Value.int .u8 (b.toNat : Int)) = ⟨ofBytes s.data.toList⟩ := by
        apply Array.ext'
        simp only [ofBytes, Array.toList_map, ByteArray.data_extract, Array.toList_extract, List.extract_eq_take_drop, List.drop_zero, Nat.sub_zero]
        rw [← hm, List.take_length]
      simp only [Builtin.firstCells, Sem.run_pure, this]
  · cases hs
    simp only [srcLen, Option.some.injEq] at hm
    subst hm
    obtain ⟨_, rfl⟩ := Value.nilSlice hvr
    exact ⟨[], .nil, fun w' => rfl, rfl, rfl⟩
  · rename_i ad n c ob
    split at hs
    · rename_i cs hcs
      split at hs
      · rename_i hle
        cases hs
        simp only [srcLen, Option.some.injEq] at hm
        subst hm
        obtain ⟨l, hl', hob'⟩ := hob ad n c ob rfl rfl
        obtain ⟨own, hcr⟩ := hob'.cells hcs
        obtain ⟨vs, g1, g2, g3⟩ := hcr.values ad.off (n * sz) hle
        cases hvr with
        | @slice b q _ _ c' ll hll hnc hcap =>
          simp only at hl' g1 g3
          rw [hl'] at hll; cases hll
          refine ⟨vs, g1, fun w' => rfl, ?_, ?_⟩
          · simp only [Builtin.firstCells]; exact loadCells_run g2 g3
          · simp only [Builtin.firstCells]; exact loadCells_run (w := w.drew) g2 g3
        | @slice0 b q _ ad' =>
          have : vs = [] := by
            have : vs.length = 0 := by rw [g2]; simp
            exact List.length_eq_zero_iff.1 this
          subst this
          refine ⟨[], by simpa using g1, fun w' => rfl, ?_, ?_⟩
          · cases ad' <;> simp [Builtin.firstCells] <;> rfl
          · cases ad' <;> simp [Builtin.firstCells] <;> rfl
      · cases hs
    · cases hs
  · cases hs
theorem new_row (h : HpR P w0 U ρ H top w) {new news : List Value} (rest : List Value) {e : TypeId} (hr : VRL ρ new news) :
    HpR P w0 U (upd ρ top ⟨w.heap.size, 0, (news ++ rest).length⟩) (aput H top (.row true new)) (top + 1) (w.drew.alloc (.cells ⟨news ++ rest⟩ e)) := by
  refine h.new (h.keep.drew.alloc _) (fun k hk => heap_push_old w.drew _ k hk) ⟨by rw [hr.length]; simp, fun i v ei => ?_, fun i hi => ⟨?_, fun _ => ?_⟩⟩ (.inl (Nat.le_refl _))
  · obtain ⟨v', g1, g2⟩ := hr.get ei
    refine ⟨v', ?_, g2.mono (Ext.upd (h.off0))⟩
    have := World.cell?_alloc_new w.drew ⟨news ++ rest⟩ e i
    rw [show w.drew.heap.size = w.heap.size from rfl] at this
    simp only [Nat.zero_add]
    rw [this]
    have hlt : i < news.length := by
      rcases Nat.lt_or_ge i news.length with h | h
      · exact h
      · rw [List.getElem?_eq_none h] at g1; cases g1
    simp only [List.getElem?_toArray]
    rw [List.getElem?_append_left hlt]; exact g1
  · have := World.cell?_alloc_new w.drew ⟨news ++ rest⟩ e i
    rw [show w.drew.heap.size = w.heap.size from rfl] at this
    simp only [Nat.zero_add]
    rw [this]
    simp only [List.getElem?_toArray]
    simp at hi ⊢; exact hi
  · have := World.frozen?_alloc_new w.drew ⟨news ++ rest⟩ e i
    rw [show w.drew.heap.size = w.heap.size from rfl] at this
    simpa using this
theorem empty_row (h : HpR P w0 U ρ H top w) : HpR P w0 U (upd ρ top ⟨0, 0, 0⟩) (aput H top (.row true [])) (top + 1) w :=
  h.new h.keep (fun _ _ => rfl) ⟨Nat.le_refl _, fun i v e => by simp at e, fun i hi => by simp at hi⟩ (.inr rfl)
theorem HpR.moveAll (h : HpR P w0 U ρ H top w) {b : Nat} {l : Loc} {ob : VObj} (hb : aget H b = some ob) (hl : ρ b = some l) (hw : writable ob = true := by rfl) : HpR P w0 U (upd ρ top l) (aput (adel H b) top ob) (top + 1) w := by
  obtain ⟨l', hl', hob, hwr⟩ := h.obj b _ hb
  rw [hl] at hl'; cases hl'
  have hx : Ext ρ (upd ρ top l) := Ext.upd (h.off0)
  refine ⟨fun i o hi => ?_, fun i j oi oj li lj hij hi hj hli hlj hwi => ?_, fun i l' e => ?_, h.keep⟩
  · rw [aget_aput] at hi
    by_cases h1 : top = i
    · subst h1
      rw [if_pos rfl] at hi; cases hi
      exact ⟨_, upd_same _ _ _, hob.same hx (fun _ => rfl), hwr⟩
    · rw [if_neg h1, aget_adel] at hi
      by_cases h2 : b = i
      · simp [h2] at hi
      · rw [if_neg h2] at hi
        obtain ⟨l', hl', hr, hw⟩ := h.obj i o hi
        exact ⟨l', by rw [upd_ne _ _ h1]; exact hl', hr.same hx (fun _ => rfl), hw⟩
  · have key : ∀ (j : Nat) oj lj, b ≠ j → aget H j = some oj → ρ j = some lj → Apart l lj := fun j oj lj hbj hj hlj => h.dis b j _ oj l lj hbj hb hj hl hlj hw
    rw [aget_aput] at hi hj
    by_cases h1 : top = i
    · subst h1
      rw [if_neg hij, aget_adel] at hj
      rw [upd_same] at hli; cases hli
      rw [upd_ne _ _ hij] at hlj
      by_cases h2 : b = j
      · simp [h2] at hj
      · rw [if_neg h2] at hj; exact key j oj lj h2 hj hlj
    · rw [if_neg h1, aget_adel] at hi
      rw [upd_ne _ _ h1] at hli
      by_cases h2 : b = i
      · simp [h2] at hi
      · rw [if_neg h2] at hi
        by_cases h3 : top = j
        · subst h3
          rw [upd_same] at hlj; cases hlj
          exact (key i oi li h2 hi hli).symm
        · rw [if_neg h3, aget_adel] at hj
          rw [upd_ne _ _ h3] at hlj
          by_cases h4 : b = j
          · simp [h4] at hj
          · rw [if_neg h4] at hj
            exact h.dis i j oi oj li lj hij hi hj hli hlj hwi
  · by_cases h1 : top = i
    · have := (inferInstance : NG U top).le; omega
    · rw [upd_ne _ _ h1] at e; exact (h.lt i l' e).imp id (fun h => by omega)
theorem empty_ty (h : HpR P w0 U ρ H top w) (t : Nat) : HpR P w0 U (upd ρ top ⟨0, 0, 0⟩) (aput H top (.ty t [])) (top + 1) w :=
  h.new h.keep (fun _ _ => rfl) ⟨⟨Nat.le_refl _, fun i v e => by simp at e, fun i hi => by simp at hi⟩, rfl, .inl rfl⟩ (.inr rfl)
theorem new_ty (h : HpR P w0 U ρ H top w) {new news : List Value} (rest : List Value) {e : TypeId} (hr : VRL ρ new news) :
    HpR P w0 U (upd ρ top ⟨w.heap.size, 0, (news ++ rest).length⟩) (aput H top (.ty e new)) (top + 1) (w.drew.alloc (.cells ⟨news ++ rest⟩ e)) := by
  have h0 := new_row h rest (e := e) hr
  obtain ⟨l, hl, hob, _⟩ := h0.obj top _ (aget_aput_same _ _ _)
  rw [upd_same] at hl; cases hl
  refine h.new (h.keep.drew.alloc _) (fun k hk => heap_push_old w.drew _ k hk) ⟨hob, rfl, .inr ?_⟩ (.inl (Nat.le_refl _))
  have : (w.drew.alloc (.cells ⟨news ++ rest⟩ e)).heap[w.heap.size]? = some (.cells ⟨news ++ rest⟩ e) := by
    show (w.drew.heap.push _)[w.drew.heap.size]? = _
    exact Array.getElem?_push_size
  unfold World.shape?
  simp only [this]
  simp
theorem grownCap_ge (w : World) (need old : Nat) (e : TypeId) : need ≤ grownCap w need old e := by simp [grownCap, Question.cut]
theorem aputs_app {b : Nat} {bs : List Nat} {objs : List VObj} (hg : agets H bs = some objs) (hne : ∀ c ∈ bs, c ≠ b) :
    ∀ i, aget (aputs H (b :: bs) (none :: objs.map some)) i = aget (adel H b) i := by
  have gen : ∀ (bs : List Nat) (objs : List VObj) (K : Hp), (∀ c ∈ bs, c ≠ b) → agets H bs = some objs → (∀ j, j ≠ b → aget K j = aget H j) → ∀ i, aget (aputs K bs (objs.map some)) i = aget K i := by
    intro bs
    induction bs with
    | nil => intro objs K _ h _ i; simp only [agets, Option.some.injEq] at h; subst h; rfl
    | cons c bs ih =>
      intro objs K hne h hK i
      simp only [agets] at h
      split at h
      · rename_i o ho
        split at h
        · rename_i os hos
          cases h
          have hcb := hne c (List.mem_cons_self ..)
          have hKc : aget K c = some o := by rw [hK c hcb]; exact ho
          simp only [List.map_cons, aputs]
          rw [ih os (aput K c o) (fun d hd => hne d (List.mem_cons_of_mem _ hd)) hos (fun j hj => by rw [aput_same hKc]; exact hK j hj) i, aput_same hKc]
        · cases h
      · cases h
  intro i
  simp only [aputs]
  exact gen bs objs (adel H b) hne hg (fun j hj => aget_adel_ne _ (fun e => hj e.symm)) i
theorem aputs_same {bs : List Nat} : ∀ {objs : List VObj}, agets H bs = some objs → ∀ i, aget (aputs H bs (objs.map some)) i = aget H i := by
  have gen : ∀ (bs : List Nat) (objs : List VObj) (K : Hp), agets H bs = some objs → (∀ j, aget K j = aget H j) → ∀ i, aget (aputs K bs (objs.map some)) i = aget H i := by
    intro bs
    induction bs with
    | nil => intro objs K h hK i; simp only [agets, Option.some.injEq] at h; subst h; exact hK i
    | cons c bs ih =>
      intro objs K h hK i
      simp only [agets] at h
      split at h
      · rename_i o ho
        split at h
        · rename_i os hos
          cases h
          simp only [List.map_cons, aputs]
          exact ih os _ hos (fun j => by rw [aput_same (by rw [hK c]; exact ho)]; exact hK j) i
        · cases h
      · cases h
  intro objs h i
  exact gen bs objs H h (fun _ => rfl) i
theorem op_app (h : HpR P w0 U ρ H top w) {t u e : TypeId} {i : TypeInfo} {z : Value} {du : TypeDesc} {y s : Operand} (ho : o.op = .call ⟨.builtin .append, #[s, y], #[t, u]⟩) (ht : P.underlying t = some (.slice e)) (hu : P.underlying u = some du)
    (hdu : du = .string ∨ ∃ e', du = .slice e') (hi : P.info? e = some i) (hz : i.zero = some z) (h1 : 1 ≤ i.bytes) (hzs : (cellsL z).length = i.size)
    (hv : VRL ρ vals [a s, a y]) (hr : opRun (.app e i.size i.bytes s y) vals H top = some (x, H', top')) : Done P w0 U ρ o a w x H' top' := by
  have hexec : ∀ r w', (Builtin.append_ #[t, u] o.type #[a s, a y]).run P w = .ok r w' → (execOp a o).run P w = .ok (.value r) w' := by
    intro r w' hrun
    simp only [execOp, ho, resolve, invoke, Go.builtin, Sem.run_bind, Sem.run_pure, Result.andThen_ok, List.map_toArray, List.map, hrun]
  simp only [opRun] at hr
  split at hr
  · cases hr
  rename_i objs hobjs
  split at hr
  · cases hr
  rename_i rv ro rf hc
  simp only [core] at hc
  unfold c_app at hc
  split at hc
  · rename_i c v _
    obtain ⟨s', y', e1, k1, k2⟩ := hv.inv2
    simp only [List.cons.injEq, and_true] at e1
    obtain ⟨e1, e2⟩ := e1
    obtain ⟨_, rfl⟩ := Value.nilSlice k1
    split at hc
    · rename_i new m hs hm
      split at hc
      · rename_i hb
        cases hc
        obtain ⟨news, g1, g2, g3, g4⟩ := src_run (P := P) (w := w) k2 hs hm (fun ad n c ob hv' hob' => by
          subst hv' hob'
          simp only [needs, List.take, List.flatMap_cons, addrBlk, List.flatMap_nil, List.append_nil, List.nil_append, agets] at hobjs
          split at hobjs
          · rename_i ob' hg
            simp only [Option.some.injEq, List.cons.injEq, and_true] at hobjs
            subst hobjs
            obtain ⟨l, q1, q2, _⟩ := h.obj _ _ hg
            exact ⟨l, q1, q2⟩
          · cases hobjs) hb.2
        have hrun := append_run (P := P) (w := w) (ty := o.type) ht hu hdu hi hz (base := none) (n := 0) (c := 0) g2 (olds := []) (by simp [Builtin.firstCells]) g3 g4 h1 (by simpa using hb.1)
        simp only [Option.some.injEq, Prod.mk.injEq] at hr
        obtain ⟨rfl, rfl, rfl⟩ := hr
        have hcong := aputs_same (H := H) hobjs
        rcases Nat.eq_zero_or_pos m with h0 | h0
        · subst h0
          have hnew : new = [] := List.length_eq_zero_iff.1 (by rw [hb.2]; simp)
          subst hnew
          have hrn := hexec _ _ (by rw [e1, e2]; exact (hrun.1 (by omega)))
          refine ⟨upd ρ top ⟨0, 0, 0⟩, w, _, hrn, Ext.upd (h.off0), ?_, _, rfl, .slice0 _⟩
          refine (empty_row h).congr (fun j => ?_)
          rw [aget_aput, aget_aput, hcong]
        · have hrn := hexec _ _ (by rw [e1, e2]; exact (hrun.2 (by omega)))
          simp only [List.nil_append, Nat.zero_add] at hrn
          have hcap := grownCap_ge w m 0 e
          have hzl : (Builtin.zeroCells z.cells (grownCap w m 0 e - m)).toList.length = (grownCap w m 0 e - m) * i.size := by rw [← hzs]; simp [Builtin.zeroCells, cellsL]
          refine ⟨_, _, _, hrn, Ext.upd (h.off0), (new_row h _ g1).congr (fun j => by rw [aget_aput, aget_aput, hcong]), _, rfl, ?_⟩
          have := VR.slice (ρ := upd ρ top ⟨w.heap.size, 0, (news ++ (Builtin.zeroCells z.cells (grownCap w m 0 e - m)).toList).length⟩) (b := top) (o := 0) (n := m) (sz := i.size) (c := grownCap w m 0 e) (upd_same _ _ _) hcap (by
            rw [List.length_append, hzl, ← g1.length, hb.2, ← Nat.add_mul]
            simp only [Nat.zero_add]
            exact Nat.mul_le_mul_right _ (by omega))
          simpa using this
      · cases hc
    · cases hc
  · rename_i b q n sz' v cs objs'
    obtain ⟨s', y', e1, k1, k2⟩ := hv.inv2
    simp only [List.cons.injEq, and_true] at e1
    obtain ⟨e1, e2⟩ := e1
    split at hc
    · rename_i new m hs hm
      split at hc
      · rename_i hb
        obtain ⟨b1, b2, rfl, b4, b5, b6⟩ := hb
        cases hc
        have hnd : needs (.app e i.size i.bytes s y) [.slice (some ⟨b, q, none⟩) n i.size, v] = b :: addrBlk v := by simp [needs, addrBlk]
        rw [hnd] at hr hobjs
        simp only [agets] at hobjs
        split at hobjs
        case h_2 => cases hobjs
        rename_i ob0 hg0
        split at hobjs
        case h_2 => cases hobjs
        rename_i os0 hos
        simp only [Option.some.injEq, List.cons.injEq] at hobjs
        obtain ⟨rfl, rfl⟩ := hobjs
        have hne : ∀ c ∈ addrBlk v, c ≠ b := fun c hc e => by
          have := List.all_eq_true.1 b6 c hc
          subst e
          simp [Nat.beq_refl] at this
        obtain ⟨l0, hl0, hob0, hwr0⟩ := h.obj b _ hg0
        have hcr0 : CellsR ρ w l0 true cs := hob0
        obtain ⟨news, g1, g2, g3, g4⟩ := src_run (P := P) (w := w) k2 hs hm (fun ad n c ob hv' hob' => by
          subst hv' hob'
          simp only [addrBlk, agets] at hos
          split at hos
          · rename_i ob' hg
            simp only [Option.some.injEq, List.cons.injEq, and_true] at hos
            subst hos
            obtain ⟨l, q1, q2, _⟩ := h.obj _ _ hg
            exact ⟨l, q1, q2⟩
          · cases hos) b4
        obtain ⟨olds, o1, o2, o3⟩ := hcr0.values q (n * i.size) b2
        simp only [Option.some.injEq, Prod.mk.injEq] at hr
        obtain ⟨rfl, rfl, rfl⟩ := hr
        have hcong := aputs_app (b := b) hos hne
        have hres : ∀ (l' : Loc) (c : Nat), (c = 0 → n + m = 0 → True) → n + m ≤ c → c * i.size ≤ l'.ext → VR (upd ρ top l') (.slice (some ⟨top, 0, none⟩) (n + m) i.size) (.slice (some ⟨l'.blk, l'.sh, none⟩) (n + m) c) := fun l' c _ h3 h4 => by
          have := VR.slice (ρ := upd ρ top l') (b := top) (o := 0) (n := n + m) (sz := i.size) (c := c) (upd_same _ _ _) h3 (by omega)
          simpa using this
        have hgrow : ∀ (base : Option Addr) (c : Nat), a s = .slice base n c → (Builtin.firstCells i.size n (.slice base n c)).run P w.drew = .ok ⟨olds⟩ w.drew → c < n + m →
            Done P w0 U ρ o a w (some (.slice (some ⟨top, 0, none⟩) (n + m) i.size)) (aput (aputs H (b :: addrBlk v) (none :: os0.map some)) top (.row true ((cs.drop q).take (n * i.size) ++ new))) (top + 1) := by
          intro base c hbase hfo hlt
          have hrun := append_run (P := P) (w := w) (ty := o.type) ht hu hdu hi hz (base := base) (n := n) (c := c) g2 (olds := olds) hfo g3 g4 h1 b1
          have hrn := hexec _ _ (by rw [hbase, e2]; exact (hrun.2 hlt))
          have hcap := grownCap_ge w (n + m) c e
          have hzl : (Builtin.zeroCells z.cells (grownCap w (n + m) c e - (n + m))).toList.length = (grownCap w (n + m) c e - (n + m)) * i.size := by rw [← hzs]; simp [Builtin.zeroCells, cellsL]
          refine ⟨_, _, _, hrn, Ext.upd (h.off0), (new_row (h.del b) _ (VRL.append o1 g1)).congr (fun j => by rw [aget_aput, aget_aput, hcong]), _, rfl, ?_⟩
          refine hres ⟨w.heap.size, 0, _⟩ _ (fun _ _ => trivial) hcap ?_
          rw [List.length_append, hzl, List.length_append, o2, ← g1.length, b4, ← Nat.add_mul, ← Nat.add_mul]
          exact Nat.mul_le_mul_right _ (by omega)
        cases k1 with
        | @slice _ _ _ _ c l hl hnc hcap =>
          rw [hl0] at hl; cases hl
          have hfo : (Builtin.firstCells i.size n (.slice (some ⟨l0.blk, l0.sh + q, none⟩) n c)).run P w.drew = .ok ⟨olds⟩ w.drew := by
            simp only [Builtin.firstCells]; exact loadCells_run (w := w.drew) o2 o3
          rcases Nat.lt_or_ge c (n + m) with hlt | hge
          · exact hgrow _ c e1 hfo hlt
          ·
            have hrun := append_run (P := P) (w := w) (ty := o.type) ht hu hdu hi hz (base := some ⟨l0.blk, l0.sh + q, none⟩) (n := n) (c := c) g2 (olds := olds) hfo g3 g4 h1 b1
            have hext := hcr0.1
            have hnm : n * i.size + m * i.size ≤ c * i.size := by rw [← Nat.add_mul]; exact Nat.mul_le_mul_right _ hge
            have hnl := g1.length
            obtain ⟨w', f1, f2, f3, f4, f5, f6, f7, f8⟩ := storeCells_run (P := P) l0.blk (l0.sh + q + n * i.size) news 0 w (fun j hj => by
              have := hcr0.2.2 (q + n * i.size + j) (by omega)
              rw [show l0.sh + q + n * i.size + 0 + j = l0.sh + (q + n * i.size + j) by omega]
              exact ⟨this.1, this.2 rfl⟩) (by rw [← g1.oneC]; exact b5)
            have hnew : CellsR ρ w' l0 true (cs.take (q + n * i.size) ++ new) := by
              refine ⟨by simp; omega, fun k v' hk => ?_, fun k hk => ⟨?_, fun _ => ?_⟩⟩
              · rcases Nat.lt_or_ge k (q + n * i.size) with h3 | h3
                · rw [List.getElem?_append_left (by simp; omega), List.getElem?_take, if_pos h3] at hk
                  obtain ⟨u', q1, q2⟩ := hcr0.2.1 k v' hk
                  exact ⟨u', by rw [f3 _ _ (by omega)]; exact q1, q2⟩
                · rw [List.getElem?_append_right (by simp; omega)] at hk
                  simp only [List.length_take, Nat.min_eq_left b2] at hk
                  obtain ⟨u', q1, q2⟩ := g1.get hk
                  refine ⟨u', ?_, q2⟩
                  have := f2 _ u' q1
                  rw [show l0.sh + q + n * i.size + 0 + (k - (q + n * i.size)) = l0.sh + k by omega] at this
                  exact this
              · by_cases h3 : q + n * i.size ≤ k ∧ k < q + n * i.size + news.length
                · have := f2 (k - (q + n * i.size)) _ (List.getElem?_eq_getElem (by omega))
                  rw [show l0.sh + q + n * i.size + 0 + (k - (q + n * i.size)) = l0.sh + k by omega] at this
                  rw [this]; rfl
                · rw [f3 _ _ (by omega)]; exact (hcr0.2.2 k hk).1
              · rw [f4]; exact (hcr0.2.2 k hk).2 rfl
            have hk : Keep U w0 w' := f7 w0 U h.keep (fun k k1 k2 => hwr0 rfl k (by omega) (by omega))
            have hbk : ∀ (b' : Nat), (∀ c t f, w.heap[b']? ≠ some (Obj.cells c t f)) → w'.heap[b']? = w.heap[b']? := by
              intro b' hb'
              by_cases hbb : b' = l0.blk
              · subst hbb
                cases hnw : news with
                | nil => rw [f6 hnw]
                | cons r rs =>
                  exfalso
                  have hp : 0 < m * i.size := by rw [← b4, hnl, hnw]; simp
                  have := (hcr0.2.2 q (by omega)).1
                  unfold World.cell? at this
                  cases hh : w.heap[l0.blk]? with
                  | none => simp [hh] at this
                  | some y => cases y <;> simp [hh] at this <;> exact hb' _ _ _ hh
              · exact f5 b' hbb
            have hput : HpR P w0 U ρ (aput H b (.row true (cs.take (q + n * i.size) ++ new))) top w' :=
              h.put hg0 hl0 rfl hk hnew (fun b' k hk' => f3 b' k (by omega)) (fun b' k _ => f4 b' k) (fun b' hb' _ => hbk b' hb') (fun b' x hx => by rw [f8]; exact hx)
            have hdrop : (cs.take (q + n * i.size) ++ new).drop q = (cs.drop q).take (n * i.size) ++ new := by
              rw [List.drop_append_of_le_length (by simp; omega), List.drop_take]
              congr 2
              omega
            have hmv := hput.move (q := q) (ext := c * i.size) (aget_aput_same _ _ _) hl0 (by omega) (by rw [hdrop]; simp; omega)
            rw [hdrop] at hmv
            have hrn := hexec _ w' (by
              rw [e1, e2, hrun.1 hge]
              simp only [addr_add, f1]
              rfl)
            refine ⟨_, w', _, hrn, Ext.upd (h.off0), hmv.congr (fun j => ?_), _, rfl, hres ⟨l0.blk, l0.sh + q, c * i.size⟩ c (fun _ _ => trivial) hge (Nat.le_refl _)⟩
            rw [aget_aput, aget_aput, hcong]
            by_cases h3 : top = j
            · rw [if_pos h3, if_pos h3]
            · rw [if_neg h3, if_neg h3, aget_adel, aget_adel]
              by_cases h4 : b = j
              · rw [if_pos h4, if_pos h4]
              · rw [if_neg h4, if_neg h4, aget_aput_ne _ _ h4]
        | @slice0 _ _ _ ad =>
          have holds : olds = [] := List.length_eq_zero_iff.1 (by rw [o2]; simp)
          subst holds
          have hfo : (Builtin.firstCells i.size 0 (.slice ad 0 0)).run P w.drew = .ok ⟨[]⟩ w.drew := by cases ad <;> simp [Builtin.firstCells] <;> rfl
          rcases Nat.eq_zero_or_pos m with h0 | h0
          · subst h0
            have hnew : new = [] := List.length_eq_zero_iff.1 (by rw [b4]; simp)
            subst hnew
            have hnw : news = [] := g1.inv0
            subst hnw
            have hrun := append_run (P := P) (w := w) (ty := o.type) ht hu hdu hi hz (base := ad) (n := 0) (c := 0) g2 (olds := []) hfo g3 g4 h1 b1
            have hrn := hexec (.slice ad 0 0) w (by
              rw [e1, e2, hrun.1 (by omega)]
              cases ad <;> rfl)
            refine ⟨upd ρ top ⟨0, 0, 0⟩, w, _, hrn, Ext.upd (h.off0), ?_, _, rfl, by simpa using VR.slice0 ad⟩
            simp only [Nat.zero_mul, List.take_zero, List.append_nil]
            exact (empty_row (h.del b)).congr (fun j => by rw [aget_aput, aget_aput, hcong])
          · exact hgrow _ 0 e1 hfo (by omega)
      · cases hc
    · cases hc
  ·
    rename_i os1 mm e' v
    obtain ⟨s', y', e1, k1, k2⟩ := hv.inv2
    simp only [List.cons.injEq, and_true] at e1
    obtain ⟨e1, e2⟩ := e1
    have k1' : s' = .slice none 0 0 := by cases k1; rfl
    subst k1'
    split at hc
    · rename_i new m hs hm
      split at hc
      · rename_i hb
        obtain ⟨hb1, hb2, hb3, hb4⟩ := hb
        subst hb4
        cases hc
        obtain ⟨news, g1, g2, g3, g4⟩ := src_run (P := P) (w := w) k2 hs hm (fun ad n c ob hv' hob' => by
          subst hv' hob'
          simp only [needs, List.take, List.flatMap_cons, addrBlk, List.flatMap_nil, List.append_nil, List.nil_append, agets] at hobjs
          split at hobjs
          · rename_i ob' hg
            simp only [Option.some.injEq, List.cons.injEq, and_true] at hobjs
            subst hobjs
            obtain ⟨l, q1, q2, _⟩ := h.obj _ _ hg
            exact ⟨l, q1, q2⟩
          · cases hobjs) hb2
        have hrun := append_run (P := P) (w := w) (ty := o.type) ht hu hdu hi hz (base := none) (n := 0) (c := 0) g2 (olds := []) (by simp [Builtin.firstCells]) g3 g4 h1 (by simpa using hb1)
        simp only [Option.some.injEq, Prod.mk.injEq] at hr
        obtain ⟨rfl, rfl, rfl⟩ := hr
        have hcong := aputs_same (H := H) hobjs
        rcases Nat.eq_zero_or_pos m with h0 | h0
        · subst h0
          have hnew : new = [] := List.length_eq_zero_iff.1 (by rw [hb2]; simp)
          subst hnew
          have hrn := hexec _ _ (by rw [e1, e2]; exact (hrun.1 (by omega)))
          refine ⟨upd ρ top ⟨0, 0, 0⟩, w, _, hrn, Ext.upd (h.off0), ?_, _, rfl, .tsl "" (upd_same _ _ _) (.inl ⟨rfl, rfl⟩)⟩
          refine (empty_ty h e').congr (fun j => ?_)
          rw [aget_aput, aget_aput, hcong]
        · have hrn := hexec _ _ (by rw [e1, e2]; exact (hrun.2 (by omega)))
          simp only [List.nil_append, Nat.zero_add] at hrn
          have hcap := grownCap_ge w m 0 e'
          have hzl : (Builtin.zeroCells z.cells (grownCap w m 0 e' - m)).toList.length = (grownCap w m 0 e' - m) * i.size := by rw [← hzs]; simp [Builtin.zeroCells, cellsL]
          refine ⟨_, _, _, hrn, Ext.upd (h.off0), (new_ty h _ g1).congr (fun j => by rw [aget_aput, aget_aput, hcong]), _, rfl, .tsl "" (upd_same _ _ _) (.inr ⟨_, rfl, hcap, by omega, ?_⟩)⟩
          simp only [List.length_append, hzl, ← g1.length, hb2, hb3, Nat.mul_one]
          omega
      · cases hc
    · cases hc
  ·
    rename_i mm b n v t' cs objs'
    obtain ⟨s', y', e1, k1, k2⟩ := hv.inv2
    simp only [List.cons.injEq, and_true] at e1
    obtain ⟨e1, e2⟩ := e1
    split at hc
    · rename_i new m hs hm
      split at hc
      · rename_i hb
        obtain ⟨b1, b2, b3, rfl, b4, b5, b6⟩ := hb
        cases hc
        have hnd : needs (.app t' i.size i.bytes s y) [.func (.method mm) ⟨[.slice (some ⟨b, 0, none⟩) n 1]⟩ ⟨[]⟩, v] = b :: addrBlk v := by simp [needs, addrBlk]
        rw [hnd] at hr hobjs
        simp only [agets] at hobjs
        split at hobjs
        case h_2 => cases hobjs
        rename_i ob0 hg0
        split at hobjs
        case h_2 => cases hobjs
        rename_i os0 hos
        simp only [Option.some.injEq, List.cons.injEq] at hobjs
        obtain ⟨rfl, rfl⟩ := hobjs
        have hne : ∀ c ∈ addrBlk v, c ≠ b := fun c hc e => by
          have := List.all_eq_true.1 b6 c hc
          subst e
          simp [Nat.beq_refl] at this
        obtain ⟨l0, hl0, ⟨hcr0, hsh0, hty0⟩, hwr0⟩ := h.obj b _ hg0
        have b4' : new.length = m * i.size := by rw [b3, Nat.mul_one]; exact b4
        obtain ⟨news, g1, g2, g3, g4⟩ := src_run (P := P) (w := w) k2 hs hm (fun ad n c ob hv' hob' => by
          subst hv' hob'
          simp only [addrBlk, agets] at hos
          split at hos
          · rename_i ob' hg
            simp only [Option.some.injEq, List.cons.injEq, and_true] at hos
            subst hos
            obtain ⟨l, q1, q2, _⟩ := h.obj _ _ hg
            exact ⟨l, q1, q2⟩
          · cases hos) b4'
        obtain ⟨olds, o1, o2, o3⟩ := hcr0.values 0 (n * i.size) (by rw [b3]; omega)
        have o1' : VRL ρ (cs.take n) olds := by rw [b3] at o1; simpa using o1
        simp only [Option.some.injEq, Prod.mk.injEq] at hr
        obtain ⟨rfl, rfl, rfl⟩ := hr
        have hcong := aputs_app (b := b) hos hne
        have hgrow : ∀ (base : Option Addr) (c : Nat), a s = .slice base n c → (Builtin.firstCells i.size n (.slice base n c)).run P w.drew = .ok ⟨olds⟩ w.drew → c < n + m →
            Done P w0 U ρ o a w (some (bSl top (n + m))) (aput (aputs H (b :: addrBlk v) (none :: os0.map some)) top (.ty t' (cs.take n ++ new))) (top + 1) := by
          intro base c hbase hfo hlt
          have hrun := append_run (P := P) (w := w) (ty := o.type) ht hu hdu hi hz (base := base) (n := n) (c := c) g2 (olds := olds) hfo g3 g4 h1 b1
          have hrn := hexec _ _ (by rw [hbase, e2]; exact (hrun.2 hlt))
          have hcap := grownCap_ge w (n + m) c t'
          have hzl : (Builtin.zeroCells z.cells (grownCap w (n + m) c t' - (n + m))).toList.length = (grownCap w (n + m) c t' - (n + m)) * i.size := by rw [← hzs]; simp [Builtin.zeroCells, cellsL]
          refine ⟨_, _, _, hrn, Ext.upd (h.off0), (new_ty (h.del b) _ (VRL.append o1' g1)).congr (fun j => by rw [aget_aput, aget_aput, hcong]), _, rfl, .tsl "" (upd_same _ _ _) (.inr ⟨_, rfl, hcap, by omega, ?_⟩)⟩
          simp only [List.length_append, hzl, o2, ← g1.length, b4, b3, Nat.mul_one]
          omega
        cases k1 with
        | tsl _ hl hv' =>
          rename_i l
          rw [hl0] at hl; cases hl
          rcases hv' with ⟨rfl, rfl⟩ | ⟨c, rfl, hnc, hc0, hce⟩
          · have holds : olds = [] := List.length_eq_zero_iff.1 (by rw [o2]; simp)
            subst holds
            have hfo : (Builtin.firstCells i.size 0 (.slice none 0 0)).run P w.drew = .ok ⟨[]⟩ w.drew := by simp [Builtin.firstCells]
            rcases Nat.eq_zero_or_pos m with h0 | h0
            · subst h0
              have hnew : new = [] := List.length_eq_zero_iff.1 b4
              subst hnew
              have hrun := append_run (P := P) (w := w) (ty := o.type) ht hu hdu hi hz (base := none) (n := 0) (c := 0) g2 (olds := []) hfo g3 g4 h1 b1
              have hrn := hexec (.slice none 0 0) w (by
                rw [e1, e2, hrun.1 (by omega)]; rfl)
              refine ⟨upd ρ top ⟨0, 0, 0⟩, w, _, hrn, Ext.upd (h.off0), ?_, _, rfl, .tsl "" (upd_same _ _ _) (.inl ⟨rfl, rfl⟩)⟩
              simp only [List.take_zero, List.append_nil]
              exact (empty_ty (h.del b) t').congr (fun j => by rw [aget_aput, aget_aput, hcong])
            · exact hgrow none 0 e1 hfo (by omega)
          · have hfo : (Builtin.firstCells i.size n (.slice (some ⟨l0.blk, l0.sh, none⟩) n c)).run P w.drew = .ok ⟨olds⟩ w.drew := by
              simp only [Builtin.firstCells]; exact loadCells_run (w := w.drew) (q := 0) o2 o3
            rcases Nat.lt_or_ge c (n + m) with hlt | hge
            · exact hgrow _ c e1 hfo hlt
            ·
              have hrun := append_run (P := P) (w := w) (ty := o.type) ht hu hdu hi hz (base := some ⟨l0.blk, l0.sh, none⟩) (n := n) (c := c) g2 (olds := olds) hfo g3 g4 h1 b1
              have hnl := g1.length
              obtain ⟨w', f1, f2, f3, f4, f5, f6, f7, f8⟩ := storeCells_run (P := P) l0.blk (l0.sh + n * i.size) news 0 w (fun j hj => by
                have := hcr0.2.2 (n + j) (by omega)
                rw [b3, Nat.mul_one, show l0.sh + n + 0 + j = l0.sh + (n + j) by omega]
                exact ⟨this.1, this.2 rfl⟩) (by rw [← g1.oneC]; exact b5)
              rw [b3, Nat.mul_one] at f1 f2 f3 f7
              have hnew : CellsR ρ w' l0 true (cs.take n ++ new) := by
                refine ⟨by simp; omega, fun k v' hk => ?_, fun k hk => ⟨?_, fun _ => ?_⟩⟩
                · rcases Nat.lt_or_ge k n with h3 | h3
                  · rw [List.getElem?_append_left (by simp; omega), List.getElem?_take, if_pos h3] at hk
                    obtain ⟨u', q1, q2⟩ := hcr0.2.1 k v' hk
                    exact ⟨u', by rw [f3 _ _ (by omega)]; exact q1, q2⟩
                  · rw [List.getElem?_append_right (by simp; omega)] at hk
                    simp only [List.length_take, Nat.min_eq_left b2] at hk
                    obtain ⟨u', q1, q2⟩ := g1.get hk
                    refine ⟨u', ?_, q2⟩
                    have := f2 _ u' q1
                    rw [show l0.sh + n + 0 + (k - n) = l0.sh + k by omega] at this
                    exact this
                · by_cases h3 : n ≤ k ∧ k < n + news.length
                  · have := f2 (k - n) _ (List.getElem?_eq_getElem (by omega))
                    rw [show l0.sh + n + 0 + (k - n) = l0.sh + k by omega] at this
                    rw [this]; rfl
                  · rw [f3 _ _ (by omega)]; exact (hcr0.2.2 k hk).1
                · rw [f4]; exact (hcr0.2.2 k hk).2 rfl
              have hk : Keep U w0 w' := f7 w0 U h.keep (fun k k1 k2 => hwr0 rfl k (by omega) (by omega))
              have hbk : ∀ (b' : Nat), (∀ c t f, w.heap[b']? ≠ some (Obj.cells c t f)) → w'.heap[b']? = w.heap[b']? := by
                intro b' hb'
                by_cases hbb : b' = l0.blk
                · subst hbb
                  exfalso
                  have := (hcr0.2.2 0 (by omega)).1
                  unfold World.cell? at this
                  cases hh : w.heap[l0.blk]? with
                  | none => simp [hh] at this
                  | some y => cases y <;> simp [hh] at this <;> exact hb' _ _ _ hh
                · exact f5 b' hbb
              have hput : HpR P w0 U ρ (aput H b (.ty t' (cs.take n ++ new))) top w' :=
                h.put hg0 hl0 rfl hk ⟨hnew, hsh0, by rw [f8]; exact hty0⟩ (fun b' k hk' => f3 b' k (by omega)) (fun b' k _ => f4 b' k) (fun b' hb' _ => hbk b' hb') (fun b' x hx => by rw [f8]; exact hx)
              have hmv := hput.moveAll (aget_aput_same _ _ _) hl0
              have hrn := hexec _ w' (by
                rw [e1, e2, hrun.1 hge]
                simp only [b3, Nat.mul_one, addr_add, f1]
                rfl)
              refine ⟨_, w', _, hrn, Ext.upd (h.off0), hmv.congr (fun j => ?_), _, rfl, .tsl "" (upd_same _ _ _) (.inr ⟨c, rfl, hge, hc0, hce⟩)⟩
              rw [aget_aput, aget_aput, hcong]
              by_cases h3 : top = j
              · rw [if_pos h3, if_pos h3]
              · rw [if_neg h3, if_neg h3, aget_adel, aget_adel]
                by_cases h4 : b = j
                · rw [if_pos h4, if_pos h4]
                · rw [if_neg h4, if_neg h4, aget_aput_ne _ _ h4]
      · cases hc
    · cases hc
  · cases hc
end
end Go.Vm
