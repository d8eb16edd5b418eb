import Derived.Test.YtdnhoocoofnibaaVmMem
namespace Go.Vm
open Go Go.RowKit
section
variable {P : Program} {w0 : World} {U : UG} {ρ : Ren} {o : Oper} {a : Operand → Value} {w : World} {H : Hp} {top : Nat} [NG U top]
  {x : Option Value} {H' : Hp} {top' : Nat} {vals : List Value}
theorem op_rangeS (h : HpR P w0 U ρ H top w) {t : TypeId} {y : Operand} (ho : o.op = .range t y) (ht : P.underlying t = some .string) (hv : VRL ρ vals [a y])
    (hr : opRun (.rangeS y) vals H top = some (x, H', top')) : Done P w0 U ρ o a w x H' top' := by
  obtain ⟨r, hc, rfl, hh⟩ := opRun_none rfl hr
  simp only [core] at hc
  unfold c_rangeS at hc; split at hc
  · rename_i s _
    obtain ⟨v1, e, h1⟩ := hv.inv1
    simp only [List.cons.injEq, and_true] at e
    cases h1
    cases hc
    rcases hh with ⟨e', _⟩ | ⟨ob, e', rfl, rfl⟩
    · cases e'
    · cases e'
      refine ⟨upd ρ top ⟨w.heap.size, 0, 1⟩, w.alloc (.stringIter s 0), .value (.pointer (some ⟨w.heap.size, 0, none⟩)), ?_, Ext.upd (h.off0), ?_, _, rfl, .ptr (upd_same _ _ _)⟩
      · simp [execOp, ho, Instr.range, run_underlying ht, e]
      · refine h.new (h.keep.alloc _) (heap_push_old _ _) ⟨?_, rfl, rfl⟩ (.inl (Nat.le_refl _))
        show (w.heap.push (.stringIter s 0))[w.heap.size]? = _
        simp
  · cases hc
theorem cell_setObj (w : World) (r : Nat) (ob : Obj) (h : ∀ c t f, w.heap[r]? ≠ some (.cells c t f)) (h' : ∀ c t f, ob ≠ .cells c t f) (b k : Nat) :
    ({ w with heap := w.heap.setIfInBounds r ob } : World).cell? ⟨b, k, none⟩ = w.cell? ⟨b, k, none⟩ := by
  by_cases hb : b = r
  · subst hb
    unfold World.cell?
    simp only [Array.getElem?_setIfInBounds]
    cases hw : w.heap[b]? with
    | none =>
      rw [Array.getElem?_eq_none_iff] at hw
      simp [show ¬ b < w.heap.size by omega]
    | some y =>
      have hlt : b < w.heap.size := by
        rcases Nat.lt_or_ge b w.heap.size with h | h
        · exact h
        · rw [Array.getElem?_eq_none h] at hw; cases hw
      simp only [hlt, ↓reduceIte]
      cases y <;> first | exact absurd hw (h _ _ _) | (cases ob <;> first | exact absurd rfl (h' _ _ _) | rfl)
  · unfold World.cell?
    rw [heap_setObj w r ob b hb]
theorem frozen_setObj (w : World) (r : Nat) (ob : Obj) (h : ∀ c t f, w.heap[r]? ≠ some (.cells c t f)) (h' : ∀ c t f, ob ≠ .cells c t f) (b k : Nat) :
    ({ w with heap := w.heap.setIfInBounds r ob } : World).frozen? ⟨b, k, none⟩ = w.frozen? ⟨b, k, none⟩ := by
  by_cases hb : b = r
  · subst hb
    unfold World.frozen?
    simp only [Array.getElem?_setIfInBounds]
    cases hw : w.heap[b]? with
    | none =>
      rw [Array.getElem?_eq_none_iff] at hw
      simp [show ¬ b < w.heap.size by omega]
    | some y =>
      have hlt : b < w.heap.size := by
        rcases Nat.lt_or_ge b w.heap.size with h | h
        · exact h
        · rw [Array.getElem?_eq_none h] at hw; cases hw
      simp only [hlt, ↓reduceIte]
      cases y <;> first | exact absurd hw (h _ _ _) | (cases ob <;> first | exact absurd rfl (h' _ _ _) | rfl)
  · unfold World.frozen?
    rw [heap_setObj w r ob b hb]
theorem HpR.setObj {P : Program} {w0 : World} {U : UG} {ρ : Ren} {H : Hp} {top : Nat} {w : World} (h : HpR P w0 U ρ H top w) {b : Nat} {ob ob' : VObj} {l : Loc} {r r' : Obj} (hb : aget H b = some ob) (hl : ρ b = some l) (hwr : writable ob = true) (hle : l.sh = 0 ∧ l.ext = 1)
    (hr : w.heap[l.blk]? = some r) (hn : ∀ c t f, r ≠ .cells c t f) (hn' : ∀ c t f, r' ≠ .cells c t f)
    (ho : ObjR P ρ ({ w with heap := w.heap.setIfInBounds l.blk r' } : World) l ob') :
    HpR P w0 U ρ (aput H b ob') top { w with heap := w.heap.setIfInBounds l.blk r' } := by
  obtain ⟨l', hl', _, hU⟩ := h.obj b ob hb
  rw [hl] at hl'; cases hl'
  have hnc : ∀ c t f, w.heap[l.blk]? ≠ some (.cells c t f) := fun c t f e => hn c t f (Option.some.inj (hr.symm.trans e))
  refine h.put hb hl hwr (h.keep.setObj l.blk r' (hU hwr 0 (by omega) (by omega)) hnc) ho (fun b' k _ => cell_setObj w l.blk r' hnc hn' b' k) (fun b' k _ => frozen_setObj w l.blk r' hnc hn' b' k) (fun b' _ hne => ?_) (fun b' x hx => ?_)
  rotate_left
  · by_cases hbl : b' = l.blk
    · subst hbl; unfold World.shape? at hx; rw [hr] at hx; cases r <;> first | exact absurd rfl (hn _ _ _) | cases hx
    · unfold World.shape? at hx ⊢; rw [heap_setObj _ _ _ _ hbl]; exact hx
  refine heap_setObj w l.blk r' b' fun e => hne ⟨e, hle.1, by omega⟩
theorem heap_setObj_same (w : World) (r : Nat) (ob ob' : Obj) (h : w.heap[r]? = some ob) : ({ w with heap := w.heap.setIfInBounds r ob' } : World).heap[r]? = some ob' := by
  have hlt : r < w.heap.size := by
    rcases Nat.lt_or_ge r w.heap.size with h' | h'
    · exact h'
    · rw [Array.getElem?_eq_none h'] at h; cases h
  show (w.heap.setIfInBounds r ob')[r]? = _
  simp [hlt]
theorem run_getObj {r : Nat} {ob : Obj} (h : w.heap[r]? = some ob) (hn : ∀ c t f, ob ≠ .cells c t f) : (getObj r).run P w = .ok ob w := by
  cases ob <;> first | exact absurd rfl (hn _ _ _) | simp [getObj, Sem.run, h]
theorem run_setObj {r : Nat} {ob ob' : Obj} (h : w.heap[r]? = some ob) (hn : ∀ c t f, ob ≠ .cells c t f) : (setObj r ob').run P w = .ok () { w with heap := w.heap.setIfInBounds r ob' } := by
  cases ob <;> first | exact absurd rfl (hn _ _ _) | simp [Go.setObj, Sem.run, h]
theorem op_nextS (h : HpR P w0 U ρ H top w) {y : Operand} (ho : o.op = .next y true) (hv : VRL ρ vals [a y])
    (hr : opRun (.nextS y) vals H top = some (x, H', top')) : Done P w0 U ρ o a w x H' top' := by
  have hn : ∃ b, vals = [.pointer (some ⟨b, 0, none⟩)] := by
    obtain ⟨objs, rr, hc⟩ := opRun_core hr
    change c_nextS vals objs = _ at hc
    unfold c_nextS at hc
    split at hc
    · exact ⟨_, rfl⟩
    · cases hc
  obtain ⟨b, rfl⟩ := hn
  obtain ⟨v1, e, h1⟩ := hv.inv1
  simp only [List.cons.injEq, and_true] at e
  obtain ⟨ob, r, hb, hc, rfl, hh⟩ := opRun_one (b := b) rfl hr
  cases h1 with | @ptr _ _ l hl =>
  obtain ⟨l', hl', hob, _⟩ := h.obj b ob hb
  rw [hl] at hl'; cases hl'
  cases ob <;> simp only [core, c_nextS] at hc <;> try (cases hc; done)
  · rename_i s pos _
    obtain ⟨g1, g2, g3⟩ := hob
    have ha : a y = .pointer (some ⟨l.blk, 0, none⟩) := by rw [e, g2]
    split at hc
    · rename_i hlt
      cases hc
      rcases hh with ⟨_, rfl, rfl⟩ | ⟨fo, e', _⟩
      · refine ⟨ρ, { w with heap := w.heap.setIfInBounds l.blk (.stringIter s (pos + (Utf8.decode s pos).2)) }, .value (.tuple #[.bool true, .int .i64 pos, .int .i32 (Utf8.decode s pos).1]), ?_, Ext.refl ρ, ?_, _, rfl, .tuple (.cons (.bool _) (.cons (.int _ _) (.cons (.int _ _) .nil)))⟩
        · simp only [execOp, ho, Instr.next, ha, Sem.run_bind, run_getObj g1 (by simp), Result.andThen_ok, hlt, ↓reduceIte, run_setObj g1 (by simp), Sem.run_pure, goInt]
        · exact h.setObj hb hl rfl ⟨g2, g3⟩ g1 (by simp) (by simp) ⟨heap_setObj_same _ _ _ _ g1, g2, g3⟩
      · cases e'
    · rename_i hlt
      cases hc
      rcases hh with ⟨_, rfl, rfl⟩ | ⟨fo, e', _⟩
      · refine ⟨ρ, w, .value (.tuple #[.bool false]), ?_, Ext.refl ρ, h.congr (fun i => aput_same hb i), _, rfl, .tuple (.cons (.bool _) .nil)⟩
        simp only [execOp, ho, Instr.next, ha, Sem.run_bind, run_getObj g1 (by simp), Result.andThen_ok, hlt, ↓reduceIte, Sem.run_pure]
      · cases e'
theorem toBytes_ints : ∀ {l : List Value} {bs : List UInt8}, toBytes l = some bs → ∃ ns : List Int, l = ns.map (Value.int .u8) ∧ bs = ns.map fun n => UInt8.ofNat n.toNat
  | [], bs, h => by simp only [toBytes, Option.some.injEq] at h; subst h; exact ⟨[], rfl, rfl⟩
  | v :: l, bs, h => by
    unfold toBytes at h
    split at h
    · rename_i he; cases he
    · rename_i n l' he
      cases he
      split at h
      · rename_i bs' hb
        cases h
        obtain ⟨ns, e1, e2⟩ := toBytes_ints hb
        exact ⟨n :: ns, by simp [e1], by simp [e2]⟩
      · cases h
    · cases h
theorem VRL.ints {k : IntKind} {ns : List Int} {l : List Value} (h : VRL ρ (ns.map (Value.int k)) l) : l = ns.map (Value.int k) := by
  induction ns generalizing l with
  | nil => exact h.inv0
  | cons n ns ih =>
    obtain ⟨v', l', rfl, h1, h2⟩ := h.inv
    cases h1
    rw [ih h2]; rfl
theorem push_fold (ns : List Int) : ∀ (s : ByteArray), ns.foldl (fun r n => r.push (UInt8.ofNat n.toNat)) s = ⟨⟨s.data.toList ++ ns.map fun n => UInt8.ofNat n.toNat⟩⟩ := by
  induction ns with
  | nil => intro s; simp
  | cons n ns ih =>
    intro s
    rw [List.foldl_cons, ih]
    simp [ByteArray.push]
theorem op_b2s (h : HpR P w0 U ρ H top w) {s t e : TypeId} {y : Operand} (ho : o.op = .convert s t y) (hs : P.underlying s = some (.slice e)) (ht : P.underlying t = some .string) (he : P.underlying e = some (.int .u8)) (hv : VRL ρ vals [a y])
    (hr : opRun (.b2s y) vals H top = some (x, H', top')) : Done P w0 U ρ o a w x H' top' := by
  have hn : (∃ c, vals = [.slice none 0 c]) ∨ ∃ b q n, vals = [.slice (some ⟨b, q, none⟩) n 1] := by
    obtain ⟨objs, rr, hc⟩ := opRun_core hr
    change c_b2s vals objs = _ at hc
    unfold c_b2s at hc
    split at hc
    · exact .inl ⟨_, rfl⟩
    · exact .inr ⟨_, _, _, rfl⟩
    · cases hc
  obtain ⟨v1, e1, h1⟩ : ∃ v1, a y = v1 ∧ VRL ρ vals [v1] := ⟨_, rfl, hv⟩
  rcases hn with ⟨c, rfl⟩ | ⟨b, q, n, rfl⟩
  · obtain ⟨v2, e2, h2⟩ := h1.inv1
    simp only [List.cons.injEq, and_true] at e2
    subst e2
    refine opPure h rfl hr fun r hc => ?_
    simp only [core, c_b2s] at hc
    obtain ⟨_, rfl⟩ := Value.nilSlice h2
    refine ⟨_, _, val_inv hc, ?_, .string _⟩
    simp only [execOp, ho, Sem.run_bind, e1, run_convert_bytes_string (P := P) w s t e none 0 0 hs he ht]
    rfl
  · obtain ⟨v2, e2, h2⟩ := h1.inv1
    simp only [List.cons.injEq, and_true] at e2
    subst e2
    refine opRead h (b := b) rfl hr fun ob r l hb hl hob hc => ?_
    simp only [core, c_b2s] at hc
    split at hc
    · rename_i cs hcs
      split at hc
      · rename_i hle
        split at hc
        · rename_i bs hbs
          obtain ⟨own, hcr⟩ := hob.cells hcs
          obtain ⟨vs, g1, g2, g3⟩ := hcr.values q n hle
          obtain ⟨ns, n1, n2⟩ := toBytes_ints hbs
          rw [n1] at g1
          have hvs := g1.ints
          refine ⟨_, _, (Option.some.inj hc).symm, ?_, .string _⟩
          have hstr : ns.foldl (fun r n => r.push (UInt8.ofNat n.toNat)) ByteArray.empty = ⟨⟨bs⟩⟩ := by rw [push_fold, n2]; simp
          cases h2 with
          | @slice _ _ _ _ c ll hll hnc hcap =>
            rw [hl] at hll; cases hll
            have hload := loadCells_run (P := P) (w := w) g2 g3
            rw [hvs] at hload
            simp only [execOp, ho, Sem.run_bind, e1, run_convert_bytes_string (P := P) w s t e _ _ _ hs he ht, run_bytesToString w _ n c ns hload, hstr, Result.andThen_ok, Sem.run_pure]
          | slice0 ad =>
            have hns : ns = [] := by
              have : ns.length = 0 := by rw [← g2, hvs]; simp
              exact List.length_eq_zero_iff.1 this
            subst hns
            simp only [List.map_nil] at n2
            subst n2
            cases ad with
            | none =>
              simp only [execOp, ho, Sem.run_bind, e1, run_convert_bytes_string (P := P) w s t e none 0 0 hs he ht]
              rfl
            | some ad =>
              have hload : (loadCells ad 0).run P w = .ok (([] : List Int).map (Value.int .u8)).toArray w := rfl
              simp only [execOp, ho, Sem.run_bind, e1, run_convert_bytes_string (P := P) w s t e _ _ _ hs he ht, run_bytesToString w ad 0 0 [] hload, hstr, Result.andThen_ok, Sem.run_pure]
        · cases hc
      · cases hc
    · cases hc
theorem op_sliceA (h : HpR P w0 U ρ H top w) {t e : TypeId} {n : Nat} {j : TypeInfo} {y : Operand} {lo hi : Option Operand} (ho : o.op = .slice t y lo hi none) (ht : P.underlying t = some (.array n e)) (hj : P.info? e = some j)
    (hv : VRL ρ vals ((y :: (lo.toList ++ hi.toList)).map a)) (hr : opRun (.sliceA n j.size y lo hi) vals H top = some (x, H', top')) : Done P w0 U ρ o a w x H' top' := by
  have hn : ∃ b q bs, vals = .pointer (some ⟨b, q, none⟩) :: bs := by
    obtain ⟨objs, rr, hc⟩ := opRun_core hr
    change c_sliceA n j.size lo.isSome hi.isSome vals objs = _ at hc
    unfold c_sliceA at hc
    split at hc
    · exact ⟨_, _, _, rfl⟩
    · cases hc
  obtain ⟨b, q, bs, rfl⟩ := hn
  obtain ⟨v1, l', e, h1, h2⟩ := hv.inv
  simp only [List.map_cons, List.cons.injEq] at e
  obtain ⟨e1, e2⟩ := e
  rw [← e2] at h2
  refine opRead h (b := b) rfl hr fun ob r l hb hl hob hc => ?_
  simp only [core, c_sliceA] at hc
  split at hc
  · rename_i cs hcs
    split at hc
    · rename_i hle
      split at hc
      · rename_i lw r' hlh
        obtain ⟨own, hcr⟩ := hob.cells hcs
        obtain ⟨hb', hlr, hrn⟩ := loHi_run (P := P) (w := w) h2 hlh (Nat.le_refl n) false
        cases h1 with | ptr hl' =>
        rw [hl] at hl'; cases hl'
        have hext : cs.length ≤ l.ext := hcr.1
        by_cases hcl : n = lw
        · subst hcl
          have : r' - n = 0 := by omega
          refine ⟨_, .slice (some ⟨l.blk, l.sh + q, none⟩) 0 0, (Option.some.inj hc).symm, ?_, ?_⟩
          · simp only [execOp, ho, Instr.sliceAt, Sem.run_bind, run_underlying ht, Result.andThen_ok, e1, Instr.sureAddr, Sem.run_pure, Option.map_none, hb', run_size hj]
            simp [this]
          · rw [this]; exact .slice0 _
        · refine ⟨_, .slice (some ⟨l.blk, l.sh + (q + lw * j.size), none⟩) (r' - lw) (n - lw), (Option.some.inj hc).symm, ?_, .slice hl (by omega) ?_⟩
          · simp only [execOp, ho, Instr.sliceAt, Sem.run_bind, run_underlying ht, Result.andThen_ok, e1, Instr.sureAddr, Sem.run_pure, Option.map_none, hb', run_size hj, if_neg hcl, addr_add]
            simp [Nat.add_assoc]
          · have : lw * j.size + (n - lw) * j.size = n * j.size := by rw [← Nat.add_mul]; congr 1; omega
            omega
      · cases hc
    · cases hc
  · cases hc
end
end Go.Vm
