import Derived.Test.YtdnhoocoofnibaaVmOpsB
namespace Go.Vm
open Go Go.RowKit
section
variable {P : Program} {w0 : World} {U : UG} {ρ : Ren} {o : Oper} {a : Operand → Value} {w : World} {H : Hp} {top : Nat} [NG U top]
  {x : Option Value} {H' : Hp} {top' : Nat} {vals : List Value}
theorem leafEq_VR {k : SK} {u v u' v' : Value} {b : Bool} (hu : VR ρ u u') (hv : VR ρ v v') (h : leafEq k u v = some b) : leafEq k u' v' = some b := by
  unfold leafEq at h
  split at h <;> first | (cases h; done) | (cases hu; cases hv; exact h)
theorem leavesEq_VR {xs ys xs' ys' : List Value} (hx : VRL ρ xs xs') (hy : VRL ρ ys ys') : ∀ {os : List (Nat × SK)} {b : Bool}, leavesEq xs ys os = some b → leavesEq xs' ys' os = some b
  | [], b, h => h
  | q :: os, b, h => by
    simp only [leavesEq] at h ⊢
    split at h
    · rename_i u v hu hv
      obtain ⟨u', hu', ru⟩ := hx.get hu
      obtain ⟨v', hv', rv⟩ := hy.get hv
      simp only [hu', hv']
      split at h
      · rename_i c hc
        rw [leafEq_VR ru rv hc]
        split at h
        · rename_i d hd
          simp only [leavesEq_VR hx hy hd]; exact h
        · cases h
      · cases h
    · cases h
theorem leavesEq_append {xs ys : List Value} : ∀ {l m : List (Nat × SK)} {b : Bool}, leavesEq xs ys (l ++ m) = some b → ∃ p q, leavesEq xs ys l = some p ∧ leavesEq xs ys m = some q ∧ b = (p && q)
  | [], m, b, h => ⟨true, b, rfl, h, by simp⟩
  | k :: l, m, b, h => by
    simp only [List.cons_append, leavesEq] at h ⊢
    split at h
    · rename_i u v hu hv
      split at h
      · rename_i c hc
        split at h
        · rename_i d hd
          obtain ⟨p, q, h1, h2, rfl⟩ := leavesEq_append hd
          simp only [Option.some.injEq] at h
          exact ⟨c && p, q, by simp [h1], h2, by rw [← h, Bool.and_assoc]⟩
        · cases h
      · cases h
    · cases h
theorem part_part {t s : TypeId} {X : List Value} {q f : Nat} {d : TypeDesc} {i : TypeInfo} (hd : P.underlying t = some d) (hi : P.info? t = some i) (hn : f + i.size ≤ s) (h1 : 1 ≤ i.size) :
    (part t ⟨(X.drop q).take s⟩ f).run P w = (part t ⟨X⟩ (q + f)).run P w := by
  unfold part
  simp only [Sem.run_bind, run_isAgg' hd, Result.andThen_ok]
  cases ha : isAggB P t
  · simp only [Bool.false_eq_true, ↓reduceIte, List.getElem?_toArray]
    rw [List.getElem?_take, if_pos (by omega), List.getElem?_drop]
  · simp only [↓reduceIte, Sem.run_bind, run_size hi, Result.andThen_ok, Sem.run_pure]
    congr 2
    apply Array.ext'
    simp only [List.extract_toArray, List.extract_eq_take_drop]
    rw [List.drop_take, List.take_take, List.drop_drop]
    congr 1
    · omega
theorem eqOffs_info {n : Nat} {t : TypeId} {q : Nat} {os : List (Nat × SK)} (h : eqOffs P n t q = some os) : ∃ d, P.underlying t = some d := by
  cases n with
  | zero => simp [eqOffs] at h
  | succ n =>
    simp only [eqOffs] at h
    cases hd : P.underlying t with
    | none => simp [hd] at h
    | some d => exact ⟨d, rfl⟩
def EqAt (P : Program) (n : Nat) : Prop := ∀ (t : TypeId) (q : Nat) (os : List (Nat × SK)), eqOffs P n t q = some os → ∀ (xs ys : List Value) (b : Bool), leavesEq xs ys os = some b → ∀ (d : Nat) (w : World), n ≤ d →
  (∃ i, P.info? t = some i) → ∃ u v, (part t ⟨xs⟩ q).run P w = .ok u w ∧ (part t ⟨ys⟩ q).run P w = .ok v w ∧ (Op.equalIn d t u v).run P w = .ok b w
theorem eqFields_run {n q size : Nat} (ih : EqAt P n) {xs ys X Y : List Value} {d : Nat} (hd : n ≤ d)
    (hX : ∀ (f : Field) (dd : TypeDesc) (i : TypeInfo) (w : World), P.underlying f.type = some dd → P.info? f.type = some i → f.offset + i.size ≤ size → 1 ≤ i.size → (part f.type ⟨X⟩ f.offset).run P w = (part f.type ⟨xs⟩ (q + f.offset)).run P w)
    (hY : ∀ (f : Field) (dd : TypeDesc) (i : TypeInfo) (w : World), P.underlying f.type = some dd → P.info? f.type = some i → f.offset + i.size ≤ size → 1 ≤ i.size → (part f.type ⟨Y⟩ f.offset).run P w = (part f.type ⟨ys⟩ (q + f.offset)).run P w) :
    ∀ (fs : List Field) (os : List (Nat × SK)) (b : Bool), eqFields P (eqOffs P n) q size fs = some os → leavesEq xs ys os = some b → (Op.eqFields d ⟨X⟩ ⟨Y⟩ fs).run P w = .ok b w
  | [], os, b, h, hb => by
    simp only [eqFields, Option.some.injEq] at h
    subst h
    simp only [leavesEq, Option.some.injEq] at hb
    subst hb; rfl
  | f :: fs, os, b, h, hb => by
    simp only [eqFields] at h
    split at h
    · cases h
    · rename_i hc
      simp only [not_or] at hc
      obtain ⟨c1, c2, c3, c4⟩ := hc
      obtain ⟨i, hi⟩ : ∃ i, P.info? f.type = some i := by
        cases h : P.info? f.type with
        | none => simp [h] at c4
        | some i => exact ⟨i, rfl⟩
      rw [cellsOf_eq hi] at c2 c3
      split at h
      · rename_i l hl
        split at h
        · rename_i m hm
          cases h
          obtain ⟨p, r, h1, h2, rfl⟩ := leavesEq_append hb
          obtain ⟨dd, hdd⟩ := eqOffs_info hl
          obtain ⟨u, v, e1, e2, e3⟩ := ih f.type _ _ hl xs ys p h1 d w hd ⟨i, hi⟩
          simp only [Op.eqFields, if_pos c1, Sem.run_bind, hX f dd i w hdd hi (by omega) (by omega), hY f dd i w hdd hi (by omega) (by omega), e1, e2, e3, Result.andThen_ok]
          cases p
          · simp
          · simp only [Bool.not_true, Bool.false_eq_true, ↓reduceIte, Bool.true_and]
            exact eqFields_run ih hd hX hY fs m r hm h2
        · cases h
      · cases h
def eqEls (d : Nat) (e : TypeId) (sz : Nat) (xs ys : Array Value) : Nat → Nat → Sem Bool
  | _, 0 => pure true
  | i, m + 1 => do
    let a ← part e xs (i * sz)
    let b ← part e ys (i * sz)
    let r ← Op.equalIn d e a b
    if (!r) = true then pure false else eqEls d e sz xs ys (i + 1) m
theorem run_equalIn_array {d : Nat} {t e : TypeId} {m : Nat} {i : TypeInfo} {xs ys : Array Value} (ht : P.underlying t = some (.array m e)) (hi : P.info? e = some i) :
    (Op.equalIn (d + 1) t (.agg xs) (.agg ys)).run P w = (eqEls d e i.size xs ys 0 m).run P w := by
  simp only [Op.equalIn, Sem.run_bind, run_underlying ht, Result.andThen_ok, run_size hi]
  rw [Std.Legacy.Range.forIn_eq_forIn_range']
  simp only [Std.Legacy.Range.size, Nat.sub_zero, Nat.add_sub_cancel, Nat.div_one]
  generalize 0 = j
  clear ht
  induction m generalizing w j with
  | zero => simp [eqEls]
  | succ m ih =>
    simp only [List.range'_succ, List.forIn_cons, eqEls, Sem.run_bind]
    generalize (part e xs (j * i.size)).run P w = r1
    cases r1 with
    | ok a w1 =>
      simp only [Result.andThen_ok]
      generalize (part e ys (j * i.size)).run P w1 = r2
      cases r2 with
      | ok b w2 =>
        simp only [Result.andThen_ok]
        generalize (Op.equalIn d e a b).run P w2 = r3
        cases r3 with
        | ok r w3 =>
          cases r
          · simp
          · simp only [Result.andThen_ok, Bool.not_true, Bool.false_eq_true, if_false, Sem.run_pure]
            exact ih (w := w3) (j := j + 1)
        | halt x w3 => simp [Result.andThen]
      | halt x w2 => simp [Result.andThen]
    | halt x w1 => simp [Result.andThen]
theorem eqElems_run {n q size : Nat} {e : TypeId} {j : TypeInfo} {dd : TypeDesc} (ih : EqAt P n) {xs ys X Y : List Value} {d : Nat} (hd : n ≤ d) (hj : P.info? e = some j) (hdd : P.underlying e = some dd) (h1 : 1 ≤ j.size)
    (hX : ∀ (f : Nat) (w : World), f + j.size ≤ size → (part e ⟨X⟩ f).run P w = (part e ⟨xs⟩ (q + f)).run P w)
    (hY : ∀ (f : Nat) (w : World), f + j.size ≤ size → (part e ⟨Y⟩ f).run P w = (part e ⟨ys⟩ (q + f)).run P w) :
    ∀ (m i : Nat) (os : List (Nat × SK)) (b : Bool), (i + m) * j.size ≤ size → eqElems (eqOffs P n) q e j.size i m = some os → leavesEq xs ys os = some b → (eqEls d e j.size ⟨X⟩ ⟨Y⟩ i m).run P w = .ok b w
  | 0, i, os, b, _, h, hb => by
    simp only [eqElems, Option.some.injEq] at h
    subst h
    simp only [leavesEq, Option.some.injEq] at hb
    subst hb; rfl
  | m + 1, i, os, b, hs, h, hb => by
    simp only [eqElems] at h
    split at h
    · rename_i l hl
      split at h
      · rename_i k hk
        cases h
        obtain ⟨p, r, e1, e2, rfl⟩ := leavesEq_append hb
        obtain ⟨u, v, g1, g2, g3⟩ := ih e _ _ hl xs ys p e1 d w hd ⟨j, hj⟩
        have hle : i * j.size + j.size ≤ size := by
          have : (i + (m + 1)) * j.size = i * j.size + j.size + m * j.size := by rw [show i + (m + 1) = (i + 1) + m by omega, Nat.add_mul, Nat.add_mul]; omega
          omega
        simp only [eqEls, Sem.run_bind, hX _ w hle, hY _ w hle, g1, g2, g3, Result.andThen_ok]
        cases p
        · simp
        · simp only [Bool.not_true, Bool.false_eq_true, ↓reduceIte, Bool.true_and]
          exact eqElems_run ih hd hj hdd h1 hX hY m (i + 1) k r (by rw [show i + 1 + m = i + (m + 1) by omega]; exact hs) hk e2
      · cases h
    · cases h
theorem part_agg {t : TypeId} {i : TypeInfo} {d : TypeDesc} (hd : P.underlying t = some d) (ha : isAggB P t = true) (hi : P.info? t = some i) (X : List Value) (q : Nat) :
    (part t ⟨X⟩ q).run P w = .ok (.agg ⟨(X.drop q).take i.size⟩) w := by
  unfold part
  simp only [Sem.run_bind, run_isAgg' hd, Result.andThen_ok, ha, ↓reduceIte, run_size hi, Sem.run_pure]
  congr 2
  apply Array.ext'
  simp [List.extract_eq_take_drop]
theorem eqAt : ∀ n, EqAt P n
  | 0 => fun t q os h => by simp [eqOffs] at h
  | n + 1 => fun t q os h xs ys b hb d w hd ⟨i, hi⟩ => by
    obtain ⟨d, rfl⟩ : ∃ d', d = d' + 1 := ⟨d - 1, by omega⟩
    obtain ⟨dd, hdd⟩ := eqOffs_info h
    simp only [eqOffs, hdd] at h
    have scalar : ∀ (k : SK) (ha : isAggB P t = false) (key : ∀ u v b, leafEq k u v = some b → (Op.equalIn (d + 1) t u v).run P w = .ok b w) (hos : os = [(q, k)]), ∃ u v, (part t ⟨xs⟩ q).run P w = .ok u w ∧ (part t ⟨ys⟩ q).run P w = .ok v w ∧ (Op.equalIn (d + 1) t u v).run P w = .ok b w := by
      intro k ha key hos
      subst hos
      simp only [leavesEq] at hb
      split at hb
      · rename_i u v hu hv
        split at hb
        · rename_i c hc
          simp only [Bool.and_true, Option.some.injEq] at hb
          subst hb
          refine ⟨u, v, ?_, ?_, key u v c hc⟩ <;> simp [part, run_isAgg' hdd, ha, hu, hv]
        · cases hb
      · cases hb
    cases dd with
    | bool =>
      simp only [Option.some.injEq] at h
      refine scalar _ (by simp [isAggB, hdd]) (fun u v b hl => ?_) h.symm
      unfold leafEq at hl
      split at hl <;> first | (cases hl; done) | (rename_i he; cases he; done) | skip
      cases hl; exact run_equalIn_bool d hdd _ _
    | int k =>
      simp only [Option.some.injEq] at h
      refine scalar _ (by simp [isAggB, hdd]) (fun u v b hl => ?_) h.symm
      unfold leafEq at hl
      split at hl <;> first | (cases hl; done) | (rename_i he; cases he; done) | skip
      split at hl
      · rename_i hk
        subst hk
        cases hl; exact run_equalIn_int w d t _ _ _ _ hdd
      · cases hl
    | string =>
      simp only [Option.some.injEq] at h
      refine scalar _ (by simp [isAggB, hdd]) (fun u v b hl => ?_) h.symm
      unfold leafEq at hl
      split at hl <;> first | (cases hl; done) | (rename_i he; cases he; done) | skip
      cases hl; rw [run_equalIn_string w d t _ _ hdd, ByteArray.toList_eq, ByteArray.toList_eq]
    | struct fs =>
      simp only at h
      split at h
      · cases h
      · rename_i hs
        have ha : isAggB P t = true := by simp [isAggB, hdd]
        refine ⟨_, _, part_agg hdd ha hi xs q, part_agg hdd ha hi ys q, ?_⟩
        have hf : P.underlying t = some (.struct (P.fieldsOf t)) := by simp [Program.fieldsOf, hdd]
        have hff : P.fieldsOf t = fs := by simp [Program.fieldsOf, hdd]
        rw [run_equalIn_struct w d t _ _ hf (by simpa using hs), hff]
        rw [cellsOf_eq hi] at h
        refine eqFields_run (eqAt n) (by omega) (fun f dd' j w hd' hj hle h1 => part_part hd' hj hle h1) (fun f dd' j w hd' hj hle h1 => part_part hd' hj hle h1) fs.toList os b h hb
    | array m e =>
      simp only at h
      split at h
      · rename_i hs
        obtain ⟨s1, s2, s3⟩ := hs
        obtain ⟨j, hj⟩ : ∃ j, P.info? e = some j := Option.isSome_iff_exists.1 s3
        rw [cellsOf_eq hj] at s1 s2 h
        rw [cellsOf_eq hi] at s1
        have ha : isAggB P t = true := by simp [isAggB, hdd]
        refine ⟨_, _, part_agg hdd ha hi xs q, part_agg hdd ha hi ys q, ?_⟩
        rw [run_equalIn_array hdd hj]
        cases m with
        | zero =>
          simp only [eqElems, Option.some.injEq] at h
          subst h
          simp only [leavesEq, Option.some.injEq] at hb
          subst hb; rfl
        | succ m =>
          obtain ⟨d', hd'⟩ : ∃ d', P.underlying e = some d' := by
            simp only [eqElems] at h
            split at h
            · rename_i l hl; exact eqOffs_info hl
            · cases h
          exact eqElems_run (eqAt n) (by omega) hj hd' s2 (fun f w hle => part_part hd' hj hle s2) (fun f w hle => part_part hd' hj hle s2) (m + 1) 0 os b (by simpa using s1) h hb
      · cases h
    | _ => simp at h
theorem agg_guard {t : TypeId} {y z : Operand} {op : BinOp} {xs ys : List Value} (hg : P.eqGuardType P.depth t = false) : (eqGuard op t y z (.agg ⟨xs⟩) (.agg ⟨ys⟩)).run P w = .ok () w :=
  run_eqGuard_agg w op t y z ⟨xs⟩ ⟨ys⟩ hg
theorem op_eqAgg (h : HpR P w0 U ρ H top w) {neg : Bool} {t u : TypeId} {d : TypeDesc} {os : List (Nat × SK)} {y z : Operand} (ho : o.op = .binOp (if neg then .neq else .eql) t y z u) (hd : P.underlying t = some d)
    (hda : (∃ fs, d = .struct fs) ∨ ∃ m e, d = .array m e)
    (hg : P.eqGuardType P.depth t = false) (hos : eqOffs P 12 t 0 = some os)
    (hv : VRL ρ vals [a y, a z]) (hr : opRun (.eqAgg neg os y z) vals H top = some (x, H', top')) : Done P w0 U ρ o a w x H' top' := by
  refine opPure h rfl hr fun r hc => ?_
  change c_eqAgg neg os vals [] = some r at hc
  unfold c_eqAgg at hc; split at hc
  · rename_i xs ys _
    obtain ⟨v1, v2, e, h1, h2⟩ := hv.inv2
    simp only [List.cons.injEq, and_true] at e
    obtain ⟨e1, e2⟩ := e
    cases h1 with | agg h1 =>
    cases h2 with | agg h2 =>
    rename_i xs' ys'
    split at hc
    · rename_i b hb
      have hb' := leavesEq_VR h1 h2 hb
      refine ⟨_, _, val_inv hc, ?_, .bool _⟩
      have key : (Op.equalIn 10000 t (.agg ⟨xs'⟩) (.agg ⟨ys'⟩)).run P w = .ok b w := by
        rcases hda with ⟨fs, rfl⟩ | ⟨m, e, rfl⟩
        · have hos : eqOffs P (11 + 1) t 0 = some os := hos
          rw [eqOffs, hd] at hos
          simp only at hos
          split at hos
          · cases hos
          · rename_i hs
            have hf : P.underlying t = some (.struct (P.fieldsOf t)) := by simp [Program.fieldsOf, hd]
            have hff : P.fieldsOf t = fs := by simp [Program.fieldsOf, hd]
            rw [run_equalIn_struct w 9999 t _ _ hf (by simpa using hs), hff]
            exact eqFields_run (eqAt 11) (by omega) (fun f dd' j w hd' hj hle h1 => by rw [Nat.zero_add]) (fun f dd' j w hd' hj hle h1 => by rw [Nat.zero_add]) fs.toList os b hos hb'
        · have hos : eqOffs P (11 + 1) t 0 = some os := hos
          rw [eqOffs, hd] at hos
          simp only at hos
          split at hos
          · rename_i hs
            obtain ⟨s1, s2, s3⟩ := hs
            obtain ⟨j, hj⟩ : ∃ j, P.info? e = some j := Option.isSome_iff_exists.1 s3
            rw [cellsOf_eq hj] at s1 s2 hos
            rw [run_equalIn_array hd hj]
            cases m with
            | zero =>
              simp only [eqElems, Option.some.injEq] at hos
              subst hos
              simp only [leavesEq, Option.some.injEq] at hb'
              subst hb'; rfl
            | succ m =>
              obtain ⟨d', hd'⟩ : ∃ d', P.underlying e = some d' := by
                simp only [eqElems] at hos
                split at hos
                · rename_i l hl; exact eqOffs_info hl
                · cases hos
              exact eqElems_run (eqAt 11) (by omega) hj hd' s2 (fun f w hle => by rw [Nat.zero_add]) (fun f w hle => by rw [Nat.zero_add]) (m + 1) 0 os b (by simpa using s1) hos hb'
          · cases hos
      cases neg
      · simp only [execOp, ho, e1, e2, Sem.run_bind, agg_guard hg, Result.andThen_ok, run_eql_struct w t ⟨xs'⟩ ⟨ys'⟩, key, Bool.false_eq_true, ↓reduceIte, Sem.run_pure]
      · simp only [execOp, ho, e1, e2, Sem.run_bind, agg_guard hg, Result.andThen_ok, run_neq_struct w t ⟨xs'⟩ ⟨ys'⟩, key, ↓reduceIte, Sem.run_pure]
    · cases hc
  · cases hc
end
end Go.Vm
