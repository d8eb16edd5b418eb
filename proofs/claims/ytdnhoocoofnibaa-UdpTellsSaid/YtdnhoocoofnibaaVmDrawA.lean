/- The engine, part 17: regions whose order is drawn: any order comes to the same. -/
import Derived.Test.YtdnhoocoofnibaaVmDef
import Derived.Test.YtdnhoocoofnibaaVmRel
namespace Go.Vm
open Go

abbrev St := Env × Hp
def EqS (s t : St) : Prop := (∀ i, aget s.1 i = aget t.1 i) ∧ (∀ i, aget s.2 i = aget t.2 i)
theorem EqS.refl (s : St) : EqS s s := ⟨fun _ => rfl, fun _ => rfl⟩
theorem EqS.symm {s t : St} (h : EqS s t) : EqS t s := ⟨fun i => (h.1 i).symm, fun i => (h.2 i).symm⟩
theorem EqS.trans {s t u : St} (h : EqS s t) (k : EqS t u) : EqS s u := ⟨fun i => (h.1 i).trans (k.1 i), fun i => (h.2 i).trans (k.2 i)⟩

/-- an operation of the region as it was carried out -/
structure Rec where
  i : Nat
  o : VOper
  m : Nat
  m1 : Nat
  r : List Nat
  w : List Nat

def Rec.wf (x : Rec) : List Nat := x.w ++ List.range' x.m (x.m1 - x.m)
def Runs (S : Sums) (nt : Nat) (x : Rec) (s t : St) : Prop := stepD S nt x.o s.1 s.2 x.m = some (t.1, t.2, x.m1, x.r, x.w)

def tw (o : VOper) : List Nat := (tmpFp o).2
def tr (o : VOper) : List Nat := (tmpFp o).1

/-! reading the same gives the same -/
theorem evalO_congr {e e2 : Env} {x : Operand} (h : ∀ t ∈ tmpsOf [x], aget e2 t = aget e t) : evalO e2 x = evalO e x := by
  cases x <;> simp only [evalO]
  exact h _ (by simp [tmpsOf])
theorem tmpsOf_cons {t : Nat} {x : Operand} {l : List Operand} : t ∈ tmpsOf (x :: l) ↔ t ∈ tmpsOf [x] ∨ t ∈ tmpsOf l := by
  cases x <;> simp [tmpsOf]
theorem evalL_congr {e e2 : Env} : ∀ {l : List Operand}, (∀ t ∈ tmpsOf l, aget e2 t = aget e t) → evalL e2 l = evalL e l
  | [], _ => rfl
  | x :: l, h => by
    simp only [evalL]
    rw [evalO_congr (fun t ht => h t (tmpsOf_cons.2 (.inl ht))), evalL_congr (fun t ht => h t (tmpsOf_cons.2 (.inr ht)))]
theorem wantedV_congr {e e2 : Env} {g : Option (Nat × Bool)} (h : ∀ t ∈ (match g with | some (d, _) => [d] | none => []), aget e2 t = aget e t) : wantedV e2 g = wantedV e g := by
  cases g with
  | none => rfl
  | some p => obtain ⟨d, w⟩ := p; simp only [wantedV]; rw [h d (by simp)]
theorem agets_congr {h h2 : Hp} : ∀ {l : List Nat}, (∀ b ∈ l, aget h2 b = aget h b) → agets h2 l = agets h l
  | [], _ => rfl
  | b :: l, hh => by
    simp only [agets]
    rw [hh b (by simp), agets_congr (fun c hc => hh c (by simp [hc]))]

theorem aputs_spec : ∀ (is : List Nat) (os : List (Option VObj)) (h h2 : Hp), (∀ b, b ∉ is → aget (aputs h is os) b = aget h b) ∧ ((∀ b ∈ is, aget h2 b = aget h b) → ∀ b ∈ is, aget (aputs h2 is os) b = aget (aputs h is os) b)
  | [], os, h, h2 => ⟨fun b _ => by simp [aputs], fun _ b hb => by cases hb⟩
  | i :: is, [], h, h2 => ⟨fun b _ => by simp [aputs], fun e b hb => by simp only [aputs]; exact e b hb⟩
  | i :: is, some o :: os, h, h2 => by
    simp only [aputs]
    have ih := aputs_spec is os (aput h i o) (aput h2 i o)
    refine ⟨fun b hb => ?_, fun e b hb => ?_⟩
    · rw [ih.1 b (fun h => hb (by simp [h])), aget_aput_ne _ _ (fun h => hb (by simp [h]))]
    · by_cases hbi : b ∈ is
      · exact ih.2 (fun c hc => by rw [aget_aput, aget_aput]; split; rfl; exact e c (by simp [hc])) b hbi
      · have hb' : b = i := by simpa [hbi] using hb
        subst hb'
        rw [ih.1 b hbi, (aputs_spec is os (aput h2 b o) (aput h2 b o)).1 b hbi, aget_aput_same, aget_aput_same]
  | i :: is, none :: os, h, h2 => by
    simp only [aputs]
    have ih := aputs_spec is os (adel h i) (adel h2 i)
    refine ⟨fun b hb => ?_, fun e b hb => ?_⟩
    · rw [ih.1 b (fun h => hb (by simp [h])), aget_adel_ne _ (fun h => hb (by simp [h]))]
    · by_cases hbi : b ∈ is
      · exact ih.2 (fun c hc => by rw [aget_adel, aget_adel]; split; rfl; exact e c (by simp [hc])) b hbi
      · have hb' : b = i := by simpa [hbi] using hb
        subst hb'
        rw [ih.1 b hbi, (aputs_spec is os (adel h2 b) (adel h2 b)).1 b hbi, aget_adel_same, aget_adel_same]

/-- what changed, in one memory and in another one that reads the same where it matters -/
def Loc1 (h h2 h' h2' : Hp) (W : List Nat) : Prop := (∀ b, b ∉ W → aget h' b = aget h b) ∧ (∀ b, b ∉ W → aget h2' b = aget h2 b) ∧ ∀ b ∈ W, aget h2' b = aget h' b

theorem Loc1.step {h h2 h1 h21 h' h2' : Hp} {W : List Nat} {b : Nat} (e1 : ∀ c, c ≠ b → aget h1 c = aget h c) (e2 : ∀ c, c ≠ b → aget h21 c = aget h2 c) (e3 : aget h21 b = aget h1 b) (k : Loc1 h1 h21 h' h2' W) : Loc1 h h2 h' h2' (b :: W) := by
  obtain ⟨k1, k2, k3⟩ := k
  refine ⟨fun c hc => ?_, fun c hc => ?_, fun c hc => ?_⟩
  · simp only [List.mem_cons, not_or] at hc; rw [k1 c hc.2, e1 c hc.1]
  · simp only [List.mem_cons, not_or] at hc; rw [k2 c hc.2, e2 c hc.1]
  · by_cases hw : c ∈ W
    · exact k3 c hw
    · have : c = b := by simpa [hw] using hc
      subst this
      rw [k1 c hw, k2 c hw, e3]

theorem wback_loc (s : Nat → Option Nat) : ∀ (ws : List Wd) (cs : List (Option (List Value))) (h h2 h' : Hp), (∀ b ∈ winBlks ws, aget h2 b = aget h b) → wback h s ws cs = some h' →
    ∃ h2', wback h2 s ws cs = some h2' ∧ Loc1 h h2 h' h2' (winWr ws)
  | [], [], h, h2, h', he, hr => by
    simp only [wback, Option.some.injEq] at hr; subst hr
    exact ⟨h2, rfl, ⟨fun _ _ => rfl, fun _ _ => rfl, fun b hb => by simp [winWr] at hb⟩⟩
  | [], _ :: _, h, h2, h', he, hr => by simp [wback] at hr
  | x :: ws, [], h, h2, h', he, hr => by
    cases x with
    | win b off n wr => cases wr <;> simp [wback] at hr
    | blk b wr => cases wr <;> simp [wback] at hr
    | _ => simp [wback] at hr
  | .no :: ws, c :: cs, h, h2, h', he, hr => by
    have hr' : wback h s ws cs = some h' := by simpa [wback] using hr
    obtain ⟨h2', g1, g2⟩ := wback_loc s ws cs h h2 h' he hr'
    exact ⟨h2', by simpa [wback] using g1, g2⟩
  | .emp w :: ws, c :: cs, h, h2, h', he, hr => by
    have hr' : wback h s ws cs = some h' := by simpa [wback] using hr
    obtain ⟨h2', g1, g2⟩ := wback_loc s ws cs h h2 h' he hr'
    exact ⟨h2', by simpa [wback] using g1, g2⟩
  | .win b off n false :: ws, c :: cs, h, h2, h', he, hr => by
    have hr' : wback h s ws cs = some h' := by simpa [wback] using hr
    obtain ⟨h2', g1, g2⟩ := wback_loc s ws cs h h2 h' (fun c hc => he c (by simp [winBlks, Wd.blk?, hc])) hr'
    exact ⟨h2', by simpa [wback] using g1, by simpa [winWr, Wd.blk?, Wd.wr] using g2⟩
  | .blk b false :: ws, c :: cs, h, h2, h', he, hr => by
    have hr' : wback h s ws cs = some h' := by simpa [wback] using hr
    obtain ⟨h2', g1, g2⟩ := wback_loc s ws cs h h2 h' (fun c hc => he c (by simp [winBlks, Wd.blk?, hc])) hr'
    exact ⟨h2', by simpa [wback] using g1, by simpa [winWr, Wd.blk?, Wd.wr] using g2⟩
  | .win b off n true :: ws, none :: cs, h, h2, h', he, hr => by simp [wback] at hr
  | .win b off n true :: ws, some c :: cs, h, h2, h', he, hr => by
    have hb : aget h2 b = aget h b := he b (by simp [winBlks, Wd.blk?])
    simp only [wback] at hr ⊢
    rw [hb]
    split at hr <;> try (cases hr; done)
    rename_i ob hob
    split at hr <;> try (cases hr; done)
    rename_i x hx
    split at hr <;> try (cases hr; done)
    rename_i c' hc'
    split at hr <;> try (cases hr; done)
    rename_i hc
    split at hr <;> try (cases hr; done)
    rename_i ob' hob'
    obtain ⟨h2', g1, g2⟩ := wback_loc s ws cs (aput h b ob') (aput h2 b ob') h' (fun d hd => by rw [aget_aput, aget_aput]; split; rfl; exact he d (by simp [winBlks, Wd.blk?, hd])) hr
    refine ⟨h2', by simp only [if_pos hc]; exact g1, ?_⟩
    simp only [winWr, Wd.blk?, Wd.wr, cond_true]
    exact g2.step (fun c hc => aget_aput_ne _ _ (Ne.symm hc)) (fun c hc => aget_aput_ne _ _ (Ne.symm hc)) (by rw [aget_aput_same, aget_aput_same])
  | .blk b true :: ws, none :: cs, h, h2, h', he, hr => by
    simp only [wback] at hr ⊢
    obtain ⟨h2', g1, g2⟩ := wback_loc s ws cs (adel h b) (adel h2 b) h' (fun d hd => by rw [aget_adel, aget_adel]; split; rfl; exact he d (by simp [winBlks, Wd.blk?, hd])) hr
    refine ⟨h2', g1, ?_⟩
    simp only [winWr, Wd.blk?, Wd.wr, cond_true]
    exact g2.step (fun c hc => aget_adel_ne _ (Ne.symm hc)) (fun c hc => aget_adel_ne _ (Ne.symm hc)) (by rw [aget_adel_same, aget_adel_same])
  | .blk b true :: ws, some c :: cs, h, h2, h', he, hr => by
    have hb : aget h2 b = aget h b := he b (by simp [winBlks, Wd.blk?])
    simp only [wback] at hr ⊢
    rw [hb]
    split at hr <;> try (cases hr; done)
    rename_i ob hob
    split at hr <;> try (cases hr; done)
    rename_i y hy
    split at hr <;> try (cases hr; done)
    rename_i c' hc'
    split at hr <;> try (cases hr; done)
    rename_i ob' hob'
    obtain ⟨h2', g1, g2⟩ := wback_loc s ws cs (aput h b ob') (aput h2 b ob') h' (fun d hd => by rw [aget_aput, aget_aput]; split; rfl; exact he d (by simp [winBlks, Wd.blk?, hd])) hr
    refine ⟨h2', by first | exact g1 | (simp only [hy, hc', hob']; exact g1), ?_⟩
    simp only [winWr, Wd.blk?, Wd.wr, cond_true]
    exact g2.step (fun c hc => aget_aput_ne _ _ (Ne.symm hc)) (fun c hc => aget_aput_ne _ _ (Ne.symm hc)) (by rw [aget_aput_same, aget_aput_same])

theorem addNew_loc (s : Nat → Option Nat) : ∀ (cs : List (List Value)) (h h2 h' : Hp) (m : Nat), addNew h s m cs = some h' →
    ∃ h2', addNew h2 s m cs = some h2' ∧ Loc1 h h2 h' h2' (List.range' m cs.length)
  | [], h, h2, h', m, hr => by
    simp only [addNew, Option.some.injEq] at hr
    subst hr
    exact ⟨h2, rfl, fun _ _ => rfl, fun _ _ => rfl, fun b hb => by simp at hb⟩
  | c :: cs, h, h2, h', m, hr => by
    simp only [addNew] at hr ⊢
    split at hr <;> try (cases hr; done)
    rename_i c' hc'
    obtain ⟨h2', g1, g2⟩ := addNew_loc s cs (aput h m (.row true c')) (aput h2 m (.row true c')) h' (m + 1) hr
    refine ⟨h2', g1, ?_⟩
    simp only [List.length_cons, List.range'_succ]
    exact g2.step (fun c hc => aget_aput_ne _ _ (Ne.symm hc)) (fun c hc => aget_aput_ne _ _ (Ne.symm hc)) (by rw [aget_aput_same, aget_aput_same])

theorem addEmp_loc : ∀ (n : Nat) (h h2 : Hp) (m : Nat), Loc1 h h2 (addEmp h m n) (addEmp h2 m n) (List.range' m n)
  | 0, h, h2, m => ⟨fun _ _ => rfl, fun _ _ => rfl, fun b hb => by simp at hb⟩
  | n + 1, h, h2, m => by
    simp only [addEmp, List.range'_succ]
    exact (addEmp_loc n _ _ _).step (fun c hc => aget_aput_ne _ _ (Ne.symm hc)) (fun c hc => aget_aput_ne _ _ (Ne.symm hc)) (by rw [aget_aput_same, aget_aput_same])

theorem Loc1.then {h h2 h1 h21 h' h2' : Hp} {W W' : List Nat} (a : Loc1 h h2 h1 h21 W) (b : Loc1 h1 h21 h' h2' W') : Loc1 h h2 h' h2' (W ++ W') := by
  refine ⟨fun c hc => ?_, fun c hc => ?_, fun c hc => ?_⟩
  · simp only [List.mem_append, not_or] at hc; rw [b.1 c hc.2, a.1 c hc.1]
  · simp only [List.mem_append, not_or] at hc; rw [b.2.1 c hc.2, a.2.1 c hc.1]
  · by_cases hw : c ∈ W'
    · exact b.2.2 c hw
    · rw [b.1 c hw, b.2.1 c hw]; exact a.2.2 c (by simpa [hw] using hc)

/-! what is read of the memory -/
theorem walkP_len (h : Hp) (v : Value) : ∀ (ps : List Path) (bs : List PR), (walkP h v ps bs).length = bs.length + ps.length
  | [], bs => by simp [walkP]
  | p :: ps, bs => by rw [walkP, walkP_len h v ps]; simp; omega
theorem walkP_mem {h : Hp} {v : Value} {x : PR} : ∀ (ps : List Path) (bs : List PR), x ∈ bs → x ∈ walkP h v ps bs
  | [], bs, hx => hx
  | p :: ps, bs, hx => walkP_mem ps _ (by simp [hx])
theorem findP_congr {h h2 : Hp} {v : Value} {bs : List PR} {p : Path} (he : ∀ b, PR.hit b ∈ bs → aget h2 b = aget h b) : findP h2 v bs p = findP h v bs p := by
  unfold findP
  cases p.src with
  | none => rfl
  | some i =>
    simp only
    cases hb : bs[i]? with
    | none => rfl
    | some x =>
      cases x with
      | hit b => simp only; rw [he b (List.mem_of_getElem? hb)]
      | _ => rfl
theorem walkP_congr {h h2 : Hp} {v : Value} : ∀ (ps : List Path) (bs : List PR), (∀ b, PR.hit b ∈ walkP h v ps bs → aget h2 b = aget h b) → walkP h2 v ps bs = walkP h v ps bs
  | [], bs, _ => rfl
  | p :: ps, bs, he => by
    rw [walkP, walkP, findP_congr (h := h) (h2 := h2) (fun b hb => he b (walkP_mem _ _ hb))]
    exact walkP_congr ps _ (fun b hb => he b (by rw [walkP]; exact hb))

theorem winBlks_append : ∀ (a b : List Wd), winBlks (a ++ b) = winBlks a ++ winBlks b
  | [], b => rfl
  | x :: a, b => by
    rw [List.cons_append, winBlks, winBlks]
    cases x.blk? <;> simp [winBlks_append a b]
theorem winWr_append : ∀ (a b : List Wd), winWr (a ++ b) = winWr a ++ winWr b
  | [], b => rfl
  | x :: a, b => by
    rw [List.cons_append, winWr, winWr]
    cases x.blk? <;> cases x.wr <;> simp [winWr_append a b]
theorem winP_mem {b : Nat} : ∀ (ps : List Path) (bs : List PR), bs.length = ps.length → PR.hit b ∈ bs → b ∈ winBlks (winP ps bs)
  | [], [], _, hb => by cases hb
  | [], _ :: _, hl, _ => by simp at hl
  | _ :: _, [], hl, _ => by simp at hl
  | p :: ps, x :: bs, hl, hb => by
    have ih := fun h => winP_mem (b := b) ps bs (by simpa using hl) h
    cases x with
    | no => simp only [winP, winBlks, Wd.blk?]; exact ih (by simpa using hb)
    | nil s => simp only [winP, winBlks, Wd.blk?]; exact ih (by simpa using hb)
    | hit c =>
      simp only [winP, winBlks, Wd.blk?, List.mem_cons]
      rcases List.mem_cons.1 hb with h | h
      · cases h; exact .inl rfl
      · exact .inr (ih h)
theorem viewP_congr {h h2 : Hp} {s : Nat → Option Nat} {pat : Option Nat → List (Nat × Value)} : ∀ (ps : List Path) (bs : List PR) (i : Nat), (∀ b, PR.hit b ∈ bs → aget h2 b = aget h b) → viewP h2 s pat i ps bs = viewP h s pat i ps bs
  | [], [], _, _ => rfl
  | [], _ :: _, _, _ => rfl
  | _ :: _, [], _, _ => rfl
  | p :: ps, x :: bs, i, he => by
    have ih := viewP_congr (h := h) (h2 := h2) (s := s) (pat := pat) ps bs (i + 1) (fun b hb => he b (by simp [hb]))
    cases x with
    | no => simp only [viewP, ih]
    | nil z => simp only [viewP, ih]
    | hit c => simp only [viewP, ih]; rw [he c (by simp)]

theorem winM_congr {h h2 : Hp} {m : Md} {v : Value} (he : ∀ b ∈ winBlks (winM h m v), aget h2 b = aget h b) : winM h2 m v = winM h m v := by
  cases m with
  | tr ps =>
    simp only [winM] at he ⊢
    rw [walkP_congr ps [] (fun b hb => he b (winP_mem _ _ (by simp [walkP_len]) hb))]
  | v => rfl
  | sl sz => unfold winM; split <;> first | rfl | (rename_i e; cases e)
  | pt n => unfold winM; split <;> first | rfl | (rename_i e; cases e)
theorem winL_congr {h h2 : Hp} : ∀ {ms : List Md} {vs : List Value}, (∀ b ∈ winBlks (winL h ms vs), aget h2 b = aget h b) → winL h2 ms vs = winL h ms vs
  | [], [], _ => rfl
  | [], _ :: _, _ => rfl
  | _ :: _, [], _ => rfl
  | m :: ms, v :: vs, he => by
    simp only [winL, winBlks_append, List.mem_append] at he ⊢
    rw [winM_congr (fun b hb => he b (.inl hb)), winL_congr (fun b hb => he b (.inr hb))]
theorem readArg_congr {h h2 : Hp} {k : Nat} {m : Md} {v : Value} (he : ∀ b ∈ winBlks (winM h m v), aget h2 b = aget h b) : readArg h2 k m v = readArg h k m v := by
  cases m with
  | v => rfl
  | sl sz =>
    unfold readArg
    split <;> (try rfl) <;> (try contradiction)
    rename_i b o n sz' heq
    rw [he _ (by simp [winM, winBlks, Wd.blk?])]
  | pt n =>
    unfold readArg
    split <;> (try rfl) <;> (try contradiction)
    rw [he _ (by simp [winM, winBlks, Wd.blk?])]
  | tr ps =>
    simp only [winM] at he
    have hw := walkP_congr (h := h) (h2 := h2) (v := v) ps [] (fun b hb => he b (winP_mem _ _ (by simp [walkP_len]) hb))
    simp only [readArg, hw]
    rw [viewP_congr (h := h) (h2 := h2) ps _ 0 (fun b hb => he b (winP_mem _ _ (by simp [walkP_len]) hb))]
theorem readArgs_congr {h h2 : Hp} : ∀ {ms : List Md} {vs : List Value} {k : Nat}, (∀ b ∈ winBlks (winL h ms vs), aget h2 b = aget h b) → readArgs h2 k ms vs = readArgs h k ms vs
  | [], [], _, _ => rfl
  | [], _ :: _, _, _ => rfl
  | _ :: _, [], _, _ => rfl
  | m :: ms, v :: vs, k, he => by
    simp only [winL, winBlks_append, List.mem_append] at he
    simp only [readArgs]
    rw [readArg_congr (fun b hb => he b (.inl hb))]
    cases readArg h k m v with
    | none => rfl
    | some p => simp only; rw [readArgs_congr (fun b hb => he b (.inr hb))]

theorem sumRun_loc {s : Summ} {vals : List Value} {h h2 h' : Hp} {m m' : Nat} {v : Value} (he : ∀ b ∈ winBlks (winL h s.modes vals), aget h2 b = aget h b) (hr : sumRun s vals h m = some (v, h', m')) :
    winL h2 s.modes vals = winL h s.modes vals ∧ ∃ h2', sumRun s vals h2 m = some (v, h2', m') ∧ m ≤ m' ∧ Loc1 h h2 h' h2' (winWr (winL h s.modes vals) ++ List.range' m (m' - m)) := by
  have hwl := winL_congr he
  refine ⟨hwl, ?_⟩
  unfold sumRun at hr ⊢
  rw [readArgs_congr he, hwl]
  split at hr <;> try (cases hr; done)
  rename_i aqs os has
  split at hr <;> try (cases hr; done)
  rename_i v0 new wr hrun
  split at hr <;> try (cases hr; done)
  rename_i hap
  split at hr <;> try (cases hr; done)
  rename_i h1 hwb
  split at hr <;> try (cases hr; done)
  rename_i hN hadd
  split at hr <;> try (cases hr; done)
  rename_i v' hv'
  cases hr
  generalize winL h s.modes vals = ws at *
  obtain ⟨h21, g1, g2⟩ := wback_loc _ ws _ h h2 h1 he hwb
  obtain ⟨h22, k1, k2⟩ := addNew_loc _ _ h1 h21 _ _ hadd
  have l1 := addEmp_loc (emps ws) hN h22 (m + new.length)
  refine ⟨addEmp h22 (m + new.length) (emps ws), by simp only [g1, k1], by omega, ?_⟩
  have := (g2.then k2).then l1
  rw [List.append_assoc] at this
  rw [show m + new.length + emps ws - m = new.length + emps ws by omega, ← List.range'_append_1 (s := m)]
  exact this
end Go.Vm
