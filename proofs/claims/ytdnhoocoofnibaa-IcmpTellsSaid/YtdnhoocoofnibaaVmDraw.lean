import Derived.Test.YtdnhoocoofnibaaVmRunA
import Derived.Test.YtdnhoocoofnibaaVmDrawC
namespace Go.Vm
open Go Go.RowKit
section
variable {P : Program} {w0 : World} {U : Nat → Nat → Prop} {ρ : Ren} {F : Fns} {S : Sums}
theorem HpR.reg {U1 U2 : UG} {H : Hp} {top top' : Nat} {w : World} (h : HpR P w0 U1 ρ H top w) (hu : U2.u = U1.u) (hi : ∀ i, U1.g i ∨ (U1.lo ≤ i ∧ i < top) → U2.g i ∨ (U2.lo ≤ i ∧ i < top')) : HpR P w0 U2 ρ H top' w where
  obj i o ho := by
    obtain ⟨l, h1, h2, h3⟩ := h.obj i o ho
    exact ⟨l, h1, h2, by rw [hu]; exact h3⟩
  dis := h.dis
  lt i l e := hi i (h.lt i l e)
  keep := ⟨h.keep.os, h.keep.tape, h.keep.output, h.keep.size, by rw [hu]; exact h.keep.block⟩
theorem FrR.envEq {fr : VFrame} {e e' : Env} {td : List VItem} {rf : Frame} (h : FrR P ρ { fr with env := e, todo := td } rf) (he : ∀ i, aget e i = aget e' i) : FrR P ρ { fr with env := e', todo := td } rf :=
  ⟨h.fn, h.size, fun i v hv => h.env i v (by rw [he]; exact hv), h.todo, h.defers, h.mode, h.kind, h.round⟩
theorem op_real (hS : SumsOK P S) {Ug : UG} {fr : VFrame} (hret : fr.ret = false) {o : VOper} {rest : List VOper} {k : List VItem} {e e1 : Env} {h h1 : Hp} {m m1 : Nat} {r x : List Nat} {rf : Frame} {w : World}
    (hcur : FrR P ρ { fr with env := e, todo := .inReg (o :: rest) :: k } rf) (hh : HpR P w0 Ug ρ h m w) (hlo : Ug.lo ≤ m) (hg : ∀ j, m ≤ j → j ≤ m1 → ¬ Ug.g j) (hm : m ≤ m1)
    (hs : stepD S fr.nt o e h m = some (e1, h1, m1, r, x)) (cs : List Frame) :
    ∃ ρ' rf' w', Steps P (lone rf cs w) (lone rf' cs w') ∧ FrR P ρ' { fr with env := e1, todo := .inReg rest :: k } rf' ∧ HpR P w0 Ug ρ' h1 m1 w' ∧ Ext ρ ρ' := by
  haveI : NG Ug m := ⟨hg m (Nat.le_refl _) hm, hlo⟩
  unfold stepD at hs
  split at hs <;> try (cases hs; done)
  · rename_i hwn
    simp only [Option.some.injEq, Prod.mk.injEq] at hs
    obtain ⟨rfl, rfl, rfl, rfl, rfl⟩ := hs
    have ⟨ops, i, is, k', oo, e1, e2, e3⟩ := todo_reg hcur rfl
    have hw := wanted_ok hcur.env e3 hwn
    have hstep := st_opSkip (P := P) (fn := rf.fn) (t := rf.tmps) (k := k') (d := rf.defers) (r := rf.roundOf) (cs := cs) (w := w) (ops := ops) (i := i) (rest := is) (by simp [e2, hw])
    have hfr := frame_eta hcur hret
    rw [← e1, ← hfr] at hstep
    exact ⟨ρ, _, w, .one hstep, fin_reg hcur rfl undef_ok, hh, Ext.refl ρ⟩
  · rename_i hwn
    obtain ⟨fn, t, k', d, q, ops, i, is, oo, A⟩ := atOp hcur hret rfl hwn
    obtain ⟨hcF, hcV, hcO, hnd⟩ := compAny_call A.comp
    split at hs <;> try (cases hs; done)
    rename_i vals hvals
    have hvl := eval_map hcur A.args hvals
    split at hs
    · rename_i f xs hop
      obtain ⟨ys, ts, hoo, hxs⟩ := hcF f xs hop
      rw [hop] at hvl
      simp only [VOp.ops] at hvl
      split at hs <;> try (cases hs; done)
      rename_i s hsf
      split at hs <;> try (cases hs; done)
      rename_i v H' top' hsr
      simp only [Option.some.injEq, Prod.mk.injEq] at hs
      obtain ⟨rfl, rfl, rfl, rfl, rfl⟩ := hs
      have hrun : (execOp (mkF fn t (.inRegion ops (i :: is) :: k') d q).eval oo).run P w = .ok (.enter f ⟨xs.map rf.eval⟩) w := by
        rw [A.frame, hxs]; exact callF_run hoo rfl (hS f s hsf).fn
      have hstep := st_enter (cs := cs) A.op A.wanted hnd hrun
      rw [← A.frame] at hstep
      obtain ⟨e, w', f', ⟨ρ', rv, rfl, hrv, hh', hx⟩, hcomes, -, hleave⟩ := (hS f s hsf).calls w0 Ug ρ h m w vals _ v H' top' hlo (fun j h1 h2 => hg j h1 (by omega)) hh hvl hsr (rf :: cs)
      exact ⟨ρ', rf.finish rv, w', .trans (.head hstep hcomes) (.one (step_leave_returned hleave)), fin_reg (hcur.mono hx) rfl hrv, hh', hx⟩
    · rename_i xx xs hop
      obtain ⟨tt, ys, ts, rfl, hoo, hxs⟩ := hcV xx xs hop
      rw [hop] at hvl
      simp only [VOp.ops, List.map_cons] at hvl
      split at hs <;> try (cases hs; done)
      rename_i f first caps args
      obtain ⟨v', l', hl, hf', hargs⟩ := hvl.inv
      obtain ⟨hl1, hl2⟩ := List.cons.inj hl
      obtain ⟨fi, ca, hev, hfi, hca⟩ := hf'.funcInv
      rw [hev] at hl1
      have hvv : VRL ρ (first ++ args ++ caps) (fi ++ xs.map rf.eval ++ ca) := by rw [hl2]; exact (hfi.append hargs).append hca
      split at hs <;> try (cases hs; done)
      rename_i s hsf
      split at hs <;> try (cases hs; done)
      rename_i v H' top' hsr
      simp only [Option.some.injEq, Prod.mk.injEq] at hs
      obtain ⟨rfl, rfl, rfl, rfl, rfl⟩ := hs
      have hrun : (execOp (mkF fn t (.inRegion ops (i :: is) :: k') d q).eval oo).run P w = .ok (.enter f ⟨fi ++ xs.map rf.eval ++ ca⟩) w := by
        rw [← A.frame, hxs]; exact callV_run hoo hl1 (hS f s hsf).fn
      have hstep := st_enter (cs := cs) A.op A.wanted hnd hrun
      rw [← A.frame] at hstep
      obtain ⟨e, w', f', ⟨ρ', rv, rfl, hrv, hh', hx⟩, hcomes, -, hleave⟩ := (hS f s hsf).calls w0 Ug ρ h m w _ _ v H' top' hlo (fun j h1 h2 => hg j h1 (by omega)) hh hvv hsr (rf :: cs)
      exact ⟨ρ', rf.finish rv, w', .trans (.head hstep hcomes) (.one (step_leave_returned hleave)), fin_reg (hcur.mono hx) rfl hrv, hh', hx⟩
    · rename_i op hne1 hne2
      have hnc : isCallV o.op = false := by
        cases hop : o.op <;> first | rfl | exact absurd hop (hne1 _ _) | exact absurd hop (hne2 _ _)
      split at hs <;> try (cases hs; done)
      rename_i v H' top' hr
      simp only [Option.some.injEq, Prod.mk.injEq] at hs
      obtain ⟨rfl, rfl, rfl, rfl, rfl⟩ := hs
      have hvl' : VRL ρ vals (o.op.ops.map (mkF fn t (.inRegion ops (i :: is) :: k') d q).eval) := by rw [← A.frame]; exact hvl
      obtain ⟨ρ', w', nx, hx, hext, hh', hnx⟩ := opSound hh (hcO hnc) (fun _ => rfl) (fun _ => rfl) hvl' hr
      cases v with
      | some v =>
        obtain ⟨v', rfl, hv'⟩ := hnx
        have hstep := st_value (cs := cs) A.op A.wanted hnd hx
        rw [← A.frame] at hstep
        exact ⟨ρ', rf.finish v', w', .one hstep, fin_reg (hcur.mono hext) rfl hv', hh', hext⟩
      | none =>
        subst hnx
        have hstep := st_opUnit (cs := cs) A.op A.wanted hnd hx
        rw [← A.frame] at hstep
        exact ⟨ρ', rf.finish undef, w', .one hstep, fin_reg (hcur.mono hext) rfl undef_ok, hh', hext⟩
theorem regR_of {ops : Array Oper} : ∀ {l : List Oper} {vs : List VOper} (n : Nat), (∀ i, l[i]? = ops[n + i]?) → compOpers P ops l = some vs → RegR P ops (List.range' n l.length) vs
  | [], vs, n, _, h => by simp only [compOpers, Option.some.injEq] at h; subst h; exact .nil
  | o :: l, vs, n, hl, h => by
    simp only [compOpers] at h
    split at h <;> try (cases h; done)
    rename_i v hv
    split at h <;> try (cases h; done)
    rename_i ws hws
    cases h
    rw [List.length_cons, List.range'_succ]
    refine .cons (by have := hl 0; simpa using this.symm) hv (regR_of (n + 1) (fun i => ?_) hws)
    have := hl (i + 1)
    rw [List.getElem?_cons_succ] at this
    rw [this]; congr 1; omega
theorem regR_all {ops : Array Oper} {vs : List VOper} (h : compOpers P ops ops.toList = some vs) : RegR P ops (List.range ops.size) vs := by
  have := regR_of (ops := ops) 0 (fun i => by simp) h
  rwa [Array.length_toList, ← List.range_eq_range'] at this
theorem RegR.uniq {ops : Array Oper} : ∀ {is : List Nat} {vs us : List VOper}, RegR P ops is vs → RegR P ops is us → vs = us
  | _, _, _, .nil, .nil => rfl
  | _, _, _, .cons ho hc t, .cons ho' hc' t' => by
    rw [ho] at ho'; cases ho'
    rw [hc] at hc'; cases hc'
    rw [RegR.uniq t t']
theorem sufP_le : ∀ (ms : List Nat) (j p : Nat), p ≤ sufP j ms p ∨ j < sufP j ms p
  | [], j, p => .inl (Nat.le_refl _)
  | m :: ms, j, p => by
    simp only [sufP]
    cases Nat.beq m (2 ^ j - 1) with
    | true => rcases sufP_le ms (j + 1) p with h | h <;> simp only [cond_true] <;> omega
    | false => rcases sufP_le ms (j + 1) (j + 1) with h | h <;> simp only [cond_false] <;> omega
theorem sufP_spec : ∀ (ms : List Nat) (j p : Nat), ∀ (q : Nat) m, ms[q]? = some m → sufP j ms p ≤ j + q → m = 2 ^ (j + q) - 1
  | [], j, p, q, m, h, _ => by simp at h
  | m :: ms, j, p, q, x, h, hle => by
    simp only [sufP] at hle
    cases q with
    | zero =>
      simp at h; subst h
      cases hb : Nat.beq m (2 ^ j - 1) with
      | true => exact Nat.eq_of_beq_eq_true hb
      | false =>
        rw [hb, cond_false] at hle
        rcases sufP_le ms (j + 1) (j + 1) with h | h <;> omega
    | succ q =>
      have := sufP_spec ms (j + 1) _ q x (by simpa using h) (by rw [show j + 1 + q = j + (q + 1) by omega]; exact hle)
      rw [show j + (q + 1) = j + 1 + q by omega]; exact this
theorem lin_suffix {ops : Array Oper} (hb : ordersB ops = true) {md : Region.Mode} {p : Nat} (hsuf : ∀ j, p ≤ j → j < ops.size → ∀ i, i < j → ((ordOf ops.toList).getD j 0).testBit i = true) :
    ∀ {l : List Nat} {listed : Array Bool}, Lin md ops l listed → listed.size = ops.size → ∀ q, p ≤ q → q ≤ ops.size → (∀ i, i < q → listed.getD i false = true) → (∀ i, q ≤ i → i < ops.size → listed.getD i true = false) → l = List.range' q (ops.size - q)
  | _, _, .nil hall, hsz, q, h1, h2, h3, h4 => by
    have : ops.size = q := by
      rcases Nat.lt_or_ge q ops.size with h | h
      · have := hall q h; rw [h4 q (Nat.le_refl _) h] at this; cases this
      · omega
    rw [this]; simp
  | _, listed, .cons (j := j) (l := l) hj t, hsz, q, h1, h2, h3, h4 => by
    obtain ⟨hl0, oo, ho, hpre⟩ := mem_ready.1 hj
    have hjlt : j < ops.size := (Array.getElem?_eq_some_iff.1 ho).1
    have hqj : q ≤ j := by
      rcases Nat.lt_or_ge j q with h | h
      · have := h3 j h
        have e : listed.getD j true = listed.getD j false := by
          have hj' : j < listed.size := by omega
          simp [hj']
        rw [e, this] at hl0; cases hl0
      · exact h
    have hjq : j = q := by
      rcases Nat.eq_or_lt_of_le hqj with h | h
      · exact h.symm
      · have hcl : ∀ x, listed.getD x false = true → ∀ i ∈ preds ops x, listed.getD i false = true := fun x hx i hi => by
          have hxq : x < q := by
            rcases Nat.lt_or_ge x q with h | h
            · exact h
            · have hxs : x < ops.size := by
                rcases Nat.lt_or_ge x listed.size with h | h
                · omega
                · rw [Array.getD_eq_getD_getElem?, Array.getElem?_eq_none h] at hx; cases hx
              have := h4 x h hxs
              have e : listed.getD x true = listed.getD x false := by
                have hj' : x < listed.size := by omega
                simp [hj']
              rw [e, hx] at this; cases this
          have hlt : i < x := by
            simp only [preds] at hi
            split at hi
            · rename_i ox hox
              simp only [List.mem_map, List.mem_filter] at hi
              obtain ⟨e, ⟨e1, e2⟩, rfl⟩ := hi
              exact backs_spec hb x ox (by rw [Array.getElem?_toList]; exact hox) e e1 e2
            · cases hi
          exact h3 i (by omega)
        have hpred : ∀ i ∈ preds ops j, listed.getD i false = true := fun i hi => by
          simp only [preds, ho, List.mem_map, List.mem_filter] at hi
          obtain ⟨e, ⟨e1, e2⟩, rfl⟩ := hi
          exact hpre e (by simpa using e1) (binds_any e2)
        have := ord_listed hb (D := fun x => listed.getD x false = true) hcl j hpred q (hsuf j (by omega) hjlt q h)
        have e : listed.getD q true = listed.getD q false := by
          have hj' : q < listed.size := by omega
          simp [hj']
        rw [← e, h4 q (Nat.le_refl _) (by omega)] at this; cases this
    subst hjq
    have ih := lin_suffix hb hsuf t (by simpa using hsz) (j + 1) (by omega) (by omega) (fun i hi => by
        by_cases hij : j = i
        · subst hij; simp [hsz, hjlt]
        · rw [getD_set_ne false hij]; exact h3 i (by omega)) (fun i h5 h6 => by rw [getD_set_ne true (by omega)]; exact h4 i (by omega) h6)
    rw [ih, show ops.size - j = (ops.size - (j + 1)) + 1 by omega, List.range'_succ]
structure Plan (P : Program) (ops : Array Oper) (p top0 topE : Nat) (all : List Rec) : Prop where
  backs : ordersB ops = true
  le0 : top0 ≤ topE
  op : ∀ x ∈ all, ∃ oo, ops[x.i]? = some oo ∧ compOper P ops oo = some x.o
  cov : ∀ j, j < p → j < ops.size → ∃ x ∈ all, x.i = j
  pre : ∀ x ∈ all, x.i < p
  ple : p ≤ ops.size
  suf : ∀ j, p ≤ j → j < ops.size → ∀ i, i < j → ((ordOf ops.toList).getD j 0).testBit i = true
  pw : all.Pairwise fun x y => x.i < y.i ∧ x.m1 < y.m
  le : ∀ x ∈ all, top0 ≤ x.m ∧ x.m ≤ x.m1 ∧ x.m1 < topE
  noc : ∀ x ∈ all, ∀ y ∈ all, x.i < y.i → ((ordOf ops.toList).getD y.i 0).testBit x.i = true ∨ NoC x y
def usedG (U : Nat → Nat → Prop) (top0 : Nat) (all : List Rec) (listed : Array Bool) : UG :=
  ⟨U, fun j => j < top0 ∨ ∃ x ∈ all, listed.getD x.i true = true ∧ x.m ≤ j ∧ j ≤ x.m1, 0⟩
theorem pw_cases {R : Rec → Rec → Prop} : ∀ {l : List Rec}, l.Pairwise R → ∀ x ∈ l, ∀ y ∈ l, x = y ∨ R x y ∨ R y x
  | [], _, x, h, _, _ => by cases h
  | z :: l, h, x, hx, y, hy => by
    rw [List.pairwise_cons] at h
    rcases List.mem_cons.1 hx with e1 | h1 <;> rcases List.mem_cons.1 hy with e2 | h2
    · exact .inl (e1.trans e2.symm)
    · exact .inr (.inl (e1 ▸ h.1 y h2))
    · exact .inr (.inr (e2 ▸ h.1 x h1))
    · exact pw_cases h.2 x h1 y h2
theorem draw_end {fr : VFrame} {k : List VItem} {ops : Array Oper} {p top0 topE : Nat} {all : List Rec} (hp : Plan P ops p top0 topE all) {listed : Array Bool} {cs : List Frame} {s t : St} (hch : Chain S fr.nt [] s t) {vs : List VOper} {ρ : Ren} {rf : Frame} {w : World}
    (hcur : FrR P ρ { fr with env := s.1, todo := .inReg vs :: k } rf) (hh : HpR P w0 (usedG U top0 all listed) ρ s.2 0 w) :
    ∃ ρ' rf' w', Steps P (lone rf cs w) (lone rf' cs w') ∧ FrR P ρ' { fr with env := t.1, todo := .inReg vs :: k } rf' ∧ HpR P w0 (.of U) ρ' t.2 topE w' ∧ Ext ρ ρ' := by
  refine ⟨ρ, rf, w, Steps.refl _ _, hcur.envEq hch.1, ?_, Ext.refl ρ⟩
  refine (HpR.reg (U2 := .of U) (top' := topE) hh rfl fun i hi => .inr ⟨Nat.zero_le _, ?_⟩).congr (fun i => (hch.2 i).symm)
  rcases hi with (h | ⟨x, h1, _, _, h4⟩) | ⟨_, h⟩
  · have := hp.le0; omega
  · have := hp.le x h1; omega
  · omega
theorem draw_run (hS : SumsOK P S) {fr : VFrame} (hret : fr.ret = false) {k : List VItem} {ops : Array Oper} {p top0 topE : Nat} {all : List Rec} (hp : Plan P ops p top0 topE all) {post : List VOper} (hpost : RegR P ops (List.range' p (ops.size - p)) post) {md : Region.Mode} {cs : List Frame} :
    ∀ {l : List Nat} {listed : Array Bool}, Lin md ops l listed → listed.size = ops.size → (∀ j, listed.getD j false = true → ∀ i ∈ preds ops j, listed.getD i false = true) → (∀ j, p ≤ j → j < ops.size → listed.getD j true = false) →
    ∀ {c : List Rec}, c.Sublist all → (∀ x, x ∈ c ↔ x ∈ all ∧ listed.getD x.i true = false) → ∀ {s t : St}, Chain S fr.nt c s t →
    ∀ {vs : List VOper}, RegR P ops l vs → ∀ {ρ : Ren} {rf : Frame} {w : World}, FrR P ρ { fr with env := s.1, todo := .inReg vs :: k } rf → HpR P w0 (usedG U top0 all listed) ρ s.2 0 w →
    ∃ ρ' rf' w', Steps P (lone rf cs w) (lone rf' cs w') ∧ FrR P ρ' { fr with env := t.1, todo := .inReg post :: k } rf' ∧ HpR P w0 (.of U) ρ' t.2 topE w' ∧ Ext ρ ρ'
  | _, listed, .nil hall, hsz, hcl, hns, c, hsub, hmem, s, t, hch, vs, hreg, ρ, rf, w, hcur, hh => by
    have hc : c = [] := by
      cases c with
      | nil => rfl
      | cons x c =>
        obtain ⟨h1, h2⟩ := (hmem x).1 (by simp)
        obtain ⟨oo, h3, _⟩ := hp.op x h1
        rw [hall x.i (Array.getElem?_eq_some_iff.1 h3).1] at h2; cases h2
    have hpn : ops.size - p = 0 := by
      rcases Nat.lt_or_ge p ops.size with h | h
      · have := hall p h; rw [hns p (Nat.le_refl _) h] at this; cases this
      · omega
    rw [hpn] at hpost
    have hvp : vs = post := hreg.uniq hpost
    subst hc hvp
    exact draw_end hp hch hcur hh
  | _, listed, .cons (j := j) (l := l) hj htl, hsz, hcl, hns, c, hsub, hmem, s, t, hch, vs, hreg, ρ, rf, w, hcur, hh => by
    rcases Nat.lt_or_ge j p with hjp | hjp
    case inr =>
      obtain ⟨hl0, oo', ho', hpre⟩ := mem_ready.1 hj
      have hjlt : j < ops.size := (Array.getElem?_eq_some_iff.1 ho').1
      have hpred : ∀ i ∈ preds ops j, listed.getD i false = true := fun i hi => by
        simp only [preds, ho', List.mem_map, List.mem_filter] at hi
        obtain ⟨e, ⟨h1, h2⟩, rfl⟩ := hi
        exact hpre e (by simpa using h1) (binds_any h2)
      have hall : ∀ i, i < p → listed.getD i false = true := fun i hi =>
        ord_listed hp.backs (D := fun j => listed.getD j false = true) hcl j hpred i (hp.suf j hjp hjlt i (by omega))
      have hc : c = [] := by
        cases c with
        | nil => rfl
        | cons x c =>
          obtain ⟨h1, h2⟩ := (hmem x).1 (by simp)
          have := hall x.i (hp.pre x h1)
          obtain ⟨oo, h3, _⟩ := hp.op x h1
          have hlt := (Array.getElem?_eq_some_iff.1 h3).1
          have e : listed.getD x.i true = listed.getD x.i false := by
            have hj' : x.i < listed.size := by omega
            simp [hj']
          rw [e, this] at h2; cases h2
      have hl := lin_suffix hp.backs hp.suf (Lin.cons hj htl) hsz p (Nat.le_refl _) hp.ple hall hns
      rw [hl] at hreg
      have hvp : vs = post := hreg.uniq hpost
      subst hc hvp
      exact draw_end hp hch hcur hh
    cases hreg with | @cons _ _ oo v vs ho hcomp hrt =>
    obtain ⟨hl0, oo', ho', hpre⟩ := mem_ready.1 hj
    rw [ho] at ho'; cases ho'
    have hjlt : j < ops.size := (Array.getElem?_eq_some_iff.1 ho).1
    obtain ⟨y, hy, rfl⟩ := hp.cov j hjp hjlt
    obtain ⟨oo2, hoo2, hc2⟩ := hp.op y hy
    rw [ho] at hoo2; cases hoo2
    rw [hcomp] at hc2; cases hc2
    have hyc : y ∈ c := (hmem y).2 ⟨hy, hl0⟩
    obtain ⟨a, b, rfl⟩ := List.append_of_mem hyc
    have hpw : (a ++ y :: b).Pairwise fun x y => x.i < y.i ∧ x.m1 < y.m := hp.pw.sublist hsub
    rw [List.pairwise_append, List.pairwise_cons] at hpw
    have hpred : ∀ i ∈ preds ops y.i, listed.getD i false = true := fun i hi => by
      simp only [preds, ho, List.mem_map, List.mem_filter] at hi
      obtain ⟨e, ⟨h1, h2⟩, rfl⟩ := hi
      exact hpre e (by simpa using h1) (binds_any h2)
    have hfront := hch.front fun x hx => by
      have hxy := (hpw.2.2 x hx y (by simp)).1
      obtain ⟨hxa, hxl⟩ := (hmem x).1 (by simp [hx])
      refine (hp.noc x hxa y hy hxy).resolve_left fun hbit => ?_
      have := ord_listed hp.backs (D := fun j => listed.getD j false = true) hcl y.i hpred x.i hbit
      obtain ⟨_, hxo, _⟩ := hp.op x hxa
      have hlt := (Array.getElem?_eq_some_iff.1 hxo).1
      simp [show x.i < listed.size by omega] at this hxl
      rw [this] at hxl; cases hxl
    obtain ⟨s1, hrun, hrest⟩ := hfront
    have hles := hp.le y hy
    have hfree : ∀ z, z ∈ all → listed.getD z.i true = true → z.m1 < y.m ∨ y.m1 < z.m := fun z hz hzl => by
      rcases pw_cases hp.pw z hz y hy with rfl | h | h
      · rw [hl0] at hzl; cases hzl
      · exact .inl h.2
      · exact .inr h.2
    have hh1 : HpR P w0 ⟨U, (usedG U top0 all listed).g, y.m⟩ ρ s.2 y.m w := HpR.reg hh rfl fun i hi => .inl (by
      rcases hi with hi | ⟨_, hi⟩
      · exact hi
      · omega)
    obtain ⟨ρ1, rf1, w1, g1, g2, g3, g4⟩ := op_real hS hret hcur hh1 (Nat.le_refl _) (fun i h1 h2 hg => by
      rcases hg with hg | ⟨z, hz1, hz2, hz3, hz4⟩
      · omega
      · rcases hfree z hz1 hz2 with h | h <;> omega) hles.2.1 hrun cs
    have hge : ∀ i, i ≠ y.i → (listed.setIfInBounds y.i true).getD i true = listed.getD i true := fun i hi => getD_set_ne true (Ne.symm hi)
    have hsame : (listed.setIfInBounds y.i true).getD y.i true = true := by simp [hsz, hjlt]
    have hh2 : HpR P w0 (usedG U top0 all (listed.setIfInBounds y.i true)) ρ1 s1.2 0 w1 := HpR.reg g3 rfl fun i hi => .inl (by
      rcases hi with (hi | ⟨z, hz1, hz2, hz3⟩) | ⟨h1, h2⟩
      · exact .inl hi
      · refine .inr ⟨z, hz1, ?_, hz3⟩
        by_cases hzy : z.i = y.i
        · rw [hzy]; exact hsame
        · rw [hge _ hzy]; exact hz2
      · exact .inr ⟨y, hy, hsame, h1, by omega⟩)
    obtain ⟨ρ2, rf2, w2, k1, k2, k3, k4⟩ := draw_run hS hret hp hpost htl (by simpa using hsz) (fun i hi q hq => by
        by_cases hiy : i = y.i
        · subst hiy; exact getD_set_true (hpred q hq)
        · rw [getD_set_ne false (Ne.symm hiy)] at hi
          exact getD_set_true (hcl i hi q hq)) (fun i h5 h6 => by rw [getD_set_ne true (by omega)]; exact hns i h5 h6) (c := a ++ b) (by
            refine List.Sublist.trans ?_ hsub
            exact List.Sublist.append_left (List.sublist_cons_self _ _) _) (fun x => by
        have hm := hmem x
        simp only [List.mem_append, List.mem_cons] at hm ⊢
        constructor
        · intro hx
          have hne : x.i ≠ y.i := by
            rcases hx with hx | hx
            · have := (hpw.2.2 x hx y (by simp)).1; omega
            · have := (hpw.2.1.1 x hx).1; omega
          rw [hge _ hne]
          exact hm.1 (hx.imp id .inr)
        · rintro ⟨h1, h2⟩
          have hne : x.i ≠ y.i := fun e => by rw [e, hsame] at h2; cases h2
          rw [hge _ hne] at h2
          rcases hm.2 ⟨h1, h2⟩ with h | rfl | h
          · exact .inl h
          · exact absurd rfl hne
          · exact .inr h) hrest hrt g2 hh2
    exact ⟨ρ2, rf2, w2, g1.trans k1, k2, k3, g4.trans k4⟩
theorem plan_of : ∀ {vs : List VOper} {e e' : Env} {h h' : Hp} {m m' : Nat} {fps : List Fp} {nt : Nat} (i0 : Nat), runD S nt vs e h m = some (fps, e', h', m') →
    ∃ all : List Rec, Chain S nt all (e, h) (e', h') ∧ all.length = vs.length ∧ fps.length = vs.length ∧ m ≤ m' ∧
      (∀ (k : Nat) x, all[k]? = some x → x.i = i0 + k ∧ vs[k]? = some x.o ∧ fps[k]? = some (x.r, x.wf) ∧ (memK x.o.op = 0 → x.r = [] ∧ x.wf = []) ∧ (memK x.o.op = 1 → x.wf = [])) ∧
      (∀ x ∈ all, m ≤ x.m ∧ x.m ≤ x.m1 ∧ x.m1 < m' ∧ i0 ≤ x.i) ∧ all.Pairwise fun x y => x.i < y.i ∧ x.m1 < y.m
  | [], e, e', h, h', m, m', fps, nt, i0, hr => by
    simp only [runD, Option.some.injEq, Prod.mk.injEq] at hr
    obtain ⟨rfl, rfl, rfl, rfl⟩ := hr
    exact ⟨[], EqS.refl _, rfl, rfl, Nat.le_refl _, fun k x hx => (by simp at hx), fun x hx => (by cases hx), .nil⟩
  | o :: vs, e, e', h, h', m, m', fps, nt, i0, hr => by
    simp only [runD] at hr
    split at hr <;> try (cases hr; done)
    rename_i e1 h1 m1 r w hst
    split at hr <;> try (cases hr; done)
    rename_i fps1 e2 h2 m2 hrun
    cases hr
    have hruns : Runs S nt ⟨i0, o, m, m1, r, w⟩ (e, h) (e1, h1) := hst
    obtain ⟨_, _, hm, _⟩ := hruns.local (s2 := (e, h)) (fun _ _ => rfl) (fun _ _ => rfl)
    simp only at hm
    obtain ⟨all, g1, g2, g3, g4, g5, g6, g7⟩ := plan_of (i0 + 1) hrun
    refine ⟨⟨i0, o, m, m1, r, w⟩ :: all, ⟨_, hruns, g1⟩, by simp [g2], by simp [g3], by omega, fun k x hx => ?_, fun x hx => ?_, ?_⟩
    · cases k with
      | zero => simp at hx; subst hx; exact ⟨rfl, rfl, rfl, hruns.kind⟩
      | succ k =>
        obtain ⟨a, b, c, d⟩ := g5 k x (by simpa using hx)
        exact ⟨by omega, by simpa using b, by simpa using c, d⟩
    · rcases List.mem_cons.1 hx with rfl | hx
      · simp only; omega
      · have := g6 x hx; omega
    · rw [List.pairwise_cons]
      exact ⟨fun x hx => by have := g6 x hx; simp only; omega, g7⟩
theorem compOpers_get {ops : Array Oper} : ∀ {os : List Oper} {vs : List VOper}, compOpers P ops os = some vs → vs.length = os.length ∧ ∀ (k : Nat) o, os[k]? = some o → ∃ v, vs[k]? = some v ∧ compOper P ops o = some v
  | [], vs, h => by simp only [compOpers, Option.some.injEq] at h; subst h; exact ⟨rfl, fun k o hk => by simp at hk⟩
  | o :: os, vs, h => by
    simp only [compOpers] at h
    split at h <;> try (cases h; done)
    rename_i v hv
    split at h <;> try (cases h; done)
    rename_i vs' hvs
    cases h
    obtain ⟨g1, g2⟩ := compOpers_get hvs
    refine ⟨by simp [g1], fun k x hk => ?_⟩
    cases k with
    | zero => simp at hk; subst hk; exact ⟨v, rfl, hv⟩
    | succ k => simpa using g2 k x (by simpa using hk)
theorem compOpers_drop {ops : Array Oper} : ∀ {os : List Oper} {vs : List VOper}, compOpers P ops os = some vs → ∀ n, compOpers P ops (os.drop n) = some (vs.drop n)
  | os, vs, h, 0 => by simpa using h
  | [], vs, h, n + 1 => by simp only [compOpers, Option.some.injEq] at h; subst h; rfl
  | o :: os, vs, h, n + 1 => by
    simp only [compOpers] at h
    split at h <;> try (cases h; done)
    split at h <;> try (cases h; done)
    rename_i vs' hvs
    cases h
    simpa using compOpers_drop hvs n
theorem noC_of {x y : Rec} (h1 : noConf (x.r, x.wf) (y.r, y.wf) = true) (h2 : noConf (tmpFp x.o) (tmpFp y.o) = true) : NoC x y := by
  simp only [noConf, Bool.and_eq_true] at h1 h2
  exact ⟨disjB_iff h2.1.1, disjB_iff h2.1.2, disjB_iff h2.2, disjB_iff h1.1.1, disjB_iff h1.1.2, disjB_iff h1.2⟩
theorem noC_kind {x y : Rec} (hx : (memK x.o.op = 0 → x.r = [] ∧ x.wf = []) ∧ (memK x.o.op = 1 → x.wf = [])) (hy : (memK y.o.op = 0 → y.r = [] ∧ y.wf = []) ∧ (memK y.o.op = 1 → y.wf = []))
    (h1 : pairFree x.o.op y.o.op = true) (h2 : noConf (tmpFp x.o) (tmpFp y.o) = true) : NoC x y := by
  simp only [noConf, Bool.and_eq_true] at h2
  have key : (∀ b ∈ x.wf, b ∉ y.r) ∧ (∀ b ∈ x.wf, b ∉ y.wf) ∧ (∀ b ∈ y.wf, b ∉ x.r) := by
    simp only [pairFree, Bool.or_eq_true, Bool.and_eq_true] at h1
    rcases h1 with h | h | ⟨h, h'⟩ <;> replace h := Nat.eq_of_beq_eq_true h
    · obtain ⟨a, b⟩ := hx.1 h; rw [a, b]; simp
    · obtain ⟨a, b⟩ := hy.1 h; rw [a, b]; simp
    · rw [hx.2 h, hy.2 (Nat.eq_of_beq_eq_true h')]; simp
  exact ⟨disjB_iff h2.1.1, disjB_iff h2.1.2, disjB_iff h2.2, key.1, key.2.1, key.2.2⟩
theorem lin_reg {md : Region.Mode} {ops : Array Oper} {vs : List VOper} (h : compOpers P ops ops.toList = some vs) : ∀ {l : List Nat} {listed : Array Bool}, Lin md ops l listed → ∃ us, RegR P ops l us
  | _, _, .nil _ => ⟨[], .nil⟩
  | _, _, .cons hj t => by
    obtain ⟨us, hu⟩ := lin_reg h t
    obtain ⟨_, o, ho, _⟩ := mem_ready.1 hj
    obtain ⟨v, _, hv⟩ := (compOpers_get h).2 _ o (by rw [Array.getElem?_toList]; exact ho)
    exact ⟨v :: us, .cons ho hv hu⟩
theorem st_regD {fn : FuncId} {t : Array Value} {k : List Item} {d : List Deferred} {r : Option Nat} {cs : List Frame} {w : World} {id : Nat} {ops : Array Oper} :
    ∃ q, step P (lone (mkF fn t (.code (.region id ops true) :: k) d r) cs w) = .next (lone (mkF fn t (.inRegion ops (Region.schedule (P.follows .mixedOrders) ops q) :: k) d r) cs w.drew) :=
  ⟨_, step_lone_go (by simp [stepG, stepG.exec, Question.forced, Question.cut]; rfl)⟩
theorem draw_go (hS : SumsOK P S) {fr : VFrame} {up : List VFrame} {H : Hp} {top : Nat} {rf : Frame} {rfs : List Frame} {w : World} (h : VMR P w0 U ρ ⟨fr, up, H, top⟩ rf rfs w) (hret : fr.ret = false)
    {vs : List VOper} {chk : List (Nat × Nat)} {k : List VItem} {id : Nat} {ops : Array Oper} (_ht : fr.todo = .code (.regD (vs.take (sufP 0 (ordOf ops.toList) 0)) chk (vs.drop (sufP 0 (ordOf ops.toList) 0))) :: k) {rk : List Item} (hrt : rf.todo = .code (.region id ops true) :: rk) (hk : All2 (ItemR P ρ) k rk)
    (hcomp : compOpers P ops ops.toList = some vs) (hback : ordersB ops = true) (htmp : okAll 0 (ordOf ops.toList) (vs.map tmpFp) = true) (hord : chk = freePairs 0 ((ordOf ops.toList).take (sufP 0 (ordOf ops.toList) 0)) (vs.take (sufP 0 (ordOf ops.toList) 0)))
    {fps : List Fp} {e' : Env} {h' : Hp} {top' : Nat} (hrun : runD S fr.nt (vs.take (sufP 0 (ordOf ops.toList) 0)) fr.env H top = some (fps, e', h', top')) (hok : okPairs fps chk = true) (cs : List Frame) :
    Goes P w0 U ρ cs ⟨{ fr with env := e', todo := .inReg (vs.drop (sufP 0 (ordOf ops.toList) 0)) :: k }, up, h', top'⟩ rf rfs w := by
  obtain ⟨q, hstep⟩ := st_regD (P := P) (fn := rf.fn) (t := rf.tmps) (k := rk) (d := rf.defers) (r := rf.roundOf) (cs := rfs ++ cs) (w := w) (id := id) (ops := ops)
  rw [← hrt, ← frame_eta h.cur hret] at hstep
  obtain ⟨md, hlin⟩ := lin_schedule hback (P.follows .mixedOrders) q
  obtain ⟨us, hus⟩ := lin_reg hcomp hlin
  have hlen : vs.length = ops.size := by simpa using (compOpers_get hcomp).1
  have holen : (ordOf ops.toList).length = ops.size := by simpa [ordOf] using (ordGo_spec ops.toList []).2.1
  have hordj : ∀ j, sufP 0 (ordOf ops.toList) 0 ≤ j → j < ops.size → (ordOf ops.toList).getD j 0 = 2 ^ j - 1 := fun j h1 h2 => by
    have hj : (ordOf ops.toList)[j]? = some (ordOf ops.toList)[j] := List.getElem?_eq_getElem (by omega)
    have := sufP_spec (ordOf ops.toList) 0 0 j _ hj (by omega)
    rw [List.getD_eq_getElem?_getD, hj, Option.getD_some, this, Nat.zero_add]
  generalize sufP 0 (ordOf ops.toList) 0 = p0 at *
  obtain ⟨p, hpe, hp1, hp2⟩ : ∃ p, p = min p0 ops.size ∧ vs.take p0 = vs.take p ∧ vs.drop p0 = vs.drop p := by
    refine ⟨_, rfl, ?_, ?_⟩
    · rcases Nat.le_total p0 ops.size with h | h
      · rw [Nat.min_eq_left h]
      · rw [Nat.min_eq_right h, List.take_of_length_le (by omega), List.take_of_length_le (by omega)]
    · rcases Nat.le_total p0 ops.size with h | h
      · rw [Nat.min_eq_left h]
      · rw [Nat.min_eq_right h, List.drop_eq_nil_of_le (by omega), List.drop_eq_nil_of_le (by omega)]
  have hp3 : (ordOf ops.toList).take p0 = (ordOf ops.toList).take p := by
    rcases Nat.le_total p0 ops.size with h | h
    · rw [hpe, Nat.min_eq_left h]
    · rw [hpe, Nat.min_eq_right h, List.take_of_length_le (by omega), List.take_of_length_le (by omega)]
  rw [hp1] at hrun
  rw [hp1, hp3] at hord
  rw [hp2]
  have hple : p ≤ ops.size := by omega
  have hsuf : ∀ j, p ≤ j → j < ops.size → ∀ i, i < j → ((ordOf ops.toList).getD j 0).testBit i = true := fun j h1 h2 i h3 => by
    rw [hordj j (by omega) h2, Nat.testBit_two_pow_sub_one]; simpa using h3
  have hpost : RegR P ops (List.range' p (ops.size - p)) (vs.drop p) := by
    have h1 : compOpers P ops (ops.toList.drop p) = some (vs.drop p) := compOpers_drop hcomp p
    have := regR_of (ops := ops) (l := ops.toList.drop p) p (fun i => by rw [List.getElem?_drop, Array.getElem?_toList]) h1
    simpa using this
  obtain ⟨all, g1, g2, g3, g4, g5, g6, g7⟩ := plan_of 0 hrun
  subst hord
  have htl : (vs.take p).length = p := by simp; omega
  have hget : ∀ x ∈ all, ∃ k, all[k]? = some x ∧ x.i = k ∧ k < p ∧ (vs.take p)[k]? = some x.o ∧ vs[k]? = some x.o ∧ fps[k]? = some (x.r, x.wf) ∧ (memK x.o.op = 0 → x.r = [] ∧ x.wf = []) ∧ (memK x.o.op = 1 → x.wf = []) := fun x hx => by
    obtain ⟨k, hk⟩ := List.getElem?_of_mem hx
    obtain ⟨a, b, c, d⟩ := g5 k x hk
    have hkp : k < p := by rw [← htl]; exact (List.getElem?_eq_some_iff.1 b).1
    exact ⟨k, hk, by omega, hkp, b, by rw [List.getElem?_take_of_lt hkp] at b; exact b, c, d⟩
  have hplan : Plan P ops p top top' all := by
    refine ⟨hback, g4, fun x hx => ?_, fun j hjp hj => ?_, fun x hx => ?_, hple, hsuf, g7, fun x hx => ?_, fun x hx y hy hxy => ?_⟩
    · obtain ⟨k, h1, h2, h2', h2'', h3, h4, _⟩ := hget x hx
      have hlt : k < ops.size := by omega
      obtain ⟨v, h5, h6⟩ := (compOpers_get hcomp).2 k ops[k] (by rw [Array.getElem?_toList]; exact Array.getElem?_eq_getElem hlt)
      rw [h3] at h5; cases h5
      exact ⟨ops[k], by rw [h2]; exact Array.getElem?_eq_getElem hlt, h6⟩
    · have hj' : j < all.length := by omega
      refine ⟨all[j], List.getElem_mem hj', ?_⟩
      have := (g5 j all[j] (List.getElem?_eq_getElem hj')).1
      omega
    · obtain ⟨k, h1, h2, h2', _⟩ := hget x hx; omega
    · have := g6 x hx; omega
    · obtain ⟨i, a1, a2, ap, a3', a3, a4, a5⟩ := hget x hx
      obtain ⟨j, b1, b2, bp, b3', b3, b4, b5⟩ := hget y hy
      obtain ⟨m, c1, c2⟩ := okAll_spec htmp i j (tmpFp x.o) (tmpFp y.o) (by omega) (by rw [List.getElem?_map, a3]; rfl) (by rw [List.getElem?_map, b3]; rfl)
      rw [b2, a2, List.getD_eq_getElem?_getD, c1, Option.getD_some]
      rw [Nat.zero_add] at c2
      rcases c2 with c2 | c2
      · exact .inl c2
      · rcases freePairs_spec (i := 0) i j x.o y.o (by omega) a3' b3' m (by rw [List.getElem?_take_of_lt bp]; exact c1) with d1 | d1 | d1
        · exact .inl (by simpa using d1)
        · exact .inr (noC_kind a5 b5 d1 c2)
        · exact .inr (noC_of (okPairs_spec hok i j (by simpa using d1) _ _ a4 b4) c2)
  have hcur : FrR P ρ { fr with env := fr.env, todo := .inReg us :: k } (mkF rf.fn rf.tmps (.inRegion ops (Region.schedule (P.follows .mixedOrders) ops q) :: rk) rf.defers rf.roundOf) :=
    ⟨h.cur.fn, h.cur.size, h.cur.env, .cons (.inReg hus) hk, h.cur.defers, by simp [hret], rfl, h.cur.round⟩
  have hheap : HpR P w0 (usedG U top all (Array.replicate ops.size false)) ρ H 0 w.drew := HpR.reg h.heap.drew rfl fun i hi => .inl (.inl (by
    rcases hi with hi | hi
    · exact hi.elim
    · exact hi.2))
  obtain ⟨ρ', rf', w', k1, k2, k3, k4⟩ := draw_run (w0 := w0) (U := U) hS hret hplan hpost (cs := rfs ++ cs) hlin (by simp) (fun j hj => by
      have : (Array.replicate ops.size false).getD j false = false := by
        rw [Array.getD_eq_getD_getElem?, Array.getElem?_replicate]; split <;> rfl
      rw [this] at hj; cases hj) (fun j h1 h2 => by simp [h2]) (List.Sublist.refl all) (fun x => by
      constructor
      · intro hx
        refine ⟨hx, ?_⟩
        obtain ⟨oo, ho, _⟩ := hplan.op x hx
        have hlt := (Array.getElem?_eq_some_iff.1 ho).1
        simp [hlt]
      · exact fun h => h.1) g1 hus hcur hheap
  exact ⟨ρ', rf', rfs, w', Steps.head hstep k1, ⟨⟨k2.fn, k2.size, k2.env, k2.todo, k2.defers, k2.mode, k2.kind, k2.round⟩, h.up.mono fun _ _ x => x.mono k4, k3⟩, k4⟩
end
end Go.Vm
