/- The engine, part 17: a step of the virtual machine is some steps of the real one. -/
import Derived.Test.YtdnhoocoofnibaaVmDraw
namespace Go.Vm
open Go Go.RowKit
section
variable {P : Program} {w0 : World} {U : Nat → Nat → Prop} {ρ : Ren} {F : Fns} {S : Sums}

theorem HpR.wipe {H : Hp} {top : Nat} {w : World} (h : HpR P w0 (.of U) ρ H top w) {b : Nat} {ob : VObj} {l : Loc} {r r' : Obj} (hb : aget H b = some ob) (hl : ρ b = some l) (hwr : writable ob = true) (hle : l.sh = 0 ∧ l.ext = 1)
    (hr : w.heap[l.blk]? = some r) (hn : ∀ c t f, r ≠ .cells c t f) : HpR P w0 (.of U) ρ (adel H b) top { w with heap := w.heap.setIfInBounds l.blk r' } where
  obj j x hx := by
    rw [aget_adel] at hx
    by_cases hbj : b = j
    · simp [hbj] at hx
    rw [if_neg hbj] at hx
    obtain ⟨l', hl', hr', hw'⟩ := h.obj j x hx
    refine ⟨l', hl', hr'.same (Ext.refl ρ) (fun he => heap_setObj _ _ _ _ fun e => ?_), hw'⟩
    have ap := h.dis b j ob x l l' hbj hb hx hl hl' hwr
    have nocell : CellsR ρ w l' (writable x) [] → False := fun hc => by
      have := (hc.2.2 0 he).1
      rw [e] at this
      unfold World.cell? at this
      simp only [hr] at this
      cases r <;> simp at this
      exact hn _ _ _ rfl
    have at0 : l'.sh = 0 → False := fun h0 => ap 0 e.symm (by omega) (by omega) (by omega) (by omega)
    cases x with
    | cells cs => exact nocell ⟨Nat.zero_le _, fun i v e => by simp at e, hr'.2.2⟩
    | row own cs => exact nocell ⟨Nat.zero_le _, fun i v e => by simp at e, hr'.2.2⟩
    | ty t cs => exact at0 hr'.2.1
    | siter => exact at0 hr'.2.1
    | loop => exact at0 hr'.2.1
    | marks => exact at0 hr'.2.1
  dis := (h.del b).dis
  lt := h.lt
  keep := by
    obtain ⟨l', hl', _, hU⟩ := h.obj b ob hb
    rw [hl] at hl'; cases hl'
    exact h.keep.setObj l.blk r' (hU hwr 0 (by omega) (by omega)) fun c t f e => hn c t f (Option.some.inj (hr.symm.trans e))

theorem exitTo_ok {id : Nat} : ∀ {v : List VItem} {k : List Item}, All2 (ItemR P ρ) v k →
    (∀ v', exitTo id v = some v' → ∃ k', Go.exitTo id k = some k' ∧ All2 (ItemR P ρ) v' k') ∧ (exitTo id v = none → Go.exitTo id k = none)
  | _, _, .nil => ⟨fun _ h => by simp [exitTo] at h, fun _ => rfl⟩
  | _, _, .cons h t => by
    have ih := exitTo_ok (id := id) t
    cases h with
    | inBlock id' =>
      simp only [exitTo, Go.exitTo]
      by_cases e : id' = id
      · subst e
        simp only [↓reduceIte, beq_self_eq_true]
        exact ⟨fun v' h => by cases h; exact ⟨_, rfl, t⟩, fun h => by cases h⟩
      · have e' : (id' == id) = false := by simpa using e
        simp only [e, ↓reduceIte, e', Bool.false_eq_true]
        exact ih
    | _ => simpa only [exitTo, Go.exitTo] using ih

theorem step_endRound {fn : FuncId} {t : Array Value} {todo : List Item} {d : List Deferred} {l : Nat} {c : Frame} {cs : List Frame} {w w' : World} {jump : Option Code} {v : Value}
    (hj : (todo = [] ∧ jump = none) ∨ (∃ k, todo = .code .ret :: k ∧ jump = some .ret) ∨ (∃ id k, todo = .code (.exit id) :: k ∧ Go.exitTo id k = none ∧ jump = some (.exit id)))
    (hr : (Instr.endRound l jump).run P w = .ok v w') : step P (lone (mkF fn t todo d (some l)) (c :: cs) w) = .next (lone (c.finish v) cs w') := by
  refine step_lone_go ?_
  rcases hj with ⟨rfl, rfl⟩ | ⟨k, rfl, rfl⟩ | ⟨id, k, rfl, he, rfl⟩
  · simp [stepG, stepG.exec, Sem.runT_eq, hr, doReturn, GStep.bare_after]
  · simp [stepG, stepG.exec, Sem.runT_eq, hr, doReturn, GStep.bare_after]
  · simp [stepG, stepG.exec, he, Sem.runT_eq, hr, doReturn, GStep.bare_after]

theorem leaveRound_ok {fr : VFrame} {up : List VFrame} {H : Hp} {top : Nat} {rf : Frame} {rfs : List Frame} {w : World} {vm' : VM}
    (h : VMR P w0 U ρ ⟨fr, up, H, top⟩ rf rfs w) (hret : fr.ret = false) {l : Nat} (hrd : fr.round = some l) {j : Option VC} {jump : Option Code}
    (hjc : match j, jump with | none, none => True | some c, some c' => compC P c' = some c | _, _ => False)
    (hj : (rf.todo = [] ∧ jump = none) ∨ (∃ k, rf.todo = .code .ret :: k ∧ jump = some .ret) ∨ (∃ id k, rf.todo = .code (.exit id) :: k ∧ Go.exitTo id k = none ∧ jump = some (.exit id)))
    (hs : leaveRound l j up H top = some vm') (cs : List Frame) : Goes P w0 U ρ cs vm' rf rfs w := by
  unfold leaveRound at hs
  split at hs <;> try (cases hs; done)
  rename_i r hr
  split at hs <;> try (cases hs; done)
  rename_i u us
  split at hs <;> try (cases hs; done)
  rename_i u' hu
  cases hs
  have hcur := h.cur
  obtain ⟨_, hup, hheap⟩ := h
  cases hup with | @cons _ c _ cs' hc hcs =>
  obtain ⟨lo, hl, ⟨⟨r', hw, hlr⟩, hsh, hext⟩, _⟩ := hheap.obj l _ hr
  have hround := hcur.round
  simp only at hcur
  rw [hrd] at hround
  cases hq : rf.roundOf with
  | none => rw [hq] at hround; exact hround.elim
  | some q =>
    rw [hq] at hround
    obtain ⟨lo', hl', hqe, _⟩ := hround
    rw [hl] at hl'; cases hl'
    subst hqe
    have hjn : j.isNone = jump.isNone := by cases j <;> cases jump <;> first | rfl | exact hjc.elim
    have hstep := step_endRound (P := P) (cs := cs' ++ cs) (c := c) (fn := rf.fn) (t := rf.tmps) (d := rf.defers) hj (run_endRound jump hw)
    rw [← hq, ← frame_eta hcur hret] at hstep
    refine Goes.one (rfs' := cs') hstep ⟨finish_ok hc (hjn ▸ .bool _) hu, hcs, ?_⟩
    refine hheap.setObj hr hl rfl ⟨hsh, hext⟩ hw (by simp) (by simp) ⟨⟨_, heap_setObj_same _ _ _ _ hw, ?_⟩, hsh, hext⟩
    exact { hlr with state := by simp [hjn], pending := hjc }

theorem st_begin {fn : FuncId} {t : Array Value} {k : List Item} {d : List Deferred} {l : Nat} {cs : List Frame} {w w' : World} (h : (Instr.beginRound l).run P w = .ok () w') :
    step P (lone (mkF fn t (.beginRound :: k) d (some l)) cs w) = .next (lone (mkF fn t k d (some l)) cs w') :=
  step_lone_go (by simp [stepG, stepG.exec, stepG.apply, Sem.runT_eq, h, Frame.finish, GStep.bare_after])

theorem st_endRF {fn : FuncId} {t : Array Value} {k : List Item} {d : List Deferred} {r : Option Nat} {l : Nat} {cs : List Frame} {w w' : World} {j : Option Code} (h : (Instr.endLoop l).run P w = .ok j w') :
    step P (lone (mkF fn t (.endRangeFunc l :: k) d r) cs w) = .next (lone (mkF fn t ((j.map Item.code).toList ++ k) d r) cs w') :=
  step_lone_go (by simp [stepG, stepG.exec, Sem.runT_eq, h, GStep.bare_after])

theorem st_rangeF {fn : FuncId} {t : Array Value} {k : List Item} {d : List Deferred} {r : Option Nat} {cs : List Frame} {w w' : World} {f : Operand} {ps : Array Tmp} {aqs bd : Code} {l : Nat} {mark : List Deferred} {g : Nat} {fi ca : List Value}
    (h : (Instr.enterLoop fn t ps aqs bd r).run P w = .ok (l, mark) w') (hf : (mkF fn t (.code (.rangeFunc f ps aqs bd) :: k) d r).eval f = .func (.func g) ⟨fi⟩ ⟨ca⟩)
    (hfn : ∃ fn, P.funcs[g]? = some fn ∧ fn.name ≠ "runtime.NumGoroutine" ∧ fn.body.isSome = true) :
    step P (lone (mkF fn t (.code (.rangeFunc f ps aqs bd) :: k) d r) cs w) = .next (lone (Frame.enter P g ⟨fi ++ [.func (.yield l) #[] #[]] ++ ca⟩ .normal) (mkF fn t (.inRangeFunc l :: k) (mark ++ d) r :: cs) w') := by
  have hf' : (mkF fn t (.inRangeFunc l :: k) (mark ++ d) r).eval f = .func (.func g) ⟨fi⟩ ⟨ca⟩ := by rw [← hf]; cases f <;> rfl
  have he : (⟨fi⟩ ++ #[Value.func (.yield l) #[] #[]] ++ ⟨ca⟩ : Array Value) = ⟨fi ++ [.func (.yield l) #[] #[]] ++ ca⟩ := by apply Array.toList_inj.1; simp
  refine step_lone_go ?_
  simp only [stepG, stepG.exec, Sem.runT_eq, h, GStep.bare_after, stepG.apply, resolve, Sem.run_bind, Sem.run_pure, Result.andThen_ok, Deferred.ofValue, hf', invoke, ↓reduceIte]
  have h2 : (Array.map (mkF fn t (.inRangeFunc l :: k) (mark ++ d) r).eval #[Operand.const (Value.func (Fn.yield l) #[] #[])]) = #[.func (.yield l) #[] #[]] := by simp [Frame.eval]
  rw [h2, he, run_callFunc hfn]
  rfl

theorem comp_inv {c' : Code} {c : VC} (h : compC P c' = some c) :
    match c with
    | .skip => c' = .skip
    | .ret => c' = .ret
    | .exit id => c' = .exit id
    | .seq a b => ∃ x y, c' = .seq x y ∧ compC P x = some a ∧ compC P y = some b
    | .cond o a b => ∃ x y, c' = .cond o x y ∧ okO o = true ∧ compC P x = some a ∧ compC P y = some b
    | .block id b => ∃ x, c' = .block id x ∧ compC P x = some b
    | .loop b => ∃ x, c' = .loop x ∧ compC P x = some b
    | .reg l => ∃ id ops, c' = .region id ops false ∧ compOpers P ops ops.toList = some l
    | .stuck => True
    | .regD l0 ord post => ∃ id ops l, c' = .region id ops true ∧ compOpers P ops ops.toList = some l ∧ l0 = l.take (sufP 0 (ordOf ops.toList) 0) ∧ post = l.drop (sufP 0 (ordOf ops.toList) 0) ∧ ord = freePairs 0 ((ordOf ops.toList).take (sufP 0 (ordOf ops.toList) 0)) l0 ∧ ordersB ops = true ∧ okAll 0 (ordOf ops.toList) (l.map tmpFp) = true
    | .rangeF f ps a b => ∃ qs x y, c' = .rangeFunc f qs x y ∧ okO f = true ∧ qs.toList = ps ∧ compC P x = some a ∧ compC P y = some b := by
  cases c' with
  | skip => simp only [compC, Option.some.injEq] at h; subst h; rfl
  | ret => simp only [compC, Option.some.injEq] at h; subst h; rfl
  | exit id => simp only [compC, Option.some.injEq] at h; subst h; rfl
  | seq x y =>
    simp only [compC] at h
    split at h <;> try (cases h; done)
    rename_i a ha
    split at h <;> try (cases h; done)
    rename_i b hb
    cases h; exact ⟨_, _, rfl, ha, hb⟩
  | cond o x y =>
    simp only [compC] at h
    split at h <;> try (cases h; done)
    rename_i a ho ha
    split at h <;> try (cases h; done)
    rename_i b hb
    cases h; exact ⟨_, _, rfl, ho, ha, hb⟩
  | block id x =>
    simp only [compC] at h
    split at h <;> try (cases h; done)
    rename_i a ha
    cases h; exact ⟨_, rfl, ha⟩
  | loop x =>
    simp only [compC] at h
    split at h <;> try (cases h; done)
    rename_i a ha
    cases h; exact ⟨_, rfl, ha⟩
  | region id ops draw =>
    cases draw
    · simp only [compC] at h
      split at h <;> try (cases h; done)
      rename_i l hl
      cases h; exact ⟨_, _, rfl, hl⟩
    · simp only [compC] at h
      split at h <;> try (cases h; done)
      rename_i l hl
      split at h <;> try (cases h; done)
      rename_i hb
      cases h; exact ⟨_, _, _, rfl, hl, rfl, rfl, rfl, hb.1, hb.2⟩
  | rangeFunc f qs x y =>
    simp only [compC] at h
    split at h <;> try (cases h; done)
    rename_i a ho ha
    split at h <;> try (cases h; done)
    rename_i b hb
    cases h; exact ⟨_, _, _, rfl, ho, rfl, ha, hb⟩
  | refuse s => simp only [compC, Option.some.injEq] at h; subst h; trivial
  | _ => simp [compC] at h

theorem FrR.re {fr : VFrame} {rf : Frame} (h : FrR P ρ fr rf) (hret : fr.ret = false) {vt : List VItem} {rt : List Item} (ht : All2 (ItemR P ρ) vt rt) :
    FrR P ρ { fr with todo := vt } (mkF rf.fn rf.tmps rt rf.defers rf.roundOf) :=
  ⟨h.fn, h.size, h.env, ht, h.defers, by simp [hret], rfl, h.round⟩

theorem Goes.to {fr : VFrame} {up : List VFrame} {H : Hp} {top : Nat} {rf : Frame} {rfs : List Frame} {w : World} (h : VMR P w0 U ρ ⟨fr, up, H, top⟩ rf rfs w) (hret : fr.ret = false)
    {vt : List VItem} {rt : List Item} (cs : List Frame) (hstep : ∀ cs, step P (lone (mkF rf.fn rf.tmps rf.todo rf.defers rf.roundOf) cs w) = .next (lone (mkF rf.fn rf.tmps rt rf.defers rf.roundOf) cs w))
    (ht : All2 (ItemR P ρ) vt rt) : Goes P w0 U ρ cs ⟨{ fr with todo := vt }, up, H, top⟩ rf rfs w := by
  have h1 := hstep (rfs ++ cs)
  rw [← frame_eta h.cur hret] at h1
  exact Goes.one h1 ⟨h.cur.re hret ht, h.up, h.heap⟩

theorem round_cases {fr : VFrame} {rf : Frame} (h : FrR P ρ fr rf) : (fr.round = none → rf.roundOf = none) ∧ (∀ l, fr.round = some l → ∃ lo, ρ l = some lo ∧ rf.roundOf = some lo.blk ∧ lo.sh = 0) := by
  have := h.round
  constructor
  · intro e
    rw [e] at this
    cases hr : rf.roundOf with
    | none => rfl
    | some q => rw [hr] at this; exact this.elim
  · intro l e
    rw [e] at this
    cases hr : rf.roundOf with
    | none => rw [hr] at this; exact this.elim
    | some q => rw [hr] at this; obtain ⟨lo, a, rfl, b⟩ := this; exact ⟨lo, a, rfl, b⟩

theorem toRet {fr : VFrame} {up : List VFrame} {H : Hp} {top : Nat} {rf : Frame} {rfs : List Frame} {w : World} (h : VMR P w0 U ρ ⟨fr, up, H, top⟩ rf rfs w) (hret : fr.ret = false)
    (hrd : fr.round = none) (ht : rf.todo = [] ∨ ∃ k, rf.todo = .code .ret :: k) (cs : List Frame) : Goes P w0 U ρ cs ⟨{ fr with ret := true }, up, H, top⟩ rf rfs w := by
  have hro := (round_cases h.cur).1 hrd
  have hfr := frame_eta h.cur hret
  have hnew : FrR P ρ { fr with ret := true } (mkR rf.fn rf.tmps rf.todo rf.defers rf.roundOf) := ⟨h.cur.fn, h.cur.size, h.cur.env, h.cur.todo, h.cur.defers, rfl, rfl, h.cur.round⟩
  have hstep : step P (lone (mkF rf.fn rf.tmps rf.todo rf.defers rf.roundOf) (rfs ++ cs) w) = .next (lone (mkR rf.fn rf.tmps rf.todo rf.defers rf.roundOf) (rfs ++ cs) w) := by
    rcases ht with e | ⟨k, e⟩
    · rw [hro, e]; exact st_end
    · rw [hro, e]; exact st_ret
  rw [← hfr] at hstep
  exact Goes.one hstep ⟨hnew, h.up, h.heap⟩

theorem rangeF_outer (hF : FnsOK P F) {fr : VFrame} {up : List VFrame} {H : Hp} {top : Nat} {rf : Frame} {rfs : List Frame} {w : World} (h : VMR P w0 U ρ ⟨fr, up, H, top⟩ rf rfs w) (hret : fr.ret = false)
    {f : Operand} {qs : Array Nat} {x y : Code} {a b : VC} {rk : List Item} {k : List VItem} (hrt : rf.todo = .code (.rangeFunc f qs x y) :: rk) (h0 : okO f = true) (h1 : compC P x = some a) (h2 : compC P y = some b)
    {g : Nat} {first caps : List Value} (hfv : evalO fr.env f = some (.func (.func g) ⟨first⟩ ⟨caps⟩)) (hrd : fr.round = none) (hk : All2 (ItemR P ρ) k rk) {c : VFrame}
    (hc : enterF F g (first ++ [.func (.yield (top + 1)) #[] #[]] ++ caps) = some c) (cs : List Frame) :
    Goes P w0 U ρ cs ⟨c, { fr with todo := .inRangeFunc (top + 1) :: k, defers := top :: fr.defers } :: up,
              aput (aput H top .marks) (top + 1) (.loop ⟨.ready, none, fr.fn, fr.nt, fr.env, qs.toList, a, b, top⟩), top + 2⟩ rf rfs w := by
  have hcur := h.cur
  simp only at hcur
  have hfr := frame_eta hcur hret
  have hro := (round_cases hcur).1 hrd
  have he := eval_ok hcur.env h0 hfv (f := rf) rfl
  obtain ⟨fi, ca, hev, hfi, hca⟩ := he.funcInv
  have heap := h.heap
  simp only at heap
  -- the block of the deferred calls
  have n1 := heap.new (w' := w.alloc (.deferred (some []))) (l := ⟨w.heap.size, 0, 1⟩) (o := .marks) (heap.keep.alloc _) (fun k hk => Below.heap_alloc w _ k hk)
    ⟨World.alloc_heap_new _ _, rfl, rfl⟩ (.inl (Nat.le_refl _))
  have x1 : Ext ρ (upd ρ top ⟨w.heap.size, 0, 1⟩) := Ext.upd (heap.off0)
  generalize hρ1 : upd ρ top ⟨w.heap.size, 0, 1⟩ = ρ1 at n1 x1
  have ht1 : ρ1 top = some ⟨w.heap.size, 0, 1⟩ := by rw [← hρ1, upd_same]
  generalize hw1 : w.alloc (.deferred (some [])) = w1 at n1
  have hs1 : w1.heap.size = w.heap.size + 1 := by rw [← hw1]; exact World.size_alloc _ _
  have x2 : Ext ρ1 (upd ρ1 (top + 1) ⟨w1.heap.size, 0, 1⟩) := Ext.upd (n1.off0)
  have n2 := n1.new (w' := w1.alloc (.loop { state := .ready, pending := none, fn := rf.fn, tmps := rf.tmps, params := qs, assign := x, body := y, defers := w.heap.size })) (l := ⟨w1.heap.size, 0, 1⟩)
    (o := .loop ⟨.ready, none, fr.fn, fr.nt, fr.env, qs.toList, a, b, top⟩) (n1.keep.alloc _) (fun k hk => Below.heap_alloc w1 _ k hk)
    ⟨⟨_, World.alloc_heap_new _ _, ⟨rfl, hcur.fn, hcur.size, (hcur.env.mono x1).mono x2, rfl, h1, h2, ⟨_, x2 _ _ ht1, rfl⟩, trivial⟩⟩, rfl, rfl⟩ (.inl (Nat.le_refl _))
  generalize hρ2 : upd ρ1 (top + 1) ⟨w1.heap.size, 0, 1⟩ = ρ2 at n2 x2
  have ht2 : ρ2 (top + 1) = some ⟨w1.heap.size, 0, 1⟩ := by rw [← hρ2, upd_same]
  have x12 := x1.trans x2
  have hvv : VRL ρ2 (first ++ [.func (.yield (top + 1)) #[] #[]] ++ caps) (fi ++ [.func (.yield w1.heap.size) #[] #[]] ++ ca) :=
    ((hfi.mono x12).append (.cons (.yield ht2) .nil)).append (hca.mono x12)
  obtain ⟨e1, e2⟩ := enter_ok hF hc hvv
  have henter := run_enterLoop_outer (P := P) (w := w) rf.fn rf.tmps qs x y
  rw [hw1, ← hs1, ← hro] at henter
  have hstep := st_rangeF (k := rk) (d := rf.defers) (cs := rfs ++ cs) (f := f) (fi := fi) (ca := ca) henter (by rw [← hrt, ← hfr]; exact hev) e2
  rw [← hrt, ← hfr] at hstep
  refine ⟨ρ2, _, mkF rf.fn rf.tmps (.inRangeFunc w1.heap.size :: rk) ([{ target := .collected w.heap.size, args := #[] }] ++ rf.defers) rf.roundOf :: rfs, _, .one (by simpa [hs1] using hstep), ⟨e1, .cons ?_ (h.up.mono fun _ _ k => k.mono x12), n2⟩, x12⟩
  exact ⟨hcur.fn, hcur.size, hcur.env.mono x12, .cons (.inRangeFunc ht2) (hk.mono (ItemR.mono x12)), .cons ⟨_, x2 _ _ ht1, rfl⟩ (hcur.defers.mono fun _ _ ⟨l, a, b⟩ => ⟨l, x12 _ _ a, b⟩), by simp [hret], rfl, hcur.round.mono x12⟩

theorem rangeF_inner (hF : FnsOK P F) {fr : VFrame} {up : List VFrame} {H : Hp} {top : Nat} {rf : Frame} {rfs : List Frame} {w : World} (h : VMR P w0 U ρ ⟨fr, up, H, top⟩ rf rfs w) (hret : fr.ret = false)
    {f : Operand} {qs : Array Nat} {x y : Code} {a b : VC} {rk : List Item} {k : List VItem} (hrt : rf.todo = .code (.rangeFunc f qs x y) :: rk) (h0 : okO f = true) (h1 : compC P x = some a) (h2 : compC P y = some b)
    {g l0 : Nat} {first caps : List Value} (hfv : evalO fr.env f = some (.func (.func g) ⟨first⟩ ⟨caps⟩)) (hrd : fr.round = some l0) {r0 : VLoop} (hr0 : aget H l0 = some (.loop r0)) (hk : All2 (ItemR P ρ) k rk) {c : VFrame}
    (hc : enterF F g (first ++ [.func (.yield top) #[] #[]] ++ caps) = some c) (cs : List Frame) :
    Goes P w0 U ρ cs ⟨c, { fr with todo := .inRangeFunc top :: k } :: up,
              aput H top (.loop ⟨.ready, none, fr.fn, fr.nt, fr.env, qs.toList, a, b, r0.defers⟩), top + 1⟩ rf rfs w := by
  have hcur := h.cur
  simp only at hcur
  have hfr := frame_eta hcur hret
  obtain ⟨lo, hlo, hro, _⟩ := (round_cases hcur).2 _ hrd
  have he := eval_ok hcur.env h0 hfv (f := rf) rfl
  obtain ⟨fi, ca, hev, hfi, hca⟩ := he.funcInv
  have heap := h.heap
  simp only at heap
  obtain ⟨lo', hl', ⟨⟨r', hw, hlr⟩, hsh, hext⟩, _⟩ := heap.obj l0 _ hr0
  rw [hlo] at hl'; cases hl'
  obtain ⟨ld, hld, hdd⟩ := hlr.defers
  have x2 : Ext ρ (upd ρ top ⟨w.heap.size, 0, 1⟩) := Ext.upd (heap.off0)
  have n2 := heap.new (w' := w.alloc (.loop { state := .ready, pending := none, fn := rf.fn, tmps := rf.tmps, params := qs, assign := x, body := y, defers := r'.defers })) (l := ⟨w.heap.size, 0, 1⟩)
    (o := .loop ⟨.ready, none, fr.fn, fr.nt, fr.env, qs.toList, a, b, r0.defers⟩) (heap.keep.alloc _) (fun k hk => Below.heap_alloc w _ k hk)
    ⟨⟨_, World.alloc_heap_new _ _, ⟨rfl, hcur.fn, hcur.size, hcur.env.mono x2, rfl, h1, h2, ⟨_, x2 _ _ hld, hdd⟩, trivial⟩⟩, rfl, rfl⟩ (.inl (Nat.le_refl _))
  generalize hρ2 : upd ρ top ⟨w.heap.size, 0, 1⟩ = ρ2 at n2 x2
  have ht2 : ρ2 top = some ⟨w.heap.size, 0, 1⟩ := by rw [← hρ2, upd_same]
  have hvv : VRL ρ2 (first ++ [.func (.yield top) #[] #[]] ++ caps) (fi ++ [.func (.yield w.heap.size) #[] #[]] ++ ca) :=
    ((hfi.mono x2).append (.cons (.yield ht2) .nil)).append (hca.mono x2)
  obtain ⟨e1, e2⟩ := enter_ok hF hc hvv
  have henter : (Instr.enterLoop rf.fn rf.tmps qs x y (some lo.blk)).run P w = .ok (w.heap.size, []) (w.alloc (.loop { state := .ready, pending := none, fn := rf.fn, tmps := rf.tmps, params := qs, assign := x, body := y, defers := r'.defers })) := by
    unfold Instr.enterLoop
    simp only [Sem.run_bind, run_getLoop hw, run_newObj_alloc, Result.andThen_ok, Sem.run_pure]
  rw [← hro] at henter
  have hstep := st_rangeF (k := rk) (d := rf.defers) (cs := rfs ++ cs) (f := f) (fi := fi) (ca := ca) henter (by rw [← hrt, ← hfr]; exact hev) e2
  rw [← hrt, ← hfr] at hstep
  refine ⟨ρ2, _, mkF rf.fn rf.tmps (.inRangeFunc w.heap.size :: rk) ([] ++ rf.defers) rf.roundOf :: rfs, _, .one hstep, ⟨e1, .cons ?_ (h.up.mono fun _ _ k => k.mono x2), n2⟩, x2⟩
  exact ⟨hcur.fn, hcur.size, hcur.env.mono x2, .cons (.inRangeFunc ht2) (hk.mono (ItemR.mono x2)), (hcur.defers.mono fun _ _ ⟨l, a, b⟩ => ⟨l, x2 _ _ a, b⟩), by simp [hret], rfl, hcur.round.mono x2⟩

theorem stepSound (hF : FnsOK P F) (hS : SumsOK P S) {vm vm' : VM} {rf : Frame} {rfs : List Frame} {w : World} (h : VMR P w0 U ρ vm rf rfs w) (hs : vstep F S vm = some vm') (cs : List Frame) :
    Goes P w0 U ρ cs vm' rf rfs w := by
  obtain ⟨⟨vfn, nt, env, todo, defers, ret, round⟩, up, H, top⟩ := vm
  have hcur := h.cur
  simp only at hcur
  cases ret with
  | true =>
    have hfr := frame_etaR hcur rfl
    cases defers with
    | cons r ds =>
      simp only [vstep] at hs
      split at hs <;> try (cases hs; done)
      rename_i hm
      cases hs
      have hds : All2 (DefR ρ) (r :: ds) rf.defers := hcur.defers
      cases hrd : rf.defers with
      | nil => rw [hrd] at hds; cases hds
      | cons d rds =>
        rw [hrd] at hds
        cases hds with | cons hdr htl =>
        obtain ⟨l, hl, rfl⟩ := hdr
        obtain ⟨l', hl', hob, _⟩ := h.heap.obj r _ hm
        rw [hl] at hl'; cases hl'
        obtain ⟨hw, hsh, hext⟩ := hob
        refine Goes.one (rfs' := rfs) (step_collected (by rw [hcur.mode]; simp) hrd rfl (run_takeDeferred hw)) ⟨?_, h.up, h.heap.wipe hm hl rfl ⟨hsh, hext⟩ hw (by simp)⟩
        exact { hcur with defers := by simpa using htl }
    | nil =>
      simp only [vstep] at hs
      split at hs <;> try (cases hs; done)
      rename_i f u us hf
      split at hs <;> try (cases hs; done)
      rename_i vs hvs
      split at hs <;> try (cases hs; done)
      rename_i u' hu
      cases hs
      obtain ⟨_, hup, hheap⟩ := h
      simp only at hup
      cases hup with | @cons _ c _ cs' hc hcs =>
      obtain ⟨fn, hfn, hcf⟩ := hF _ _ hf
      unfold compFn at hcf
      split at hcf <;> try (cases hcf; done)
      split at hcf <;> try (cases hcf; done)
      split at hcf <;> try (cases hcf; done)
      split at hcf <;> try (cases hcf; done)
      rename_i rs hrs
      cases hcf
      obtain ⟨v', hv, hrun⟩ := results_run hcur.env hheap hrs hvs
      have hdn : rf.defers = [] := by
        have : All2 (DefR ρ) [] rf.defers := hcur.defers
        cases hx : rf.defers with
        | nil => rfl
        | cons => rw [hx] at this; cases this
      have hfe : rf.fn = vfn := hcur.fn
      rw [← hfe] at hfn
      have hstep := st_leave (cs := cs' ++ cs) (c := c) (k := rf.todo) (r := rf.roundOf) hfn hrun
      rw [← hdn, ← hfr] at hstep
      exact Goes.one hstep ⟨finish_ok hc hv hu, hcs, hheap⟩
  | false =>
    have hfr := frame_eta hcur rfl
    have htodo := hcur.todo
    simp only at htodo
    cases todo with
    | nil =>
      have hrt : rf.todo = [] := by
        cases hx : rf.todo with
        | nil => rfl
        | cons => rw [hx] at htodo; cases htodo
      cases round with
      | none => simp only [vstep] at hs; cases hs; exact toRet h rfl rfl (.inl hrt) cs
      | some l => simp only [vstep] at hs; exact leaveRound_ok h rfl rfl (jump := none) trivial (.inl ⟨hrt, rfl⟩) hs cs
    | cons it k =>
      cases hrt : rf.todo with
      | nil => rw [hrt] at htodo; cases htodo
      | cons rit rk =>
      rw [hrt] at htodo
      cases htodo with | cons hi hk =>
      cases it with
      | inBlock id =>
        simp only [vstep] at hs; cases hs
        cases hi
        exact Goes.to h rfl cs (fun cs => by rw [hrt]; exact st_inBlock) hk
      | inLoop b =>
        simp only [vstep] at hs; cases hs
        cases hi with | inLoop hb =>
        exact Goes.to h rfl cs (fun cs => by rw [hrt]; exact st_inLoop) (.cons (.code hb) (.cons (.inLoop hb) hk))
      | inReg ops =>
        cases ops with
        | nil =>
          simp only [vstep] at hs; cases hs
          cases hi with | inReg hr =>
          cases hr
          exact Goes.to h rfl cs (fun cs => by rw [hrt]; exact st_regEnd) hk
        | cons o rest =>
          simp only [vstep] at hs
          split at hs <;> try (cases hs; done)
          · rename_i hwn
            cases hs
            have ⟨ops, i, is, k', oo, e1, e2, e3⟩ := todo_reg hcur rfl
            have hw := wanted_ok hcur.env e3 hwn
            have hstep := st_opSkip (P := P) (fn := rf.fn) (t := rf.tmps) (k := k') (d := rf.defers) (r := rf.roundOf) (cs := rfs ++ cs) (w := w) (ops := ops) (i := i) (rest := is) (by simp [e2, hw])
            rw [← e1, ← hfr] at hstep
            exact Goes.one hstep ⟨fin_reg hcur rfl undef_ok, h.up, h.heap⟩
          · rename_i hwn
            exact stepOp_ok hF hS h rfl rfl hwn hs cs
      | inRangeFunc l => simp only [vstep] at hs; cases hs
      | endRangeFunc l =>
        simp only [vstep] at hs
        split at hs <;> try (cases hs; done)
        rename_i r hr
        cases hi with | @endRangeFunc _ lo hl =>
        obtain ⟨lo', hl', ⟨⟨r', hw, hlr⟩, hsh, hext⟩, _⟩ := h.heap.obj l _ hr
        rw [hl] at hl'; cases hl'
        have hpend : All2 (ItemR P ρ) ((match r.pending with | some c => [.code c] | none => []) ++ k) ((r'.pending.map Item.code).toList ++ rk) := by
          have hp := hlr.pending
          cases h1 : r.pending with
          | none =>
            cases h2 : r'.pending with
            | none => simpa using hk
            | some c => rw [h1, h2] at hp; exact hp.elim
          | some c =>
            cases h2 : r'.pending with
            | none => rw [h1, h2] at hp; exact hp.elim
            | some c' => rw [h1, h2] at hp; simpa using .cons (.code hp) hk
        have hheap := h.heap.setObj (r' := .loop { r' with state := .exhausted }) (ob' := .loop { r with state := .exhausted }) hr hl rfl ⟨hsh, hext⟩ hw (by simp) (by simp)
          ⟨⟨_, heap_setObj_same _ _ _ _ hw, { hlr with state := rfl, pending := hlr.pending }⟩, hsh, hext⟩
        have hst : r'.state ≠ .busy → step P (lone rf (rfs ++ cs) w) = .next (lone (mkF rf.fn rf.tmps ((r'.pending.map Item.code).toList ++ rk) rf.defers rf.roundOf) (rfs ++ cs) (w.putObj lo.blk (.loop { r' with state := .exhausted }))) := fun hb => by
          have := st_endRF (fn := rf.fn) (t := rf.tmps) (k := rk) (d := rf.defers) (r := rf.roundOf) (cs := rfs ++ cs) (run_endLoop (P := P) hw hb)
          rw [← hrt, ← hfr] at this; exact this
        split at hs
        · cases hs
        · rename_i hnb
          cases hs
          exact Goes.one (hst (by rw [hlr.state]; exact hnb)) ⟨hcur.re rfl hpend, h.up, hheap⟩
      | beginRound =>
        cases round with
        | none => simp only [vstep] at hs; cases hs
        | some l =>
          simp only [vstep] at hs
          split at hs <;> try (cases hs; done)
          rename_i r hr
          split at hs <;> try (cases hs; done)
          rename_i hready
          cases hs
          obtain ⟨lo, hl, hro, _⟩ := (round_cases hcur).2 l rfl
          obtain ⟨lo', hl', ⟨⟨r', hw, hlr⟩, hsh, hext⟩, _⟩ := h.heap.obj l _ hr
          rw [hl] at hl'; cases hl'
          cases hi
          have hheap := h.heap.setObj (r' := .loop { r' with state := .busy }) (ob' := .loop { r with state := .busy }) hr hl rfl ⟨hsh, hext⟩ hw (by simp) (by simp)
            ⟨⟨_, heap_setObj_same _ _ _ _ hw, { hlr with state := rfl, pending := hlr.pending }⟩, hsh, hext⟩
          have hst := st_begin (fn := rf.fn) (t := rf.tmps) (k := rk) (d := rf.defers) (cs := rfs ++ cs) (run_beginRound (P := P) hw (by rw [hlr.state]; exact hready))
          rw [← hrt, ← hro, ← hfr] at hst
          exact Goes.one hst ⟨hcur.re rfl hk, h.up, hheap⟩
      | code c =>
        cases hi with | @code _ c' hc =>
        have hinv := comp_inv hc
        cases c with
        | skip =>
          simp only [vstep] at hs; cases hs
          obtain rfl : c' = .skip := hinv
          exact Goes.to h rfl cs (fun cs => by rw [hrt]; exact st_skip) hk
        | ret =>
          obtain rfl : c' = .ret := hinv
          cases round with
          | none => simp only [vstep] at hs; cases hs; exact toRet h rfl rfl (.inr ⟨_, hrt⟩) cs
          | some l => simp only [vstep] at hs; exact leaveRound_ok h rfl rfl (jump := some .ret) hc (.inr (.inl ⟨_, hrt, rfl⟩)) hs cs
        | seq a b =>
          simp only [vstep] at hs; cases hs
          obtain ⟨x, y, rfl, h1, h2⟩ := hinv
          exact Goes.to h rfl cs (fun cs => by rw [hrt]; exact st_seq) (.cons (.code h1) (.cons (.code h2) hk))
        | cond o a b =>
          simp only [vstep] at hs
          obtain ⟨x, y, rfl, h0, h1, h2⟩ := hinv
          split at hs <;> try (cases hs; done)
          rename_i v hv
          cases hs
          have he := eval_ok hcur.env h0 hv (f := mkF rf.fn rf.tmps rf.todo rf.defers rf.roundOf) rfl
          have he' : (mkF rf.fn rf.tmps rf.todo rf.defers rf.roundOf).eval o = .bool v := he.boolInv
          refine Goes.to h rfl cs (fun cs => by rw [hrt]; rw [hrt] at he'; exact st_cond he') (.cons (.code ?_) hk)
          cases v <;> assumption
        | block id b =>
          simp only [vstep] at hs; cases hs
          obtain ⟨x, rfl, h1⟩ := hinv
          exact Goes.to h rfl cs (fun cs => by rw [hrt]; exact st_block) (.cons (.code h1) (.cons (.inBlock id) hk))
        | loop b =>
          simp only [vstep] at hs; cases hs
          obtain ⟨x, rfl, h1⟩ := hinv
          exact Goes.to h rfl cs (fun cs => by rw [hrt]; exact st_loop) (.cons (.code h1) (.cons (.inLoop h1) hk))
        | exit id =>
          simp only [vstep] at hs
          obtain rfl : c' = .exit id := hinv
          obtain ⟨hex1, hex2⟩ := exitTo_ok (id := id) hk
          cases hk' : exitTo id k with
          | some k' =>
            simp only [hk'] at hs
            cases hs
            obtain ⟨rk', he, hrk'⟩ := hex1 _ hk'
            exact Goes.to h rfl cs (fun cs => by rw [hrt]; exact st_exit he) hrk'
          | none =>
            simp only [hk'] at hs
            cases round with
            | none => cases hs
            | some l => simp only at hs; exact leaveRound_ok h rfl rfl (jump := some (.exit id)) hc (.inr (.inr ⟨_, _, hrt, hex2 hk', rfl⟩)) hs cs
        | reg ops =>
          simp only [vstep] at hs; cases hs
          obtain ⟨id, ops, rfl, h1⟩ := hinv
          exact Goes.to h rfl cs (fun cs => by rw [hrt]; exact st_reg) (.cons (.inReg (regR_all h1)) hk)
        | stuck => simp only [vstep] at hs; cases hs
        | regD ops ord post =>
          simp only [vstep] at hs
          obtain ⟨id, rops, l, rfl, h1, rfl, rfl, h2, h3, h4⟩ := hinv
          split at hs <;> try (cases hs; done)
          rename_i hrun
          split at hs <;> try (cases hs; done)
          rename_i hok
          cases hs
          exact draw_go hS h rfl rfl hrt hk h1 h3 h4 h2 hrun hok cs
        | rangeF f ps a b =>
          simp only [vstep] at hs
          obtain ⟨qs, x, y, rfl, h0, rfl, h1, h2⟩ := hinv
          split at hs <;> try (cases hs; done)
          · rename_i g first caps hfv
            split at hs <;> try (cases hs; done)
            rename_i c hc
            cases hs
            exact rangeF_outer hF h rfl hrt h0 h1 h2 hfv rfl hk hc cs
          · rename_i g first caps l0 hfv
            split at hs <;> try (cases hs; done)
            rename_i r0 hr0
            split at hs <;> try (cases hs; done)
            rename_i c hc
            cases hs
            exact rangeF_inner hF h rfl hrt h0 h1 h2 hfv rfl hr0 hk hc cs

end
end Go.Vm
