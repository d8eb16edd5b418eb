/- The engine, part 16: one step. -/
import Derived.Test.YtdnhoocoofnibaaVmStep
namespace Go.Vm
open Go Go.RowKit

section
variable {P : Program} {w0 : World} {U : Nat → Nat → Prop} {ρ : Ren} {F : Fns} {S : Sums}

def Goes (P : Program) (w0 : World) (U : Nat → Nat → Prop) (ρ : Ren) (cs : List Frame) (vm' : VM) (rf : Frame) (rfs : List Frame) (w : World) : Prop :=
  ∃ ρ' rf' rfs' w', Steps P (lone rf (rfs ++ cs) w) (lone rf' (rfs' ++ cs) w') ∧ VMR P w0 U ρ' vm' rf' rfs' w' ∧ Ext ρ ρ'

theorem Goes.one {cs : List Frame} {vm' : VM} {rf rf' : Frame} {rfs rfs' : List Frame} {w w' : World} (h : step P (lone rf (rfs ++ cs) w) = .next (lone rf' (rfs' ++ cs) w'))
    (hr : VMR P w0 U ρ vm' rf' rfs' w') : Goes P w0 U ρ cs vm' rf rfs w := ⟨ρ, rf', rfs', w', .one h, hr, Ext.refl ρ⟩

theorem Goes.trans {cs : List Frame} {vm vm' : VM} {rf : Frame} {rfs : List Frame} {w : World} (h : Goes P w0 U ρ cs vm rf rfs w)
    (k : ∀ ρ' rf' rfs' w', VMR P w0 U ρ' vm rf' rfs' w' → Goes P w0 U ρ' cs vm' rf' rfs' w') : Goes P w0 U ρ cs vm' rf rfs w := by
  obtain ⟨ρ1, rf1, rfs1, w1, s1, r1, e1⟩ := h
  obtain ⟨ρ2, rf2, rfs2, w2, s2, r2, e2⟩ := k _ _ _ _ r1
  exact ⟨ρ2, rf2, rfs2, w2, s1.trans s2, r2, e1.trans e2⟩

theorem frame_eta {f : Frame} {v : VFrame} (h : FrR P ρ v f) (hr : v.ret = false) : f = mkF f.fn f.tmps f.todo f.defers f.roundOf := by
  obtain ⟨_, _, _, _, _, hm, hk, _⟩ := h
  cases f
  simp only at hm hk
  subst hm hk
  simp [hr]
theorem frame_etaR {f : Frame} {v : VFrame} (h : FrR P ρ v f) (hr : v.ret = true) : f = mkR f.fn f.tmps f.todo f.defers f.roundOf := by
  obtain ⟨_, _, _, _, _, hm, hk, _⟩ := h
  cases f
  simp only at hm hk
  subst hm hk
  simp [hr]

/-- a frame in the midst of a region, its operation done with a value -/
theorem fin_reg {fr : VFrame} {rf : Frame} (h : FrR P ρ fr rf) {o : VOper} {rest : List VOper} {k : List VItem} (ht : fr.todo = .inReg (o :: rest) :: k) {v v' : Value} (hv : VR ρ v v') :
    FrR P ρ { fr with env := putD fr.nt fr.env o.dst v, todo := .inReg rest :: k } (rf.finish v') :=
  finish_ok (u := fr) h hv (by simp [finish, ht])

theorem undef_ok : VR ρ undefV undef := .tuple .nil

theorem todo_reg {fr : VFrame} {rf : Frame} (h : FrR P ρ fr rf) {o : VOper} {rest : List VOper} {k : List VItem} (ht : fr.todo = .inReg (o :: rest) :: k) :
    ∃ ops i is k' oo, rf.todo = .inRegion ops (i :: is) :: k' ∧ ops[i]? = some oo ∧ compOper P ops oo = some o := by
  have h4 := h.todo
  rw [ht] at h4
  cases hft : rf.todo with
  | nil => rw [hft] at h4; cases h4
  | cons it k' =>
    rw [hft] at h4
    cases h4 with | cons hi hk =>
    cases hi with | inReg hr =>
    cases hr with | cons ho hc htl => exact ⟨_, _, _, _, _, rfl, ho, hc⟩

/-- what is known of an operation about to be carried out -/
structure AtOp (P : Program) (ρ : Ren) (fr : VFrame) (rf : Frame) (o : VOper) (fn : FuncId) (t : Array Value) (k' : List Item) (d : List Deferred) (r : Option Nat) (ops : Array Oper) (i : Nat) (is : List Nat) (oo : Oper) : Prop where
  frame : rf = mkF fn t (.inRegion ops (i :: is) :: k') d r
  op : ops[i]? = some oo
  comp : compAny P oo.op = some o.op
  wanted : Region.wanted oo (yielded ops t) = true
  args : o.op.ops.all okO = true

theorem atOp {fr : VFrame} {rf : Frame} (h : FrR P ρ fr rf) (hret : fr.ret = false) {o : VOper} {rest : List VOper} {k : List VItem} (ht : fr.todo = .inReg (o :: rest) :: k) (hw : wantedV fr.env o.g = some true) :
    ∃ fn t k' d r ops i is oo, AtOp P ρ fr rf o fn t k' d r ops i is oo := by
  obtain ⟨ops, i, is, k', oo, e1, e2, e3⟩ := todo_reg h ht
  obtain ⟨_, hok, hop⟩ := compOper_dst e3
  refine ⟨rf.fn, rf.tmps, k', rf.defers, rf.roundOf, ops, i, is, oo, ?_, e2, hop, wanted_ok h.env e3 hw, hok⟩
  rw [← e1]; exact frame_eta h hret

theorem eval_map {fr : VFrame} {rf : Frame} (h : FrR P ρ fr rf) {xs : List Operand} (hx : xs.all okO = true) {vs : List Value} (hv : evalL fr.env xs = some vs) : VRL ρ vs (xs.map rf.eval) :=
  evalL_ok h.env rfl hx hv

theorem callF_run {o : Oper} {a : Operand → Value} {f : Nat} {ys : Array Operand} {ts : Array TypeId} (hop : o.op = .call ⟨.value (.func f), ys, ts⟩) (ha : a (.func f) = .func (.func f) #[] #[]) {w : World}
    (h : ∃ fn, P.funcs[f]? = some fn ∧ fn.name ≠ "runtime.NumGoroutine" ∧ fn.body.isSome = true) : (execOp a o).run P w = .ok (.enter f ⟨ys.toList.map a⟩) w := by
  have : (⟨ys.toList.map a⟩ : Array Value) = ys.map a := by rw [← Array.toList_map]
  simp only [execOp, hop, resolve, ha, Deferred.ofValue, Sem.run_bind, Sem.run_pure, Result.andThen_ok, invoke, Array.append_empty, Array.empty_append, run_callFunc h, this]

theorem callV_run {o : Oper} {a : Operand → Value} {f : Nat} {t : Nat} {ys : Array Operand} {ts : Array TypeId} {fi ca : List Value} (hop : o.op = .call ⟨.value (.tmp t), ys, ts⟩) (ha : a (.tmp t) = .func (.func f) ⟨fi⟩ ⟨ca⟩) {w : World}
    (h : ∃ fn, P.funcs[f]? = some fn ∧ fn.name ≠ "runtime.NumGoroutine" ∧ fn.body.isSome = true) : (execOp a o).run P w = .ok (.enter f ⟨fi ++ ys.toList.map a ++ ca⟩) w := by
  have : (⟨fi ++ ys.toList.map a ++ ca⟩ : Array Value) = ⟨fi⟩ ++ ys.map a ++ ⟨ca⟩ := by apply Array.toList_inj.1; simp
  simp only [execOp, hop, resolve, ha, Deferred.ofValue, Sem.run_bind, Sem.run_pure, Result.andThen_ok, invoke, run_callFunc h, this]

/-- a call by a summary -/
theorem sum_go (hS : SumsOK P S) {f : Nat} {s : Summ} (hf : S f = some s) {fr : VFrame} {up : List VFrame} {H H' : Hp} {top top' : Nat} {rf : Frame} {rfs : List Frame} {w : World}
    (h : VMR P w0 U ρ ⟨fr, up, H, top⟩ rf rfs w) {o : VOper} {rest : List VOper} {k : List VItem} (ht : fr.todo = .inReg (o :: rest) :: k) {vals rvals : List Value} (hv : VRL ρ vals rvals) {v : Value}
    (hs : sumRun s vals H top = some (v, H', top')) {cs : List Frame} (hstep : step P (lone rf (rfs ++ cs) w) = .next (lone (Frame.enter P f ⟨rvals⟩ .normal) (rf :: rfs ++ cs) w)) :
    Goes P w0 U ρ cs ⟨{ fr with env := putD fr.nt fr.env o.dst v, todo := .inReg rest :: k }, up, H', top'⟩ rf rfs w := by
  obtain ⟨e, w', f', ⟨ρ', rv, rfl, hrv, hh, hx⟩, hcomes, -, hleave⟩ := (hS f s hf).calls w0 (.of U) ρ H top w vals rvals v H' top' (Nat.zero_le _) (fun _ _ _ h => h) h.heap hv hs (rf :: rfs ++ cs)
  refine ⟨ρ', rf.finish rv, rfs, w', .trans (.head hstep hcomes) (.one (step_leave_returned hleave)), ⟨fin_reg (h.cur.mono hx) ht hrv, h.up.mono fun _ _ k => k.mono hx, hh⟩, hx⟩

/-- a call that is walked -/
theorem enter_go (hF : FnsOK P F) {f : Nat} {fr c : VFrame} {up : List VFrame} {H : Hp} {top : Nat} {rf : Frame} {rfs : List Frame} {w : World}
    (h : VMR P w0 U ρ ⟨fr, up, H, top⟩ rf rfs w) {o : VOper} {rest : List VOper} {k : List VItem} (ht : fr.todo = .inReg (o :: rest) :: k) {vals rvals : List Value} (hv : VRL ρ vals rvals)
    (hc : enterF F f vals = some c) {cs : List Frame} (hstep : step P (lone rf (rfs ++ cs) w) = .next (lone (Frame.enter P f ⟨rvals⟩ .normal) (rf :: rfs ++ cs) w)) :
    Goes P w0 U ρ cs ⟨c, { fr with todo := .inReg (o :: rest) :: k } :: up, H, top⟩ rf rfs w := by
  have : ({ fr with todo := .inReg (o :: rest) :: k } : VFrame) = fr := by cases fr; simp only at ht; subst ht; rfl
  rw [this]
  exact Goes.one hstep ⟨(enter_ok hF hc hv).1, .cons h.cur h.up, h.heap⟩

theorem VR.funcInv {f : Nat} {a b : List Value} {v' : Value} (h : VR ρ (.func (.func f) ⟨a⟩ ⟨b⟩) v') : ∃ fi ca, v' = .func (.func f) ⟨fi⟩ ⟨ca⟩ ∧ VRL ρ a fi ∧ VRL ρ b ca := by
  cases h with
  | func _ h1 h2 => exact ⟨_, _, rfl, h1, h2⟩
theorem VR.boolInv {b : Bool} {v' : Value} (h : VR ρ (.bool b) v') : v' = .bool b := by cases h; rfl
theorem VR.yieldInv {l : Nat} {v' : Value} (h : VR ρ (.func (.yield l) ⟨[]⟩ ⟨[]⟩) v') : ∃ lo, v' = .func (.yield lo.blk) ⟨[]⟩ ⟨[]⟩ ∧ ρ l = some lo := by
  cases h with
  | yield h => exact ⟨_, rfl, h⟩

theorem putParams_ok : ∀ {ps : List Nat} {args rargs : List Value} {n : Nat} {e : Env} {tmps : Array Value}, EnvR ρ e tmps → tmps.size = n → VRL ρ args rargs → args.length = ps.length →
    EnvR ρ (putParams n e ps args) ((ps.zip rargs).foldl (fun tmps (t, a) => tmps.setIfInBounds t a) tmps) ∧ ((ps.zip rargs).foldl (fun tmps (t, a) => tmps.setIfInBounds t a) tmps).size = n
  | [], [], _, _, _, _, he, hs, .nil, _ => ⟨he, hs⟩
  | p :: ps, v :: vs, _, n, e, tmps, he, hs, .cons h hl, hlen => by
    simp only [putParams, List.zip_cons_cons, List.foldl_cons]
    exact putParams_ok (env_put (d := some p) he hs h) (by simpa using hs) hl (by simpa using hlen)
  | [], v :: vs, _, _, _, _, _, _, .cons _ _, hlen => by simp at hlen

/-- a round of a range over a function -/
theorem yield_go {l : Nat} {lo : Loc} {fr c : VFrame} {up : List VFrame} {H : Hp} {top : Nat} {rf : Frame} {rfs : List Frame} {w : World}
    (h : VMR P w0 U ρ ⟨fr, up, H, top⟩ rf rfs w) {o : VOper} {rest : List VOper} {k : List VItem} (ht : fr.todo = .inReg (o :: rest) :: k) (hl : ρ l = some lo) {args rargs : List Value} (hv : VRL ρ args rargs)
    (hc : callRound l args H = some c) {cs : List Frame} (hstep : ∀ f tm aqs bd, (Instr.yield lo.blk ⟨rargs⟩).run P w = .ok (.round lo.blk f tm aqs bd) w → step P (lone rf (rfs ++ cs) w) = .next (lone (mkF f tm [.code aqs, .beginRound, .code bd] [] (some lo.blk)) (rf :: rfs ++ cs) w)) :
    Goes P w0 U ρ cs ⟨c, { fr with todo := .inReg (o :: rest) :: k } :: up, H, top⟩ rf rfs w := by
  have : ({ fr with todo := .inReg (o :: rest) :: k } : VFrame) = fr := by cases fr; simp only at ht; subst ht; rfl
  rw [this]
  unfold callRound at hc
  split at hc <;> try (cases hc; done)
  rename_i r hr
  split at hc <;> try (cases hc; done)
  rename_i hlen
  cases hc
  obtain ⟨l', hl', ⟨⟨r', hw, hlr⟩, hsh, hext⟩, _⟩ := h.heap.obj l _ hr
  rw [hl] at hl'; cases hl'
  have hps : rargs.length = r'.params.toList.length := by rw [← hv.length, hlen, hlr.params]
  obtain ⟨g1, g2⟩ := putParams_ok (ps := r.params) hlr.env hlr.size hv hlen
  refine Goes.one (hstep _ _ _ _ (run_yield hw (by simpa using hps))) ⟨⟨hlr.fn, ?_, ?_, .cons (.code hlr.asg) (.cons .beginRound (.cons (.code hlr.body) .nil)), .nil, rfl, rfl, ⟨lo, hl, rfl, hsh⟩⟩, .cons h.cur h.up, h.heap⟩
  · rw [← Array.foldl_toList, Array.toList_zip, hlr.params]; exact g2
  · rw [← Array.foldl_toList, Array.toList_zip, hlr.params]; exact g1

theorem stepOp_ok (hF : FnsOK P F) (hS : SumsOK P S) {fr : VFrame} {up : List VFrame} {H : Hp} {top : Nat} {rf : Frame} {rfs : List Frame} {w : World} {vm' : VM}
    (h : VMR P w0 U ρ ⟨fr, up, H, top⟩ rf rfs w) (hret : fr.ret = false) {o : VOper} {rest : List VOper} {k : List VItem} (ht : fr.todo = .inReg (o :: rest) :: k)
    (hw : wantedV fr.env o.g = some true) (hs : stepOp F S o rest k fr up H top = some vm') (cs : List Frame) : Goes P w0 U ρ cs vm' rf rfs w := by
  obtain ⟨fn, t, k', d, r, ops, i, is, oo, A⟩ := atOp h.cur hret ht hw
  obtain ⟨hcF, hcV, hcO, hnd⟩ := compAny_call A.comp
  unfold stepOp at hs
  split at hs <;> try (cases hs; done)
  rename_i vals hvals
  have hvl := eval_map h.cur A.args hvals
  split at hs
  · rename_i f xs hop
    obtain ⟨ys, ts, hoo, hxs⟩ := hcF f xs hop
    rw [hop] at hvl
    simp only [VOp.ops] at hvl
    have hrun : ∀ hfn, (execOp (mkF fn t (.inRegion ops (i :: is) :: k') d r).eval oo).run P w = .ok (.enter f ⟨xs.map rf.eval⟩) w := fun hfn => by
      rw [A.frame, hxs]; exact callF_run hoo rfl hfn
    have hstep : (∃ fn, P.funcs[f]? = some fn ∧ fn.name ≠ "runtime.NumGoroutine" ∧ fn.body.isSome = true) → step P (lone rf (rfs ++ cs) w) = .next (lone (Frame.enter P f ⟨xs.map rf.eval⟩ .normal) (rf :: rfs ++ cs) w) := fun hfn => by
      have := st_enter (cs := rfs ++ cs) A.op A.wanted hnd (hrun hfn)
      rw [← A.frame] at this; exact this
    split at hs
    · rename_i s hsf
      split at hs <;> try (cases hs; done)
      rename_i v H' top' hsr
      cases hs
      exact sum_go hS hsf h ht hvl hsr (hstep (hS f s hsf).fn)
    · split at hs <;> try (cases hs; done)
      rename_i c hc
      cases hs
      exact enter_go hF h ht hvl hc (hstep (enter_ok hF hc hvl).2)
  · rename_i x xs hop
    obtain ⟨tt, ys, ts, rfl, hoo, hxs⟩ := hcV x xs hop
    rw [hop] at hvl
    simp only [VOp.ops, List.map_cons] at hvl
    split at hs
    · rename_i f first caps args
      obtain ⟨v', l', hl, hf', hargs⟩ := hvl.inv
      obtain ⟨hl1, hl2⟩ := List.cons.inj hl
      obtain ⟨fi, ca, hev, hfi, hca⟩ := hf'.funcInv
      rw [hev] at hl1
      have hvv : VRL ρ (first ++ args ++ caps) (fi ++ xs.map rf.eval ++ ca) := by rw [hl2]; exact (hfi.append hargs).append hca
      have hrun : ∀ hfn, (execOp (mkF fn t (.inRegion ops (i :: is) :: k') d r).eval oo).run P w = .ok (.enter f ⟨fi ++ xs.map rf.eval ++ ca⟩) w := fun hfn => by
        rw [← A.frame, hxs]; exact callV_run hoo hl1 hfn
      have hstep : (∃ fn, P.funcs[f]? = some fn ∧ fn.name ≠ "runtime.NumGoroutine" ∧ fn.body.isSome = true) → step P (lone rf (rfs ++ cs) w) = .next (lone (Frame.enter P f ⟨fi ++ xs.map rf.eval ++ ca⟩ .normal) (rf :: rfs ++ cs) w) := fun hfn => by
        have := st_enter (cs := rfs ++ cs) A.op A.wanted hnd (hrun hfn)
        rw [← A.frame] at this; exact this
      split at hs
      · rename_i s hsf
        split at hs <;> try (cases hs; done)
        rename_i v H' top' hsr
        cases hs
        exact sum_go hS hsf h ht hvv hsr (hstep (hS f s hsf).fn)
      · split at hs <;> try (cases hs; done)
        rename_i c hc
        cases hs
        exact enter_go hF h ht hvv hc (hstep (enter_ok hF hc hvv).2)
    · rename_i l args
      obtain ⟨v', l', hl, hf', hargs⟩ := hvl.inv
      obtain ⟨hl1, hl2⟩ := List.cons.inj hl
      obtain ⟨lo, hev, hlo⟩ := hf'.yieldInv
      rw [hev] at hl1
      split at hs <;> try (cases hs; done)
      rename_i c hc
      cases hs
      exact yield_go h ht hlo (rargs := xs.map rf.eval) (by rw [hl2]; exact hargs) hc (fun f tm aqs bd hx => by
        have hrun : (execOp (mkF fn t (.inRegion ops (i :: is) :: k') d r).eval oo).run P w = .ok (.round lo.blk f tm aqs bd) w := by
          rw [← A.frame]
          have : (⟨xs.map rf.eval⟩ : Array Value) = ys.map rf.eval := by rw [hxs, ← Array.toList_map]
          rw [this] at hx
          simp only [execOp, hoo, resolve, hl1, Deferred.ofValue, Sem.run_bind, Sem.run_pure, Result.andThen_ok, invoke, Array.empty_append, hx]
        have := st_round (cs := rfs ++ cs) A.op A.wanted hnd hrun
        rw [← A.frame] at this; exact this)
    · cases hs
  · rename_i op hne1 hne2
    have hnc : isCallV o.op = false := by
      cases hop : o.op <;> first | rfl | exact absurd hop (hne1 _ _) | exact absurd hop (hne2 _ _)
    split at hs <;> try (cases hs; done)
    rename_i v H' top' hr
    cases hs
    have hvl' : VRL ρ vals (o.op.ops.map (mkF fn t (.inRegion ops (i :: is) :: k') d r).eval) := by rw [← A.frame]; exact hvl
    obtain ⟨ρ', w', nx, hx, hext, hh, hnx⟩ := opSound h.heap (hcO hnc) (fun _ => rfl) (fun _ => rfl) hvl' hr
    cases v with
    | some v =>
      obtain ⟨v', rfl, hv'⟩ := hnx
      have hstep := st_value (cs := rfs ++ cs) A.op A.wanted hnd hx
      rw [← A.frame] at hstep
      exact ⟨ρ', rf.finish v', rfs, w', .one hstep, ⟨fin_reg (h.cur.mono hext) ht hv', h.up.mono fun _ _ k => k.mono hext, hh⟩, hext⟩
    | none =>
      subst hnx
      have hstep := st_opUnit (cs := rfs ++ cs) A.op A.wanted hnd hx
      rw [← A.frame] at hstep
      exact ⟨ρ', rf.finish undef, rfs, w', .one hstep, ⟨fin_reg (h.cur.mono hext) ht undef_ok, h.up.mono fun _ _ k => k.mono hext, hh⟩, hext⟩

end
end Go.Vm
