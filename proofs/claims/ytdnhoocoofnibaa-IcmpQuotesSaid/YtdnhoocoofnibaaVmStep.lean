import Derived.Test.YtdnhoocoofnibaaVmMach
namespace Go.Vm
open Go Go.RowKit
inductive All2 {α β : Type} (R : α → β → Prop) : List α → List β → Prop
  | nil : All2 R [] []
  | cons {a b l m} (h : R a b) (t : All2 R l m) : All2 R (a :: l) (b :: m)
theorem All2.mono {α β : Type} {R S : α → β → Prop} (h : ∀ a b, R a b → S a b) : ∀ {l : List α} {m : List β}, All2 R l m → All2 S l m
  | _, _, .nil => .nil
  | _, _, .cons x t => .cons (h _ _ x) (All2.mono h t)
theorem All2.append {α β : Type} {R : α → β → Prop} : ∀ {l l' : List α} {m m' : List β}, All2 R l m → All2 R l' m' → All2 R (l ++ l') (m ++ m')
  | _, _, _, _, .nil, k => k
  | _, _, _, _, .cons x t, k => .cons x (All2.append t k)
inductive RegR (P : Program) (ops : Array Oper) : List Nat → List VOper → Prop
  | nil : RegR P ops [] []
  | cons {i is o v vs} (ho : ops[i]? = some o) (hc : compOper P ops o = some v) (t : RegR P ops is vs) : RegR P ops (i :: is) (v :: vs)
inductive ItemR (P : Program) (ρ : Ren) : VItem → Item → Prop
  | code {c : VC} {c' : Code} (h : compC P c' = some c) : ItemR P ρ (.code c) (.code c')
  | inBlock (id : Nat) : ItemR P ρ (.inBlock id) (.inBlock id)
  | inLoop {c : VC} {c' : Code} (h : compC P c' = some c) : ItemR P ρ (.inLoop c) (.inLoop c')
  | inReg {ops : Array Oper} {is : List Nat} {vs : List VOper} (h : RegR P ops is vs) : ItemR P ρ (.inReg vs) (.inRegion ops is)
  | inRangeFunc {r : Nat} {l : Loc} (h : ρ r = some l) : ItemR P ρ (.inRangeFunc r) (.inRangeFunc l.blk)
  | endRangeFunc {r : Nat} {l : Loc} (h : ρ r = some l) : ItemR P ρ (.endRangeFunc r) (.endRangeFunc l.blk)
  | beginRound : ItemR P ρ .beginRound .beginRound
theorem ItemR.mono {P : Program} {ρ ρ' : Ren} (x : Ext ρ ρ') : ∀ v i, ItemR P ρ v i → ItemR P ρ' v i
  | _, _, .code h => .code h
  | _, _, .inBlock id => .inBlock id
  | _, _, .inLoop h => .inLoop h
  | _, _, .inReg h => .inReg h
  | _, _, .inRangeFunc h => .inRangeFunc (x _ _ h)
  | _, _, .endRangeFunc h => .endRangeFunc (x _ _ h)
  | _, _, .beginRound => .beginRound
def DefR (ρ : Ren) (r : Nat) (d : Deferred) : Prop := ∃ l, ρ r = some l ∧ d = { target := .collected l.blk, args := #[] }
def RoundR (ρ : Ren) : Option Nat → Option Nat → Prop
  | none, none => True
  | some r, some q => ∃ l, ρ r = some l ∧ q = l.blk ∧ l.sh = 0
  | _, _ => False
theorem RoundR.mono {ρ ρ' : Ren} (x : Ext ρ ρ') : ∀ {a b : Option Nat}, RoundR ρ a b → RoundR ρ' a b
  | none, none, _ => trivial
  | some _, some _, ⟨l, h, e⟩ => ⟨l, x _ _ h, e⟩
  | none, some _, h => h.elim
  | some _, none, h => h.elim
structure FrR (P : Program) (ρ : Ren) (v : VFrame) (f : Frame) : Prop where
  fn : f.fn = v.fn
  size : f.tmps.size = v.nt
  env : EnvR ρ v.env f.tmps
  todo : All2 (ItemR P ρ) v.todo f.todo
  defers : All2 (DefR ρ) v.defers f.defers
  mode : f.mode = if v.ret then .returning else .run
  kind : f.kind = .normal
  round : RoundR ρ v.round f.roundOf
theorem FrR.mono {P : Program} {ρ ρ' : Ren} (x : Ext ρ ρ') {v : VFrame} {f : Frame} (h : FrR P ρ v f) : FrR P ρ' v f :=
  { h with env := h.env.mono x, todo := h.todo.mono (ItemR.mono x), defers := h.defers.mono (fun _ _ ⟨l, a, b⟩ => ⟨l, x _ _ a, b⟩), round := h.round.mono x }
structure VMR (P : Program) (w0 : World) (U : Nat → Nat → Prop) (ρ : Ren) (vm : VM) (fr : Frame) (frs : List Frame) (w : World) : Prop where
  cur : FrR P ρ vm.cur fr
  up : All2 (FrR P ρ) vm.up frs
  heap : HpR P w0 (.of U) ρ vm.heap vm.top w
structure SumOK (P : Program) (f : Nat) (s : Summ) : Prop where
  fn : ∃ fn, P.funcs[f]? = some fn ∧ fn.name ≠ "runtime.NumGoroutine" ∧ fn.body.isSome = true
  calls : ∀ (w0 : World) (U : UG) (ρ : Ren) (H : Hp) (top : Nat) (w : World) (vals rvals : List Value) (v : Value) (H' : Hp) (top' : Nat), U.lo ≤ top → (∀ j, top ≤ j → j < top' → ¬ U.g j) → HpR P w0 U ρ H top w → VRL ρ vals rvals → sumRun s vals H top = some (v, H', top') →
    Calls P f ⟨rvals⟩ w fun e w' => ∃ ρ' rv, e = .returned rv ∧ VR ρ' v rv ∧ HpR P w0 U ρ' H' top' w' ∧ Ext ρ ρ'
def SumsOK (P : Program) (S : Sums) : Prop := ∀ f s, S f = some s → SumOK P f s
section
variable {P : Program} {w0 : World} {U : Nat → Nat → Prop} {ρ : Ren} {F : Fns} {S : Sums}
theorem eval_ok {e : Env} {tmps : Array Value} (he : EnvR ρ e tmps) {x : Operand} (hx : okO x = true) {v : Value} (h : evalO e x = some v) {f : Frame} (hf : f.tmps = tmps) : VR ρ v (f.eval x) := by
  cases x with
  | tmp i =>
    obtain ⟨v', g, r⟩ := he i v h
    simp only [Frame.eval, hf, Array.getD_eq_getD_getElem?, g, Option.getD_some]; exact r
  | const c =>
    simp only [evalO, Option.some.injEq] at h; subst h
    exact VR.flat ρ c hx
  | global g => cases hx
  | func g =>
    simp only [evalO, Option.some.injEq] at h; subst h
    exact .func g .nil .nil
theorem evalL_ok {e : Env} {tmps : Array Value} (he : EnvR ρ e tmps) {f : Frame} (hf : f.tmps = tmps) : ∀ {xs : List Operand} {vs : List Value}, xs.all okO = true → evalL e xs = some vs → VRL ρ vs (xs.map f.eval)
  | [], vs, _, h => by simp only [evalL, Option.some.injEq] at h; subst h; exact .nil
  | x :: xs, vs, hx, h => by
    simp only [List.all_cons, Bool.and_eq_true] at hx
    simp only [evalL] at h
    split at h
    · rename_i v hv
      split at h
      · rename_i ws hws
        cases h
        exact .cons (eval_ok he hx.1 hv hf) (evalL_ok he hf hx.2 hws)
      · cases h
    · cases h
theorem env_put {e : Env} {tmps : Array Value} {n : Nat} (he : EnvR ρ e tmps) (hs : tmps.size = n) (d : Option Nat) {v v' : Value} (hv : VR ρ v v') :
    EnvR ρ (putD n e d v) (match d with | some d => tmps.setIfInBounds d v' | none => tmps) := by
  cases d with
  | none => exact he
  | some d =>
    simp only [putD]
    cases hb : Nat.blt d n with
    | false =>
      have : ¬ d < n := fun h => by rw [← Nat.blt_eq] at h; simp [hb] at h
      simp only [cond_false]
      rw [Array.setIfInBounds, dif_neg (by omega)]
      exact he
    | true =>
      have hlt : d < n := by rw [← Nat.blt_eq]; exact hb
      simp only [cond_true]
      intro i u hu
      rw [aget_aput] at hu
      by_cases hi : d = i
      · subst hi
        rw [if_pos rfl] at hu; cases hu
        exact ⟨v', by simp [hs, hlt], hv⟩
      · rw [if_neg hi] at hu
        obtain ⟨u', g, r⟩ := he i u hu
        exact ⟨u', by rw [Array.getElem?_setIfInBounds_ne hi]; exact g, r⟩
theorem enum_get : ∀ (vs : List Value) (k i : Nat) (v : Value), aget (enumEnv k vs) i = some v → k ≤ i ∧ vs[i - k]? = some v
  | [], k, i, v, h => by simp [enumEnv, aget] at h
  | x :: vs, k, i, v, h => by
    simp only [enumEnv, aget] at h
    cases hb : Nat.beq k i with
    | true =>
      have := Nat.eq_of_beq_eq_true hb
      subst this
      simp only [hb, cond_true, Option.some.injEq] at h
      subst h
      exact ⟨Nat.le_refl _, by simp⟩
    | false =>
      simp only [hb, cond_false] at h
      obtain ⟨h1, h2⟩ := enum_get vs (k + 1) i v h
      refine ⟨by omega, ?_⟩
      rw [show i - k = (i - (k + 1)) + 1 by omega, List.getElem?_cons_succ]; exact h2
theorem enter_ok (hF : FnsOK P F) {f : Nat} {args rargs : List Value} {c : VFrame} (h : enterF F f args = some c) (hr : VRL ρ args rargs) :
    FrR P ρ c (Frame.enter P f ⟨rargs⟩ .normal) ∧ ∃ fn, P.funcs[f]? = some fn ∧ fn.name ≠ "runtime.NumGoroutine" ∧ fn.body.isSome = true := by
  unfold enterF at h
  split at h
  · rename_i vf hvf
    split at h
    · rename_i hle
      cases h
      obtain ⟨fn, hfn, hcf⟩ := hF f vf hvf
      unfold compFn at hcf
      split at hcf
      · rename_i b hb
        split at hcf
        · cases hcf
        · rename_i hname
          split at hcf
          · rename_i cc hcc
            split at hcf
            · rename_i rs hrs
              cases hcf
              have hlen := hr.length
              refine ⟨⟨rfl, ?_, ?_, ?_, .nil, rfl, rfl, trivial⟩, fn, hfn, hname, by simp [hb]⟩
              · simp [Frame.enter, hfn]; simp at hle; omega
              · intro i v hi
                obtain ⟨h1, h2⟩ := enum_get _ _ _ _ hi
                obtain ⟨v', g1, g2⟩ := hr.get h2
                refine ⟨v', ?_, g2⟩
                simp only [Nat.sub_zero] at g1
                have hlt : i < rargs.length := by
                  rcases Nat.lt_or_ge i rargs.length with h | h
                  · exact h
                  · rw [List.getElem?_eq_none h] at g1; cases g1
                simp only [Frame.enter]
                rw [Array.getElem?_append_left (by simpa using hlt)]
                simpa using g1
              · simp only [Frame.enter, hfn, Option.bind_some, hb, Option.getD_some]
                exact .cons (.code hcc) .nil
            · cases hcf
          · cases hcf
      · cases hcf
    · cases h
  · cases h
theorem run_callFunc {f : Nat} {args : Array Value} {w : World} (h : ∃ fn, P.funcs[f]? = some fn ∧ fn.name ≠ "runtime.NumGoroutine" ∧ fn.body.isSome = true) : (callFunc f args).run P w = .ok (.enter f args) w := by
  obtain ⟨fn, h1, h2, h3⟩ := h
  obtain ⟨b, hb⟩ := Option.isSome_iff_exists.1 h3
  simp [callFunc, h1, h2, hb]
theorem wanted_ok {e : Env} {tmps : Array Value} (he : EnvR ρ e tmps) {ops : Array Oper} {o : Oper} {v : VOper} (hc : compOper P ops o = some v) {b : Bool} (h : wantedV e v.g = some b) : Region.wanted o (yielded ops tmps) = b := by
  unfold compOper at hc
  split at hc <;> try (cases hc; done)
  split at hc <;> try (cases hc; done)
  split at hc
  · rename_i hg
    cases hc
    simp only [wantedV, Option.some.injEq] at h
    simp [Region.wanted, hg, ← h]
  · rename_i j w hg
    split at hc <;> try (cases hc; done)
    rename_i p hp
    split at hc <;> try (cases hc; done)
    rename_i d hd
    cases hc
    simp only [wantedV] at h
    split at h
    · rename_i x hx
      cases h
      obtain ⟨v', g, r⟩ := he d _ hx
      cases r
      simp only [Region.wanted, hg, yielded, hp, Option.bind_some, hd, g]
      cases x <;> cases w <;> rfl
    · rename_i hx
      cases h
      obtain ⟨v', g, r⟩ := he d _ hx
      cases r with
      | tuple hl =>
        cases hl
        simp only [Region.wanted, hg, yielded, hp, Option.bind_some, hd, g]
        rfl
    · cases h
theorem compOper_dst {ops : Array Oper} {o : Oper} {v : VOper} (hc : compOper P ops o = some v) : o.dst = v.dst ∧ v.op.ops.all okO = true ∧ compAny P o.op = some v.op := by
  unfold compOper at hc
  split at hc <;> try (cases hc; done)
  rename_i vo hvo
  split at hc <;> try (cases hc; done)
  rename_i hok
  split at hc
  · cases hc; exact ⟨rfl, hok, hvo⟩
  · split at hc <;> try (cases hc; done)
    split at hc <;> try (cases hc; done)
    cases hc; exact ⟨rfl, hok, hvo⟩
theorem finish_ok {u u' : VFrame} {f : Frame} {v v' : Value} (h : FrR P ρ u f) (hv : VR ρ v v') (hf : finish u v = some u') : FrR P ρ u' (f.finish v') := by
  obtain ⟨h1, h2, h3, h4, h5, h6, h7, h8⟩ := h
  unfold finish at hf
  split at hf
  · rename_i o rest k htd
    cases hf
    rw [htd] at h4
    cases hft : f.todo with
    | nil => rw [hft] at h4; cases h4
    | cons it k' =>
      rw [hft] at h4
      cases h4 with | cons hi hk =>
      cases hi with | inReg hr =>
      cases hr with | @cons i is oo _ _ ho hc ht =>
      have hdst := (compOper_dst hc).1
      have he := env_put (d := o.dst) h3 h2 hv
      refine ⟨?_, ?_, ?_, ?_, ?_, ?_, ?_, ?_⟩ <;> simp only [Frame.finish, hft, ho, Option.bind_some, hdst]
      · exact h1
      · cases o.dst with
        | none => exact h2
        | some d => simpa using h2
      · cases hd : o.dst with
        | none => rw [hd] at he; exact he
        | some d => rw [hd] at he; exact he
      · exact .cons (.inReg ht) hk
      · exact h5
      · exact h6
      · exact h7
      · exact h8
  · rename_i l k htd
    cases hf
    rw [htd] at h4
    cases hft : f.todo with
    | nil => rw [hft] at h4; cases h4
    | cons it k' =>
      rw [hft] at h4
      cases h4 with | cons hi hk =>
      cases hi with | inRangeFunc hl =>
      exact ⟨by simp [Frame.finish, hft, h1], by simp [Frame.finish, hft, h2], by simpa [Frame.finish, hft] using h3, by simpa [Frame.finish, hft] using .cons (.endRangeFunc hl) hk, by simpa [Frame.finish, hft] using h5, by simp [Frame.finish, hft, h6], by simp [Frame.finish, hft, h7], by simpa [Frame.finish, hft] using h8⟩
  · cases hf
def resOne (tmps : Array Value) : ResultVar → Sem Value
  | .tmp t => pure (tmps.getD t undef)
  | .cell a t => do loadVar t (← asAddr (tmps.getD a undef))
theorem resV_ok {e : Env} {tmps : Array Value} {H : Hp} {top : Nat} {w : World} (he : EnvR ρ e tmps) (hh : HpR P w0 (.of U) ρ H top w) {r : ResultVar} {vr : VRes} (hc : compRes P r = some vr) {v : Value} (h : resV e H vr = some v) :
    ∃ v', VR ρ v v' ∧ (resOne tmps r).run P w = .ok v' w := by
  cases r with
  | tmp t =>
    simp only [compRes, Option.some.injEq] at hc; subst hc
    obtain ⟨v', g, r⟩ := he t v h
    exact ⟨v', r, by simp [resOne, Array.getD_eq_getD_getElem?, g]⟩
  | cell a t =>
    simp only [compRes] at hc
    split at hc <;> try (cases hc; done)
    rename_i i hi
    split at hc <;> try (cases hc; done)
    rename_i d hd
    have key : ∀ ks agg, vr = .cell a ks agg → ∃ b q ob cs l, aget e a = some (.pointer (some ⟨b, q, none⟩)) ∧ aget H b = some ob ∧ ob.cs = some cs ∧ ρ b = some l ∧ tmps.getD a undef = .pointer (some ⟨l.blk, l.sh + q, none⟩) ∧ (∃ own, CellsR ρ w l own cs) ∧
        (if agg then (if q + ks.length ≤ cs.length then some (.agg ⟨(cs.drop q).take ks.length⟩) else none) else cs[q]?) = some v := by
      intro ks agg e'
      subst e'
      simp only [resV] at h
      split at h <;> try (cases h; done)
      rename_i b q hp
      split at h <;> try (cases h; done)
      rename_i ob hob
      split at h <;> try (cases h; done)
      rename_i cs hcs
      obtain ⟨v', g, r⟩ := he a _ hp
      cases r with | ptr hl =>
      obtain ⟨l', hl', hor, _⟩ := hh.obj b ob hob
      rw [hl] at hl'; cases hl'
      exact ⟨b, q, ob, cs, _, hp, hob, hcs, hl, by simp [Array.getD_eq_getD_getElem?, g], hor.cells hcs, h⟩
    split at hc
    · rename_i hag
      split at hc <;> try (cases hc; done)
      rename_i hlen
      obtain ⟨b, q, ob, cs, l, k1, k2, k3, k4, k5, ⟨own, k6⟩, k7⟩ := key _ _ (Option.some.inj hc).symm
      simp only [↓reduceIte] at k7
      split at k7
      · rename_i hle
        cases k7
        obtain ⟨vs, g1, g2, g3⟩ := k6.values q _ hle
        refine ⟨.agg ⟨vs⟩, .agg g1, ?_⟩
        simp only [resOne, k5, asAddr, Sem.run_bind, Sem.run_pure, Result.andThen_ok, loadVar, run_isAgg' hd, hag, ↓reduceIte, run_size hi, ← hlen, loadCells_run g2 g3]
      · cases k7
    · rename_i hag
      obtain ⟨b, q, ob, cs, l, k1, k2, k3, k4, k5, ⟨own, k6⟩, k7⟩ := key _ _ (Option.some.inj hc).symm
      simp only [Bool.false_eq_true, ↓reduceIte] at k7
      obtain ⟨v', g1, g2⟩ := k6.2.1 q v k7
      refine ⟨v', g2, ?_⟩
      simp [resOne, k5, asAddr, loadVar, run_isAgg' hd, hag, g1]
theorem results_ok {e : Env} {tmps : Array Value} {H : Hp} {top : Nat} {w : World} (he : EnvR ρ e tmps) (hh : HpR P w0 (.of U) ρ H top w) : ∀ {rs : List ResultVar} {vrs : List VRes} {vs : List Value}, compRess P rs = some vrs → resVs e H vrs = some vs →
    ∃ vs', VRL ρ vs vs' ∧ (rs.mapM (resOne tmps)).run P w = .ok vs' w
  | [], vrs, vs, hc, h => by
    simp only [compRess, Option.some.injEq] at hc; subst hc
    simp only [resVs, Option.some.injEq] at h; subst h
    exact ⟨[], .nil, rfl⟩
  | r :: rs, vrs, vs, hc, h => by
    simp only [compRess] at hc
    split at hc <;> try (cases hc; done)
    rename_i vr hvr
    split at hc <;> try (cases hc; done)
    rename_i vrs' hvrs
    cases hc
    simp only [resVs] at h
    split at h <;> try (cases h; done)
    rename_i v hv
    split at h <;> try (cases h; done)
    rename_i ws hws
    cases h
    obtain ⟨v', g1, g2⟩ := resV_ok he hh hvr hv
    obtain ⟨vs', g3, g4⟩ := results_ok he hh hvrs hws
    refine ⟨v' :: vs', .cons g1 g3, ?_⟩
    rw [List.mapM_cons]
    simp only [Sem.run_bind, g2, Result.andThen_ok, g4, Sem.run_pure]
theorem tup_ok {vs vs' : List Value} (h : VRL ρ vs vs') : VR ρ (tupV vs) (if hs : (⟨vs'⟩ : Array Value).size = 1 then (⟨vs'⟩ : Array Value)[0] else .tuple ⟨vs'⟩) := by
  cases h with
  | nil => exact .tuple .nil
  | cons h hl =>
    cases hl with
    | nil => simpa [tupV] using h
    | cons k kl =>
      simp only [tupV]
      rw [dif_neg (by simp)]
      exact .tuple (.cons h (.cons k kl))
theorem results_run {fn : Func} {e : Env} {tmps : Array Value} {H : Hp} {top : Nat} {w : World} (he : EnvR ρ e tmps) (hh : HpR P w0 (.of U) ρ H top w) {vrs : List VRes} {vs : List Value} (hc : compRess P fn.results.toList = some vrs) (h : resVs e H vrs = some vs) :
    ∃ v', VR ρ (tupV vs) v' ∧ (results fn tmps).run P w = .ok v' w := by
  obtain ⟨vs', g1, g2⟩ := results_ok he hh hc h
  refine ⟨_, tup_ok g1, ?_⟩
  have hres : results fn tmps = (do let vals ← fn.results.mapM (resOne tmps); return if h : vals.size = 1 then vals[0] else .tuple vals) := by
    unfold results
    congr 2
  rw [hres, Array.mapM_eq_mapM_toList]
  simp only [Sem.run_bind, Sem.run_map, g2, Result.andThen_ok, Sem.run_pure]
end
end Go.Vm
