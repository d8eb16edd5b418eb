import Derived.Test.YtdnhoocoofnibaaVmDrawA
namespace Go.Vm
open Go
theorem aputs_back : ∀ (is : List Nat) (os : List VObj) (h : Hp), agets h is = some os → ∀ b, aget (aputs h is (os.map some)) b = aget h b
  | [], os, h, he, b => by simp [aputs]
  | i :: is, os, h, he, b => by
    simp only [agets] at he
    split at he <;> try (cases he; done)
    rename_i o ho
    split at he <;> try (cases he; done)
    rename_i os' hos
    cases he
    simp only [List.map_cons, aputs]
    have hc : ∀ c, aget (aput h i o) c = aget h c := fun c => by
      rw [aget_aput]; split
      · rename_i e; subst e; exact ho.symm
      · rfl
    rw [aputs_back is os' (aput h i o) (by rw [agets_congr (h := h) (fun c _ => hc c)]; exact hos), hc]
theorem core_read {op : VOp} {vals : List Value} {objs : List VObj} {m : Nat} {r : CoreR} (hw : wrOp op = false) (hr : core op vals objs m = some r) : needs op vals = [] ∨ (r.objs = objs.map some ∧ r.fresh = none) := by
  cases op <;> first | exact .inl rfl | (simp [wrOp] at hw; done) | skip
  all_goals
    right
    simp only [core] at hr
  · unfold c_load1 at hr
    split at hr <;> try (cases hr; done)
    split at hr <;> try (cases hr; done)
    split at hr <;> cases hr
    exact ⟨rfl, rfl⟩
  · unfold c_loadN at hr
    split at hr <;> try (cases hr; done)
    split at hr <;> try (cases hr; done)
    split at hr <;> cases hr
    exact ⟨rfl, rfl⟩
  · unfold c_b2s at hr
    split at hr
    · cases hr; exact ⟨rfl, rfl⟩
    · split at hr <;> try (cases hr; done)
      split at hr <;> try (cases hr; done)
      split at hr <;> cases hr
      exact ⟨rfl, rfl⟩
    · cases hr
  · unfold c_sliceA at hr
    split at hr <;> try (cases hr; done)
    split at hr <;> try (cases hr; done)
    split at hr <;> try (cases hr; done)
    split at hr <;> cases hr
    exact ⟨rfl, rfl⟩
  · unfold c_toU at hr
    split at hr <;> try (cases hr; done)
    split at hr <;> cases hr
    exact ⟨rfl, rfl⟩
  · unfold c_ofU at hr
    split at hr <;> try (cases hr; done)
    split at hr <;> cases hr
    exact ⟨rfl, rfl⟩
theorem opRun_loc {op : VOp} {vals : List Value} {h h2 h' : Hp} {m m' : Nat} {x : Option Value} (he : ∀ b ∈ needs op vals, aget h2 b = aget h b) (hr : opRun op vals h m = some (x, h', m')) :
    ∃ h2', opRun op vals h2 m = some (x, h2', m') ∧ m ≤ m' ∧ Loc1 h h2 h' h2' (cond (wrOp op) (needs op vals) [] ++ List.range' m (m' - m)) := by
  unfold opRun at hr ⊢
  rw [agets_congr he]
  split at hr <;> try (cases hr; done)
  rename_i objs hobjs
  split at hr <;> try (cases hr; done)
  rename_i v os fr hc
  have key : Loc1 h h2 (aputs h (needs op vals) os) (aputs h2 (needs op vals) os) (cond (wrOp op) (needs op vals) []) := by
    cases hw : wrOp op with
    | true =>
      simp only [cond_true]
      have a := aputs_spec (needs op vals) os h h2
      have b := aputs_spec (needs op vals) os h2 h2
      exact ⟨a.1, b.1, a.2 he⟩
    | false =>
      simp only [cond_false]
      rcases core_read hw hc with hn | ⟨ho, _⟩
      · rw [hn]; simp only [aputs]
        exact ⟨fun _ _ => rfl, fun _ _ => rfl, fun b hb => by cases hb⟩
      · simp only at ho
        subst ho
        exact ⟨fun b _ => aputs_back _ _ _ hobjs b, fun b _ => aputs_back _ _ _ (by rw [agets_congr he]; exact hobjs) b, fun b hb => by cases hb⟩
  split at hr
  · rename_i hfr
    cases hr
    refine ⟨_, rfl, Nat.le_refl _, ?_⟩
    simpa using key
  · rename_i o hfr
    cases hr
    refine ⟨_, rfl, Nat.le_succ _, ?_⟩
    simp only [Nat.add_sub_cancel_left, List.range'_one]
    refine ⟨fun b hb => ?_, fun b hb => ?_, fun b hb => ?_⟩
    · simp only [List.mem_append, List.mem_singleton, not_or] at hb
      rw [aget_aput_ne _ _ (fun e => hb.2 e.symm)]; exact key.1 b hb.1
    · simp only [List.mem_append, List.mem_singleton, not_or] at hb
      rw [aget_aput_ne _ _ (fun e => hb.2 e.symm)]; exact key.2.1 b hb.1
    · simp only [List.mem_append, List.mem_singleton] at hb
      rw [aget_aput, aget_aput]
      split
      · rfl
      · exact key.2.2 b (hb.resolve_right fun e => by subst e; contradiction)
def LocE (e e2 e' e2' : Env) (W : List Nat) : Prop := (∀ b, b ∉ W → aget e' b = aget e b) ∧ (∀ b, b ∉ W → aget e2' b = aget e2 b) ∧ ((∀ b ∈ W, aget e2 b = aget e b) ∨ (∀ b ∈ W, aget e2' b = aget e' b))
theorem putD_loc (nt : Nat) (e e2 : Env) (o : VOper) (v : Value) : (∀ b, b ∉ tw o → aget (putD nt e o.dst v) b = aget e b) ∧ (∀ b, b ∉ tw o → aget (putD nt e2 o.dst v) b = aget e2 b) ∧
    ∀ b ∈ tw o, aget (putD nt e2 o.dst v) b = if b < nt then aget (putD nt e o.dst v) b else aget e2 b := by
  unfold tw tmpFp
  cases hd : o.dst with
  | none => exact ⟨fun _ _ => rfl, fun _ _ => rfl, fun b hb => by cases hb⟩
  | some d =>
    simp only [putD, List.mem_singleton]
    cases hb : Nat.blt d nt with
    | false =>
      have : ¬ d < nt := fun h => by rw [← Nat.blt_eq] at h; simp [hb] at h
      simp only [cond_false]
      refine ⟨?_, ?_, ?_⟩
      · intro _ _; trivial
      · intro _ _; trivial
      · intro b hb; subst hb; rw [if_neg this]
    | true =>
      have : d < nt := by rw [← Nat.blt_eq]; exact hb
      simp only [cond_true]
      refine ⟨fun b hb => aget_aput_ne _ _ (fun e => hb e.symm), fun b hb => aget_aput_ne _ _ (fun e => hb e.symm), fun b hb => ?_⟩
      subst hb
      rw [if_pos this, aget_aput_same, aget_aput_same]
theorem Runs.local {S : Sums} {nt : Nat} {x : Rec} {s t s2 : St} (h : Runs S nt x s t) (ht : ∀ i ∈ tr x.o, aget s2.1 i = aget s.1 i) (hb : ∀ i ∈ x.r, aget s2.2 i = aget s.2 i) :
    ∃ t2, Runs S nt x s2 t2 ∧ x.m ≤ x.m1 ∧ Loc1 s.2 s2.2 t.2 t2.2 x.wf ∧ (∀ b, b ∉ tw x.o → aget t.1 b = aget s.1 b) ∧ (∀ b, b ∉ tw x.o → aget t2.1 b = aget s2.1 b) ∧ ∀ b ∈ tw x.o, aget t2.1 b = if b < nt then aget t.1 b else aget s2.1 b := by
  obtain ⟨e, hp⟩ := s
  obtain ⟨e2, h2⟩ := s2
  obtain ⟨et, htp⟩ := t
  obtain ⟨i, o, m, m1, r, w⟩ := x
  simp only [Runs, stepD, Rec.wf] at *
  have hg : wantedV e2 o.g = wantedV e o.g := wantedV_congr fun t hm => ht t (by simp only [tr, tmpFp, List.mem_append]; exact .inl hm)
  have hv : evalL e2 o.op.ops = evalL e o.op.ops := evalL_congr fun t hm => ht t (by simp only [tr, tmpFp, List.mem_append]; exact .inr hm)
  rw [hg, hv]
  split at h <;> try (cases h; done)
  · simp only [Option.some.injEq, Prod.mk.injEq] at h
    obtain ⟨rfl, rfl, rfl, rfl, rfl⟩ := h
    have p := putD_loc nt e e2 o undefV
    exact ⟨(_, h2), rfl, Nat.le_refl _, ⟨fun _ _ => rfl, fun _ _ => rfl, fun b hb => by simp at hb⟩, p.1, p.2.1, p.2.2⟩
  · split at h <;> try (cases h; done)
    rename_i vals hvals
    split at h
    · split at h <;> try (cases h; done)
      rename_i s hs
      split at h <;> try (cases h; done)
      rename_i v h' m' hr
      simp only [Option.some.injEq, Prod.mk.injEq] at h
      obtain ⟨rfl, rfl, rfl, rfl, rfl⟩ := h
      obtain ⟨hwl, h2', g1, g2, g3⟩ := sumRun_loc hb hr
      have p := putD_loc nt e e2 o v
      refine ⟨(_, h2'), by simp only [g1, hwl]; rfl, g2, g3, p.1, p.2.1, p.2.2⟩
    · split at h <;> try (cases h; done)
      split at h <;> try (cases h; done)
      rename_i s hs
      split at h <;> try (cases h; done)
      rename_i v h' m' hr
      simp only [Option.some.injEq, Prod.mk.injEq] at h
      obtain ⟨rfl, rfl, rfl, rfl, rfl⟩ := h
      obtain ⟨hwl, h2', g1, g2, g3⟩ := sumRun_loc hb hr
      have p := putD_loc nt e e2 o v
      refine ⟨(_, h2'), by simp only [g1, hwl]; rfl, g2, g3, p.1, p.2.1, p.2.2⟩
    · split at h <;> try (cases h; done)
      rename_i v h' m' hr
      simp only [Option.some.injEq, Prod.mk.injEq] at h
      obtain ⟨rfl, rfl, rfl, rfl, rfl⟩ := h
      obtain ⟨h2', g1, g2, g3⟩ := opRun_loc hb hr
      have p := putD_loc nt e e2 o (v.getD undefV)
      refine ⟨(_, h2'), by simp only [g1]; rfl, g2, g3, p.1, p.2.1, p.2.2⟩
theorem Runs.congr {S : Sums} {nt : Nat} {x : Rec} {s t s2 : St} (h : Runs S nt x s t) (he : EqS s s2) : ∃ t2, Runs S nt x s2 t2 ∧ EqS t t2 := by
  obtain ⟨t2, g1, _, g3, g4, g5, g6⟩ := h.local (fun i _ => (he.1 i).symm) (fun i _ => (he.2 i).symm)
  obtain ⟨t3, k1, _, k3, k4, k5, k6⟩ := h.local (s2 := s) (fun i _ => rfl) (fun i _ => rfl)
  have : t3 = t := by simp only [Runs] at h k1; rw [h] at k1; simp only [Option.some.injEq, Prod.mk.injEq] at k1; obtain ⟨a, b, _⟩ := k1; exact Prod.ext a.symm b.symm
  subst this
  refine ⟨t2, g1, fun i => ?_, fun i => ?_⟩
  · by_cases hi : i ∈ tw x.o
    · rw [g6 i hi, k6 i hi]; split
      · rfl
      · exact he.1 i
    · rw [g4 i hi, g5 i hi]; exact he.1 i
  · by_cases hi : i ∈ x.wf
    · exact (g3.2.2 i hi).symm
    · rw [g3.1 i hi, g3.2.1 i hi]; exact he.2 i
theorem val_fresh {v : Value} {r : CoreR} (h : val v = some r) : r.fresh = none := by simp only [val, Option.some.injEq] at h; subst h; rfl
theorem core_fresh {op : VOp} {vals : List Value} {objs : List VObj} {m : Nat} {r : CoreR} (hk : memK op ≠ 2) (hr : core op vals objs m = some r) : r.fresh = none := by
  cases op <;> first | (exact absurd rfl hk) | skip
  all_goals simp only [core] at hr
  all_goals (try unfold c_mv at hr) <;> (try unfold c_pick at hr) <;> (try unfold c_build at hr) <;> (try unfold c_load1 at hr) <;> (try unfold c_loadN at hr) <;> (try unfold c_nilCheck at hr) <;> (try unfold c_bin at hr) <;> (try unfold c_eqB at hr) <;> (try unfold c_isNil at hr) <;> (try unfold c_eqAgg at hr) <;> (try unfold c_not at hr) <;> (try unfold c_neg at hr) <;> (try unfold c_cmpl at hr) <;> (try unfold c_conv at hr) <;> (try unfold c_b2s at hr) <;> (try unfold c_s2s at hr) <;> (try unfold c_iface at hr) <;> (try unfold c_tassert at hr) <;> (try unfold c_mkFunc at hr) <;> (try unfold c_sliceS at hr) <;> (try unfold c_sliceL at hr) <;> (try unfold c_sliceA at hr) <;> (try unfold c_fieldA at hr) <;> (try unfold c_part1 at hr) <;> (try unfold c_partN at hr) <;> (try unfold c_idxAA at hr) <;> (try unfold c_idxAL at hr) <;> (try unfold c_idxV1 at hr) <;> (try unfold c_idxVN at hr) <;> (try unfold c_idxS at hr) <;> (try unfold c_extract at hr) <;> (try unfold c_lenS at hr) <;> (try unfold c_lenL at hr) <;> (try unfold c_lenN at hr) <;> (try unfold c_minmax at hr) <;> (try unfold c_eqP at hr) <;> (try unfold c_toU at hr) <;> (try unfold c_ofU at hr) <;> (try unfold c_sdata at hr)
  all_goals repeat' (first | (exact val_fresh hr) | (cases hr; rfl) | (cases hr; done) | split at hr)
theorem opRun_fresh {op : VOp} {vals : List Value} {h h' : Hp} {m m' : Nat} {x : Option Value} (hk : memK op ≠ 2) (hr : opRun op vals h m = some (x, h', m')) : m' = m := by
  unfold opRun at hr
  split at hr <;> try (cases hr; done)
  split at hr <;> try (cases hr; done)
  rename_i v os fr hc
  have := core_fresh hk hc
  simp only at this
  subst this
  cases hr; rfl
theorem Runs.kind {S : Sums} {nt : Nat} {x : Rec} {s t : St} (h : Runs S nt x s t) : (memK x.o.op = 0 → x.r = [] ∧ x.wf = []) ∧ (memK x.o.op = 1 → x.wf = []) := by
  obtain ⟨i, o, m, m1, r, w⟩ := x
  simp only [Runs, stepD, Rec.wf] at *
  split at h <;> try (cases h; done)
  · simp only [Option.some.injEq, Prod.mk.injEq] at h
    obtain ⟨_, _, rfl, rfl, rfl⟩ := h
    simp
  · split at h <;> try (cases h; done)
    rename_i vals hvals
    split at h
    · rename_i hop; rw [hop]; simp [memK]
    · rename_i hop; rw [hop]; simp [memK]
    · split at h <;> try (cases h; done)
      rename_i v h' m' hr
      simp only [Option.some.injEq, Prod.mk.injEq] at h
      obtain ⟨_, _, rfl, rfl, rfl⟩ := h
      refine ⟨fun hk => ?_, fun hk => ?_⟩
      · have hm := opRun_fresh (by rw [hk]; decide) hr
        subst hm
        have hn : needs o.op vals = [] := by
          cases ho : o.op <;> rw [ho] at hk <;> first | rfl | (simp [memK] at hk; done)
        rw [hn]
        cases wrOp o.op <;> simp
      · have hm := opRun_fresh (by rw [hk]; decide) hr
        subst hm
        have hw : wrOp o.op = false := by
          cases ho : o.op <;> rw [ho] at hk <;> first | rfl | (simp [memK] at hk; done)
        rw [hw]; simp
structure NoC (x y : Rec) : Prop where
  t1 : ∀ t ∈ tw x.o, t ∉ tr y.o
  t2 : ∀ t ∈ tw x.o, t ∉ tw y.o
  t3 : ∀ t ∈ tw y.o, t ∉ tr x.o
  b1 : ∀ b ∈ x.wf, b ∉ y.r
  b2 : ∀ b ∈ x.wf, b ∉ y.wf
  b3 : ∀ b ∈ y.wf, b ∉ x.r
theorem Runs.swap {S : Sums} {nt : Nat} {x y : Rec} {s s1 s2 : St} (hx : Runs S nt x s s1) (hy : Runs S nt y s1 s2) (hc : NoC x y) : ∃ t1 t2, Runs S nt y s t1 ∧ Runs S nt x t1 t2 ∧ EqS s2 t2 := by
  obtain ⟨_, a1, _, a3, a4, _, a6⟩ := hx.local (s2 := s) (fun i _ => rfl) (fun i _ => rfl)
  obtain ⟨t1, b1, _, b3, b4, b5, b6⟩ := hy.local (s2 := s) (fun i hi => (a4 i (fun h => hc.t1 i h hi)).symm) (fun i hi => (a3.1 i (fun h => hc.b1 i h hi)).symm)
  obtain ⟨t2, c1, _, c3, c4, c5, c6⟩ := hx.local (s2 := t1) (fun i hi => b5 i (fun h => hc.t3 i h hi)) (fun i hi => b3.2.1 i (fun h => hc.b3 i h hi))
  refine ⟨t1, t2, b1, c1, fun i => ?_, fun i => ?_⟩
  · by_cases hix : i ∈ tw x.o
    · have hiy := hc.t2 i hix
      rw [b4 i hiy, c6 i hix]
      split
      · rfl
      · rw [b5 i hiy]
        have hh := a6 i hix
        rename_i hn
        have : aget s1.1 i = aget s.1 i := by
          have e := (putD_loc nt s.1 s.1 x.o undefV).2.2 i hix
          obtain ⟨u, q1, _, _, _, _, q6⟩ := hx.local (s2 := s) (fun i _ => rfl) (fun i _ => rfl)
          have : u = s1 := by simp only [Runs] at hx q1; rw [hx] at q1; simp only [Option.some.injEq, Prod.mk.injEq] at q1; obtain ⟨a, b, _⟩ := q1; exact Prod.ext a.symm b.symm
          subst this
          have := q6 i hix
          rw [if_neg hn] at this; exact this
        exact this
    · rw [c5 i hix]
      by_cases hiy : i ∈ tw y.o
      · rw [b6 i hiy]
        split
        · rfl
        · rename_i hn
          obtain ⟨u, q1, _, _, _, _, q6⟩ := hy.local (s2 := s1) (fun i _ => rfl) (fun i _ => rfl)
          have : u = s2 := by simp only [Runs] at hy q1; rw [hy] at q1; simp only [Option.some.injEq, Prod.mk.injEq] at q1; obtain ⟨a, b, _⟩ := q1; exact Prod.ext a.symm b.symm
          subst this
          have := q6 i hiy
          rw [if_neg hn] at this
          rw [this, a4 i hix]
      · rw [b4 i hiy, b5 i hiy, a4 i hix]
  · by_cases hix : i ∈ x.wf
    · have hiy := hc.b2 i hix
      rw [b3.1 i hiy, c3.2.2 i hix]
    · rw [c3.2.1 i hix]
      by_cases hiy : i ∈ y.wf
      · rw [b3.2.2 i hiy]
      · rw [b3.1 i hiy, b3.2.1 i hiy, a3.1 i hix]
def Chain (S : Sums) (nt : Nat) : List Rec → St → St → Prop
  | [], s, t => EqS s t
  | x :: l, s, t => ∃ s1, Runs S nt x s s1 ∧ Chain S nt l s1 t
theorem Chain.congr {S : Sums} {nt : Nat} : ∀ {l : List Rec} {s s2 t : St}, Chain S nt l s t → EqS s s2 → Chain S nt l s2 t
  | [], _, _, _, h, e => e.symm.trans h
  | _ :: _, _, _, _, ⟨s1, h1, h2⟩, e => by
    obtain ⟨t2, g1, g2⟩ := h1.congr e
    exact ⟨t2, g1, h2.congr g2⟩
theorem Chain.front {S : Sums} {nt : Nat} {y : Rec} {b : List Rec} : ∀ {a : List Rec} {s t : St}, Chain S nt (a ++ y :: b) s t → (∀ x ∈ a, NoC x y) → Chain S nt (y :: (a ++ b)) s t
  | [], _, _, h, _ => h
  | x :: a, s, t, ⟨s1, h1, h2⟩, hc => by
    obtain ⟨s2, g1, g2⟩ := Chain.front (a := a) h2 (fun z hz => hc z (by simp [hz]))
    obtain ⟨t1, t2, k1, k2, k3⟩ := h1.swap g1 (hc x (by simp))
    exact ⟨t1, k1, t2, k2, g2.congr k3⟩
end Go.Vm
