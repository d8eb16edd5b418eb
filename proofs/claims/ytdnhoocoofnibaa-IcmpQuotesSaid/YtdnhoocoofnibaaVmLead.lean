import Derived.Test.YtdnhoocoofnibaaVmRun
namespace Go.Vm
open Go Go.RowKit
structure Leads (P : Program) (f base : Nat) (vm : VM) (R : Value → Hp → Nat → Prop) : Prop where
  get : ∀ (w0 : World) (U : Nat → Nat → Prop) (ρ : Ren) (rf : Frame) (rfs : List Frame) (w : World) (cs : List Frame), VMR P w0 U ρ vm rf rfs w →
    ∃ ρ' rv fr' w' v H top, Steps P (lone rf (rfs ++ cs) w) (lone fr' cs w') ∧ fr'.fn = f ∧ fr'.leaving P w' (.returned rv) ∧ VR ρ' v rv ∧ HpR P w0 (.of U) ρ' H top w' ∧
      (∀ i l, i < base → ρ i = some l → ρ' i = some l) ∧ R v H top
def renE (s : Nat → Option Nat) (e : Env) : Env → Prop
  | [] => True
  | (i, v) :: l => (match renV s v with | some v' => aget e i = some v' | none => False) ∧ renE s e l
theorem renE_get {s : Nat → Option Nat} {e : Env} : ∀ {l : Env}, renE s e l → ∀ i v, aget l i = some v → ∃ v', renV s v = some v' ∧ aget e i = some v'
  | [], _, i, v, h => by simp [aget] at h
  | (j, u) :: l, h, i, v, hv => by
    obtain ⟨h1, h2⟩ := h
    simp only [aget] at hv
    cases hb : Nat.beq j i with
    | true =>
      rw [hb, cond_true, Option.some.injEq] at hv
      subst hv
      have := Nat.eq_of_beq_eq_true hb; subst this
      split at h1
      · rename_i v' hv'; exact ⟨v', hv', h1⟩
      · exact h1.elim
    | false =>
      rw [hb, cond_false] at hv
      exact renE_get h2 i v hv
section
variable {P : Program} {w0 : World} {U : Nat → Nat → Prop} {ρ : Ren} {F : Fns} {S : Sums}
def comp (s : Nat → Option Nat) (ρ : Ren) : Ren := fun i => match s i with | some j => ρ j | none => none
theorem comp_some {s : Nat → Option Nat} {i j : Nat} (h : s i = some j) : comp s ρ i = ρ j := by simp [comp, h]
mutual
theorem VR.unren {s : Nat → Option Nat} : ∀ (v : Value) {u v' : Value}, renV s v = some u → VR ρ u v' → VR (comp s ρ) v v' := by
  intro v u v' h hr
  unfold renV at h
  split at h
  · split at h <;> cases h
    rename_i hs
    cases hr with | ptr hl => exact .ptr (by rw [comp_some hs]; exact hl)
  · split at h <;> cases h
    rename_i hs
    cases hr with
    | slice hl hn hc => exact .slice (by rw [comp_some hs]; exact hl) hn hc
    | slice0 a => exact .slice0 a
  · split at h <;> cases h
    rename_i ha hb
    cases hr with | func _ h1 h2 => exact .func _ (VRL.unren _ ha h1) (VRL.unren _ hb h2)
  · split at h <;> cases h
    rename_i hs
    cases hr with | yield hl => exact .yield (by rw [comp_some hs]; exact hl)
  · cases h; cases hr; exact .tnil _ _
  · split at h <;> cases h
    rename_i hs
    cases hr with | tsl _ hl hv => exact .tsl _ (by rw [comp_some hs]; exact hl) hv
  · split at h <;> cases h
    rename_i hs
    cases hr with | iface _ hl => exact .iface _ (VR.unren _ hs hl)
  · split at h <;> cases h
    rename_i hs
    cases hr with | agg hl => exact .agg (VRL.unren _ hs hl)
  · split at h <;> cases h
    rename_i hs
    cases hr with | tuple hl => exact .tuple (VRL.unren _ hs hl)
  · cases h; cases hr; exact .bool _
  · cases h; cases hr; exact .int _ _
  · cases h; cases hr; exact .string _
  · cases h; cases hr; exact .junk _ _ (by assumption)
  · cases h; cases hr; exact .nilp
  · cases h; cases hr; exact .nils _
  · cases h; cases hr; exact .nilf
  · cases h; cases hr; exact .nili
  · cases h
theorem VRL.unren {s : Nat → Option Nat} : ∀ (l : List Value) {u l' : List Value}, renV.renL s l = some u → VRL ρ u l' → VRL (comp s ρ) l l' := by
  intro l u l' h hr
  cases l with
  | nil => simp only [renV.renL, Option.some.injEq] at h; subst h; cases hr; exact .nil
  | cons v l =>
    simp only [renV.renL] at h
    split at h <;> try (cases h; done)
    rename_i v' hv
    split at h <;> try (cases h; done)
    rename_i k hk
    cases h
    cases hr with | cons h1 h2 => exact .cons (VR.unren _ hv h1) (VRL.unren _ hk h2)
end
theorem EnvR.unren {s : Nat → Option Nat} {e e' : Env} {t : Array Value} (h : EnvR ρ e t) (hs : renE s e e') : EnvR (comp s ρ) e' t := by
  intro i v hv
  obtain ⟨u, hu, he⟩ := renE_get hs i v hv
  obtain ⟨v', g, r⟩ := h i u he
  exact ⟨v', g, VR.unren v hu r⟩
def renI (s : Nat → Option Nat) : VItem → Option VItem
  | .inRangeFunc l => match s l with
    | some j => some (.inRangeFunc j)
    | none => none
  | .endRangeFunc l => match s l with
    | some j => some (.endRangeFunc j)
    | none => none
  | x => some x
def renT (s : Nat → Option Nat) : List VItem → Option (List VItem)
  | [] => some []
  | x :: l => match renI s x with
    | some y => match renT s l with
      | some m => some (y :: m)
      | none => none
    | none => none
def renN (s : Nat → Option Nat) : List Nat → Option (List Nat)
  | [] => some []
  | x :: l => match s x with
    | some y => match renN s l with
      | some m => some (y :: m)
      | none => none
    | none => none
theorem ItemR.unren {s : Nat → Option Nat} {x y : VItem} (h : renI s x = some y) {it : Item} (hr : ItemR P ρ y it) : ItemR P (comp s ρ) x it := by
  unfold renI at h
  split at h
  · split at h <;> cases h
    rename_i hs
    cases hr with | inRangeFunc hl => exact .inRangeFunc (by rw [comp_some hs]; exact hl)
  · split at h <;> cases h
    rename_i hs
    cases hr with | endRangeFunc hl => exact .endRangeFunc (by rw [comp_some hs]; exact hl)
  · rename_i h1 h2
    cases h
    cases hr with
    | code h => exact .code h
    | inBlock id => exact .inBlock id
    | inLoop h => exact .inLoop h
    | inReg h => exact .inReg h
    | inRangeFunc h => exact absurd rfl (h1 _)
    | endRangeFunc h => exact absurd rfl (h2 _)
    | beginRound => exact .beginRound
theorem todo_unren {s : Nat → Option Nat} : ∀ {l m : List VItem} {k : List Item}, renT s l = some m → All2 (ItemR P ρ) m k → All2 (ItemR P (comp s ρ)) l k
  | [], m, k, h, hr => by simp only [renT, Option.some.injEq] at h; subst h; cases hr; exact .nil
  | x :: l, m, k, h, hr => by
    simp only [renT] at h
    split at h <;> try (cases h; done)
    rename_i y hy
    split at h <;> try (cases h; done)
    rename_i m' hm
    cases h
    cases hr with | cons h1 h2 => exact .cons (h1.unren hy) (todo_unren hm h2)
theorem defers_unren {s : Nat → Option Nat} : ∀ {l m : List Nat} {k : List Deferred}, renN s l = some m → All2 (DefR ρ) m k → All2 (DefR (comp s ρ)) l k
  | [], m, k, h, hr => by simp only [renN, Option.some.injEq] at h; subst h; cases hr; exact .nil
  | x :: l, m, k, h, hr => by
    simp only [renN] at h
    split at h <;> try (cases h; done)
    rename_i y hy
    split at h <;> try (cases h; done)
    rename_i m' hm
    cases h
    cases hr with | cons h1 h2 =>
    obtain ⟨lo, a, b⟩ := h1
    exact .cons ⟨lo, by rw [comp_some hy]; exact a, b⟩ (defers_unren hm h2)
structure FSub (s : Nat → Option Nat) (v v' : VFrame) : Prop where
  fn : v'.fn = v.fn
  nt : v'.nt = v.nt
  env : renE s v.env v'.env
  todo : renT s v'.todo = some v.todo
  defers : renN s v'.defers = some v.defers
  ret : v'.ret = v.ret
  round : match v'.round, v.round with
    | none, none => True
    | some a, some b => s a = some b
    | _, _ => False
theorem FrR.unren {s : Nat → Option Nat} {v v' : VFrame} {f : Frame} (h : FrR P ρ v f) (hs : FSub s v v') : FrR P (comp s ρ) v' f where
  fn := h.fn.trans hs.fn.symm
  size := h.size.trans hs.nt.symm
  env := h.env.unren hs.env
  todo := todo_unren hs.todo h.todo
  defers := defers_unren hs.defers h.defers
  mode := by rw [h.mode, hs.ret]
  kind := h.kind
  round := by
    have h1 := h.round
    have h2 := hs.round
    cases hv' : v'.round <;> cases hv : v.round <;> rw [hv', hv] at h2 <;> first | exact h2.elim | skip
    · rw [hv] at h1
      cases hf : f.roundOf with
      | none => trivial
      | some q => rw [hf] at h1; exact h1.elim
    · rw [hv] at h1
      cases hf : f.roundOf with
      | none => rw [hf] at h1; exact h1.elim
      | some q => rw [hf] at h1; obtain ⟨lo, a, b⟩ := h1; exact ⟨lo, by rw [comp_some h2]; exact a, b⟩
inductive OSub (s : Nat → Option Nat) : VObj → VObj → Prop
  | cells {cs cs'} (h : renV.renL s cs' = some cs) : OSub s (.cells cs) (.cells cs')
  | cellsF {cs} (h : flatV.flatL cs = true) : OSub s (.cells cs) (.cells cs)
  | rowF {own own' cs} (h : flatV.flatL cs = true) (ho : own' = true → own = true) : OSub s (.row own cs) (.row own' cs)
  | row {own own' cs cs'} (h : renV.renL s cs' = some cs) (ho : own' = true → own = true) : OSub s (.row own cs) (.row own' cs')
  | cr {own' cs cs'} (h : renV.renL s cs' = some cs) : OSub s (.cells cs) (.row own' cs')
  | crF {own' cs} (h : flatV.flatL cs = true) : OSub s (.cells cs) (.row own' cs)
  | rc {cs cs'} (h : renV.renL s cs' = some cs) : OSub s (.row true cs) (.cells cs')
  | ty {t cs cs'} (h : renV.renL s cs' = some cs) : OSub s (.ty t cs) (.ty t cs')
  | tyF {t cs} (h : flatV.flatL cs = true) : OSub s (.ty t cs) (.ty t cs)
  | tr {t own' cs cs'} (h : renV.renL s cs' = some cs) : OSub s (.ty t cs) (.row own' cs')
  | trF {t own' cs} (h : flatV.flatL cs = true) : OSub s (.ty t cs) (.row own' cs)
  | siter (b p) : OSub s (.siter b p) (.siter b p)
  | marks : OSub s .marks .marks
  | loop {r r' : VLoop} (state : r'.state = r.state) (pending : r'.pending = r.pending) (fn : r'.fn = r.fn) (nt : r'.nt = r.nt) (env : renE s r.env r'.env) (params : r'.params = r.params) (asg : r'.asg = r.asg)
      (body : r'.body = r.body) (defers : s r'.defers = some r.defers) : OSub s (.loop r) (.loop r')
theorem renL_get {s : Nat → Option Nat} : ∀ {l m : List Value}, renV.renL s l = some m → m.length = l.length ∧ ∀ (i : Nat) v, l[i]? = some v → ∃ u, renV s v = some u ∧ m[i]? = some u
  | [], m, h => by simp only [renV.renL, Option.some.injEq] at h; subst h; exact ⟨rfl, fun i v e => by simp at e⟩
  | x :: l, m, h => by
    simp only [renV.renL] at h
    split at h <;> try (cases h; done)
    rename_i y hy
    split at h <;> try (cases h; done)
    rename_i m' hm
    cases h
    obtain ⟨h1, h2⟩ := renL_get hm
    refine ⟨by simp [h1], fun i v e => ?_⟩
    cases i with
    | zero => simp at e; subst e; exact ⟨y, hy, by simp⟩
    | succ i => simp at e; obtain ⟨u, a, b⟩ := h2 i v e; exact ⟨u, a, by simpa using b⟩
mutual
theorem renV_flat (s : Nat → Option Nat) : ∀ (v : Value), flatV v = true → renV s v = some v
  | .bool b, _ => by simp [renV]
  | .int k n, _ => by simp [renV]
  | .string s, _ => by simp [renV]
  | .pointer none, _ => by simp [renV]
  | .pointer (some _), h => by simp [flatV] at h
  | .slice none 0 0, _ => by simp [renV]
  | .slice none 0 (_ + 1), h => by simp [flatV] at h
  | .slice none (_ + 1) _, h => by simp [flatV] at h
  | .slice (some _) _ _, h => by simp [flatV] at h
  | .nilFunc, _ => by simp [renV]
  | .nilIface, _ => by simp [renV]
  | .agg ⟨l⟩, h => by simp [renV, renL_flat s l (by simpa [flatV] using h)]
  | .tuple ⟨l⟩, h => by simp [renV, renL_flat s l (by simpa [flatV] using h)]
  | .iface t v, h => by simp [renV, renV_flat s v (by simpa [flatV] using h)]
  | .float .., h => by simp [flatV] at h
  | .complex .., h => by simp [flatV] at h
  | .map _, h => by simp [flatV] at h
  | .chan _, h => by simp [flatV] at h
  | .func .., h => by simp [flatV] at h
theorem renL_flat (s : Nat → Option Nat) : ∀ (l : List Value), flatV.flatL l = true → renV.renL s l = some l
  | [], _ => by simp [renV.renL]
  | v :: l, h => by
    simp only [flatV.flatL, Bool.and_eq_true] at h
    simp [renV.renL, renV_flat s v h.1, renL_flat s l h.2]
end
theorem CellsR.unren {s : Nat → Option Nat} {w : World} {l : Loc} {own own' : Bool} {cs cs' : List Value} (h : CellsR ρ w l own cs) (hs : renV.renL s cs' = some cs) (ho : own' = true → own = true) : CellsR (comp s ρ) w l own' cs' := by
  obtain ⟨h1, h2, h3⟩ := h
  obtain ⟨hl, hg⟩ := renL_get hs
  refine ⟨by omega, fun i v e => ?_, fun i hi => ⟨(h3 i hi).1, fun e => (h3 i hi).2 (ho e)⟩⟩
  obtain ⟨u, hu, hm⟩ := hg i v e
  obtain ⟨v', a, b⟩ := h2 i u hm
  exact ⟨v', a, VR.unren v hu b⟩
theorem ObjR.unren {s : Nat → Option Nat} {w : World} {l : Loc} {o o' : VObj} (h : ObjR P ρ w l o) (hs : OSub s o o') : ObjR P (comp s ρ) w l o' := by
  cases hs with
  | cells hc => exact CellsR.unren h hc id
  | cellsF hf => exact CellsR.unren h (renL_flat s _ hf) id
  | rowF hf ho => exact CellsR.unren h (renL_flat s _ hf) ho
  | row hc ho => exact CellsR.unren h hc ho
  | cr hc => exact CellsR.unren h hc (fun _ => rfl)
  | crF hf => exact CellsR.unren h (renL_flat s _ hf) (fun _ => rfl)
  | rc hc => exact CellsR.unren h hc id
  | ty hc => exact ⟨CellsR.unren h.1 hc id, h.2⟩
  | tyF hf => exact ⟨CellsR.unren h.1 (renL_flat s _ hf) id, h.2⟩
  | tr hc => exact CellsR.unren h.1 hc (fun _ => rfl)
  | trF hf => exact CellsR.unren h.1 (renL_flat s _ hf) (fun _ => rfl)
  | siter => exact h
  | marks => exact h
  | loop state pending fn nt env params asg body defers =>
    obtain ⟨⟨r', hw, hr⟩, hsh⟩ := h
    refine ⟨⟨r', hw, ⟨hr.state.trans state.symm, hr.fn.trans fn.symm, hr.size.trans nt.symm, hr.env.unren env, hr.params.trans params.symm, hr.asg.trans (by rw [asg]), hr.body.trans (by rw [body]), ?_, by rw [pending]; exact hr.pending⟩⟩, hsh⟩
    obtain ⟨lo, a, b⟩ := hr.defers
    exact ⟨lo, by rw [comp_some defers]; exact a, b⟩
theorem OSub.writable {s : Nat → Option Nat} {o o' : VObj} (h : OSub s o o') (hw : writable o' = true) : Vm.writable o = true := by
  cases h <;> first | rfl | (rename_i ho; exact ho hw)
def HSub (s : Nat → Option Nat) (H H' : Hp) : Prop := ∀ i o', aget H' i = some o' → ∃ j o, s i = some j ∧ aget H j = some o ∧ OSub s o o'
theorem HpR.unren {s : Nat → Option Nat} {H H' : Hp} {top top' : Nat} {w : World} (h : HpR P w0 (.of U) ρ H top w) (hs : HSub s H H') (hinj : ∀ i j k, s i = some k → s j = some k → i = j) (htop : ∀ i j, s i = some j → i < top') :
    HpR P w0 (.of U) (comp s ρ) H' top' w where
  obj i o' ho := by
    obtain ⟨j, o, hj, hoj, hos⟩ := hs i o' ho
    obtain ⟨l, hl, hr, hw⟩ := h.obj j o hoj
    exact ⟨l, by rw [comp_some hj]; exact hl, hr.unren hos, fun hwr => hw (hos.writable hwr)⟩
  dis i j oi oj li lj hij hi hj hli hlj hw := by
    obtain ⟨i', o1, hi', ho1, hs1⟩ := hs i oi hi
    obtain ⟨j', o2, hj', ho2, hs2⟩ := hs j oj hj
    rw [comp_some hi'] at hli
    rw [comp_some hj'] at hlj
    exact h.dis i' j' o1 o2 li lj (fun e => hij (hinj i j i' hi' (e ▸ hj'))) ho1 ho2 hli hlj (hs1.writable hw)
  lt i l e := by
    unfold comp at e
    split at e
    · rename_i j hj; have := h.lt j l e; exact .inr ⟨Nat.zero_le _, htop i j hj⟩
    · cases e
  keep := h.keep
structure Sub (base : Nat) (s : Nat → Option Nat) (v v' : VM) : Prop where
  cur : FSub s v.cur v'.cur
  up : All2 (FSub s) v.up v'.up
  heap : HSub s v.heap v'.heap
  inj : ∀ i j k, s i = some k → s j = some k → i = j
  top : ∀ i j, s i = some j → i < v'.top
  fix : ∀ i, i < base → s i = some i
theorem ups_unren {s : Nat → Option Nat} : ∀ {l m : List VFrame} {k : List Frame}, All2 (FSub s) l m → All2 (FrR P ρ) l k → All2 (FrR P (comp s ρ)) m k
  | _, _, _, .nil, .nil => .nil
  | _, _, _, .cons a t, .cons b u => .cons (b.unren a) (ups_unren t u)
theorem Leads.sub {f base : Nat} {vm vm' : VM} {R : Value → Hp → Nat → Prop} {s : Nat → Option Nat} (hs : Sub base s vm vm') (h : Leads P f base vm' R) : Leads P f base vm R := by
  refine ⟨fun w0 U ρ rf rfs w cs hr => ?_⟩
  obtain ⟨ρ', rv, fr', w', v, H, top, h1, h2, h3, h4, h5, h6, h7⟩ := h.get w0 U (comp s ρ) rf rfs w cs ⟨hr.cur.unren hs.cur, ups_unren hs.up hr.up, hr.heap.unren hs.heap hs.inj hs.top⟩
  exact ⟨ρ', rv, fr', w', v, H, top, h1, h2, h3, h4, h5, fun i l hi hl => h6 i l hi (by rw [comp_some (hs.fix i hi)]; exact hl), h7⟩
theorem Leads.next {f base : Nat} {vm vm' : VM} {R : Value → Hp → Nat → Prop} (hF : FnsOK P F) (hS : SumsOK P S) (hv : vstep F S vm = some vm') (h : Leads P f base vm' R) : Leads P f base vm R := by
  refine ⟨fun w0 U ρ rf rfs w cs hr => ?_⟩
  obtain ⟨ρ1, rf1, rfs1, w1, s1, r1, e1⟩ := stepSound hF hS hr hv cs
  obtain ⟨ρ', rv, fr', w', v, H, top, h1, h2, h3, h4, h5, h6, h7⟩ := h.get w0 U ρ1 rf1 rfs1 w1 cs r1
  exact ⟨ρ', rv, fr', w', v, H, top, s1.trans h1, h2, h3, h4, h5, fun i l hi hl => h6 i l hi (e1 _ _ hl), h7⟩
theorem Leads.mono {f base : Nat} {vm : VM} {R R' : Value → Hp → Nat → Prop} (h : Leads P f base vm R) (hR : ∀ v H t, R v H t → R' v H t) : Leads P f base vm R' := by
  refine ⟨fun w0 U ρ rf rfs w cs hr => ?_⟩
  obtain ⟨ρ', rv, fr', w', v, H, top, h1, h2, h3, h4, h5, h6, h7⟩ := h.get w0 U ρ rf rfs w cs hr
  exact ⟨ρ', rv, fr', w', v, H, top, h1, h2, h3, h4, h5, h6, hR _ _ _ h7⟩
theorem Leads.stop {f base : Nat} {nt : Nat} {e : Env} {k : List VItem} {r : Option Nat} {H : Hp} {top : Nat} {R : Value → Hp → Nat → Prop} (hF : FnsOK P F) {vf : VFn} (hf : F f = some vf) {vs : List Value} (hv : resVs e H vf.results = some vs) (h : R (tupV vs) H top) :
    Leads P f base ⟨⟨f, nt, e, k, [], true, r⟩, [], H, top⟩ R := by
  refine ⟨fun w0 U ρ rf rfs w cs hr => ?_⟩
  obtain ⟨hcur, hup, hheap⟩ := hr
  simp only at hup
  cases hup
  obtain ⟨fn, hfn, hcf⟩ := hF _ _ hf
  unfold compFn at hcf
  split at hcf <;> try (cases hcf; done)
  split at hcf <;> try (cases hcf; done)
  split at hcf <;> try (cases hcf; done)
  split at hcf <;> try (cases hcf; done)
  rename_i rs hrs
  cases hcf
  obtain ⟨v', hv', hrun⟩ := results_run hcur.env hheap hrs hv
  have hdn : rf.defers = [] := by
    have : All2 (DefR ρ) [] rf.defers := hcur.defers
    cases hx : rf.defers with
    | nil => rfl
    | cons => rw [hx] at this; cases this
  have hfe : rf.fn = f := hcur.fn
  exact ⟨ρ, v', rf, w, _, H, top, Steps.refl _ _, hfe, ⟨by rw [hcur.mode]; rfl, hdn, hcur.kind, fn, by rw [hfe]; exact hfn, hrun⟩, hv', hheap, fun _ _ _ h => h, h⟩
end
end Go.Vm
