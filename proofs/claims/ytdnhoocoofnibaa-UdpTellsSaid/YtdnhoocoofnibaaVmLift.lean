/- The engine, part 27: lifted functions: what the texts that a program prints (lift.py) rest on. -/
import Derived.Test.YtdnhoocoofnibaaVmLib
namespace Go.Vm
open Go Go.RowKit

/-! the lifted functions' words -/
abbrev wI (k : IntKind) (n : Int) : Int := IntKind.wrap k n
abbrev andI (k : IntKind) (a b : Int) : Int := IntKind.wrap k (BitVec.ofInt k.bits a &&& BitVec.ofInt k.bits b).toNat
abbrev iorI (k : IntKind) (a b : Int) : Int := IntKind.wrap k (BitVec.ofInt k.bits a ||| BitVec.ofInt k.bits b).toNat
abbrev ixorI (k : IntKind) (a b : Int) : Int := IntKind.wrap k (BitVec.ofInt k.bits a ^^^ BitVec.ofInt k.bits b).toNat
abbrev andnI (k : IntKind) (a b : Int) : Int := IntKind.wrap k (BitVec.ofInt k.bits a &&& ~~~ BitVec.ofInt k.bits b).toNat
abbrev cmplI (k : IntKind) (a : Int) : Int := IntKind.wrap k (BitVec.ofInt k.bits (if k.signed then -1 else k.max) ^^^ BitVec.ofInt k.bits a).toNat

def oreq {α : Type} (b : Bool) (x : Option α) : Option α := match b with | true => x | false => none
theorem oreq.elim {α : Type} {b : Bool} {x : Option α} {r : α} (h : oreq b x = some r) : b = true ∧ x = some r := by cases b; cases h; exact ⟨rfl, h⟩
theorem oreq.mk {α : Type} {b : Bool} {x : Option α} (h : b = true) : oreq b x = x := by subst h; rfl
theorem obind.elim {α β : Type} {x : Option α} {F : α → Option β} {r : β} (h : x.bind F = some r) : ∃ a, x = some a ∧ F a = some r := by cases x with | none => cases h | some a => exact ⟨a, rfl, h⟩

/-- how often a loop may go round -/
def FUEL : Nat := 2 ^ 64
def iter {σ ρ : Type} (f : σ → Option (Sum σ ρ)) : Nat → σ → Option ρ
  | 0, _ => none
  | n + 1, s => match f s with
    | none => none
    | some (.inl s') => iter f n s'
    | some (.inr r) => some r

theorem iter_leads {σ ρ : Type} {P : Program} {f base : Nat} {R : Value → Hp → Nat → Prop} {step : σ → Option (Sum σ ρ)} {head : σ → VM} {C : ρ → Prop}
    (h : ∀ s o, step s = some o → Sum.elim (fun s' => Leads P f base (head s') R) C o → Leads P f base (head s) R) :
    ∀ n s r, iter step n s = some r → C r → Leads P f base (head s) R
  | 0, _, _, e, _ => by cases e
  | n + 1, s, r, e, hc => by
    rw [iter] at e
    split at e
    · cases e
    · rename_i s' hs
      exact h s _ hs (iter_leads h n s' r e hc)
    · rename_i r' hs
      cases e
      exact h s _ hs hc

/-! rows of one kind -/
def vI (k : IntKind) (xs : List Int) : List Value := xs.map (Value.int k)
def vB (xs : List Bool) : List Value := xs.map Value.bool
def vS (xs : List (List UInt8)) : List Value := xs.map fun s => Value.string ⟨⟨s⟩⟩
def bI (l : List UInt8) : List Int := l.map fun b => (b.toNat : Int)
def iB (xs : List Int) : List UInt8 := xs.map fun n => UInt8.ofNat n.toNat

@[simp] theorem vI_len (k : IntKind) (xs : List Int) : (vI k xs).length = xs.length := List.length_map _
@[simp] theorem vB_len (xs : List Bool) : (vB xs).length = xs.length := List.length_map _
@[simp] theorem vS_len (xs : List (List UInt8)) : (vS xs).length = xs.length := List.length_map _
@[simp] theorem bI_len (l : List UInt8) : (bI l).length = l.length := List.length_map _
@[simp] theorem iB_len (l : List Int) : (iB l).length = l.length := List.length_map _
theorem vI_flat (k : IntKind) (xs : List Int) : flatV.flatL (vI k xs) = true := flatL_map (fun _ => rfl) xs
theorem vB_flat (xs : List Bool) : flatV.flatL (vB xs) = true := flatL_map (fun _ => rfl) xs
theorem vS_flat (xs : List (List UInt8)) : flatV.flatL (vS xs) = true := flatL_map (fun _ => rfl) xs
theorem vI_one (k : IntKind) : ∀ (xs : List Int), (vI k xs).all oneC = true
  | [] => rfl
  | _ :: xs => by simp only [vI, List.map_cons, List.all_cons, oneC, Bool.true_and]; exact vI_one k xs
theorem vB_one : ∀ (xs : List Bool), (vB xs).all oneC = true
  | [] => rfl
  | _ :: xs => by simp only [vB, List.map_cons, List.all_cons, oneC, Bool.true_and]; exact vB_one xs
theorem vS_one : ∀ (xs : List (List UInt8)), (vS xs).all oneC = true
  | [] => rfl
  | _ :: xs => by simp only [vS, List.map_cons, List.all_cons, oneC, Bool.true_and]; exact vS_one xs
theorem ofBytes_vI (l : List UInt8) : ofBytes l = vI .u8 (bI l) := by simp [ofBytes, vI, bI, List.map_map]
theorem toBytes_vI : ∀ (xs : List Int), toBytes (vI .u8 xs) = some (iB xs)
  | [] => rfl
  | x :: xs => by simp only [vI, List.map_cons, toBytes]; rw [show toBytes (xs.map (Value.int .u8)) = _ from toBytes_vI xs]; rfl

theorem vI_set (k : IntKind) (xs : List Int) (i : Nat) (x : Int) : (vI k xs).set i (.int k x) = vI k (xs.set i x) := by simp [vI, List.map_set]
theorem vB_set (xs : List Bool) (i : Nat) (x : Bool) : (vB xs).set i (.bool x) = vB (xs.set i x) := by simp [vB, List.map_set]
theorem vS_set (xs : List (List UInt8)) (i : Nat) (x : List UInt8) : (vS xs).set i (.string ⟨⟨x⟩⟩) = vS (xs.set i x) := by simp [vS, List.map_set]
theorem vI_drop (k : IntKind) (xs : List Int) (n : Nat) : (vI k xs).drop n = vI k (xs.drop n) := by simp [vI, List.map_drop]
theorem vI_take (k : IntKind) (xs : List Int) (n : Nat) : (vI k xs).take n = vI k (xs.take n) := by simp [vI, List.map_take]
theorem vB_drop (xs : List Bool) (n : Nat) : (vB xs).drop n = vB (xs.drop n) := by simp [vB, List.map_drop]
theorem vB_take (xs : List Bool) (n : Nat) : (vB xs).take n = vB (xs.take n) := by simp [vB, List.map_take]
theorem vS_drop (xs : List (List UInt8)) (n : Nat) : (vS xs).drop n = vS (xs.drop n) := by simp [vS, List.map_drop]
theorem vS_take (xs : List (List UInt8)) (n : Nat) : (vS xs).take n = vS (xs.take n) := by simp [vS, List.map_take]
theorem vI_app (k : IntKind) (xs ys : List Int) : vI k xs ++ vI k ys = vI k (xs ++ ys) := by simp [vI]
theorem vB_app (xs ys : List Bool) : vB xs ++ vB ys = vB (xs ++ ys) := by simp [vB]
theorem vS_app (xs ys : List (List UInt8)) : vS xs ++ vS ys = vS (xs ++ ys) := by simp [vS]

/-! one stop of the evaluator each, beside the lifted function's own -/
theorem br.h {α : Type} {b b' : Bool} {X Y : Option α} {r : α} {p q : Prop} (h : cond b' X Y = some r) (e : b = b') (k1 : b' = true → X = some r → p) (k2 : b' = false → Y = some r → q) : br b p q := by
  subst e; cases b; exact k2 rfl h; exact k1 rfl h
theorem cond_t {α : Type} {b : Bool} {X Y : Option α} {r : α} (h : cond b X Y = some r) (e : b = true) : X = some r := by subst e; exact h
theorem cond_f {α : Type} {b : Bool} {X Y : Option α} {r : α} (h : cond b X Y = some r) (e : b = false) : Y = some r := by subst e; exact h

theorem rd.I {k : IntKind} {xs : List Int} {o i : Nat} {x : Int} {K : Value → Prop} (hx : xs[i]? = some x) (e : o = i) (h : forceV (.int k x) K) : rd (vI k xs) o K := by
  subst e; exact rd.intro (v := .int k x) (by simp [vI, hx]) h
theorem rd.B {xs : List Bool} {o i : Nat} {x : Bool} {K : Value → Prop} (hx : xs[i]? = some x) (e : o = i) (h : forceV (.bool x) K) : rd (vB xs) o K := by
  subst e; exact rd.intro (v := .bool x) (by simp [vB, hx]) h
theorem rd.S {xs : List (List UInt8)} {o i : Nat} {x : List UInt8} {K : Value → Prop} (hx : xs[i]? = some x) (e : o = i) (h : forceV (.string ⟨⟨x⟩⟩) K) : rd (vS xs) o K := by
  subst e; exact rd.intro (v := .string ⟨⟨x⟩⟩) (by simp [vS, hx]) h

theorem req_stI {k : IntKind} {xs : List Int} {o i : Nat} {x : Int} (hb : decide (i < xs.length) = true) (e : o = i) : (decide ((cellsL (.int k x)).length = 1 ∧ o + 1 ≤ (vI k xs).length) && (cellsL (.int k x)).all oneC) = true := by
  subst e; have := of_decide_eq_true hb; simp [cellsL, Value.cells, oneC]; omega
theorem req_stB {xs : List Bool} {o i : Nat} {x : Bool} (hb : decide (i < xs.length) = true) (e : o = i) : (decide ((cellsL (.bool x)).length = 1 ∧ o + 1 ≤ (vB xs).length) && (cellsL (.bool x)).all oneC) = true := by
  subst e; have := of_decide_eq_true hb; simp [cellsL, Value.cells, oneC]; omega
theorem req_stS {xs : List (List UInt8)} {o i : Nat} {x : List UInt8} (hb : decide (i < xs.length) = true) (e : o = i) : (decide ((cellsL (.string ⟨⟨x⟩⟩)).length = 1 ∧ o + 1 ≤ (vS xs).length) && (cellsL (.string ⟨⟨x⟩⟩)).all oneC) = true := by
  subst e; have := of_decide_eq_true hb; simp [cellsL, Value.cells, oneC]; omega

theorem pk_stI {k : IntKind} {xs : List Int} {o i : Nat} {x : Int} {K : List Value → Prop} (e : o = i) (h : K (vI k (xs.set i x))) : ∃ cs', setAt (vI k xs) o (cellsL (.int k x)) = cs' ∧ K cs' :=
  ⟨_, by subst e; exact vI_set k xs o x, h⟩
theorem pk_stB {xs : List Bool} {o i : Nat} {x : Bool} {K : List Value → Prop} (e : o = i) (h : K (vB (xs.set i x))) : ∃ cs', setAt (vB xs) o (cellsL (.bool x)) = cs' ∧ K cs' :=
  ⟨_, by subst e; exact vB_set xs o x, h⟩
theorem pk_stS {xs : List (List UInt8)} {o i : Nat} {x : List UInt8} {K : List Value → Prop} (e : o = i) (h : K (vS (xs.set i x))) : ∃ cs', setAt (vS xs) o (cellsL (.string ⟨⟨x⟩⟩)) = cs' ∧ K cs' :=
  ⟨_, by subst e; exact vS_set xs o x, h⟩
theorem pk_any {l : List Value} {K : List Value → Prop} (h : K l) : ∃ cs', l = cs' ∧ K cs' := ⟨_, rfl, h⟩
theorem pk_mkI {k : IntKind} {n : Nat} {z : Int} {K : List Value → Prop} (h : K (vI k (List.replicate n z))) : ∃ cs', (List.replicate n [Value.int k z]).flatten = cs' ∧ K cs' :=
  ⟨_, by simp [vI, List.flatten_replicate_singleton], h⟩
theorem pk_mkB {n : Nat} {z : Bool} {K : List Value → Prop} (h : K (vB (List.replicate n z))) : ∃ cs', (List.replicate n [Value.bool z]).flatten = cs' ∧ K cs' :=
  ⟨_, by simp [vB, List.flatten_replicate_singleton], h⟩
theorem pk_mkS {n : Nat} {z : List UInt8} {K : List Value → Prop} (h : K (vS (List.replicate n z))) : ∃ cs', (List.replicate n [Value.string ⟨⟨z⟩⟩]).flatten = cs' ∧ K cs' :=
  ⟨_, by simp [vS, List.flatten_replicate_singleton], h⟩
theorem pk_s2b {l : List UInt8} {K : List Value → Prop} (h : K (vI .u8 (bI l))) : ∃ cs', ofBytes l = cs' ∧ K cs' := ⟨_, ofBytes_vI l, h⟩

/-- bytes of a row -/
theorem pk_b2s {xs : List Int} {o n : Nat} {K : List UInt8 → Prop} (h : K (iB ((xs.drop o).take n))) : ∃ bs, toBytes (((vI .u8 xs).drop o).take n) = some bs ∧ K bs :=
  ⟨_, by rw [vI_drop, vI_take]; exact toBytes_vI _, h⟩
/-- the bytes of a whole row -/
theorem pk_b2sA {xs : List Int} {o n : Nat} {K : List UInt8 → Prop} (h0 : o = 0) (hn : xs.length ≤ n) (h : K (iB xs)) : ∃ bs, toBytes (((vI .u8 xs).drop o).take n) = some bs ∧ K bs := by
  subst h0; exact ⟨_, by rw [List.drop_zero, List.take_of_length_le (by simpa using hn)]; exact toBytes_vI _, h⟩
theorem pk_b2sL {l : List Value} {bs : List UInt8} {K : List UInt8 → Prop} (e : toBytes l = some bs) (h : K bs) : ∃ bs, toBytes l = some bs ∧ K bs := ⟨_, e, h⟩

/-! appending -/
theorem pk_ap0I {k : IntKind} {new : List Value} {m : Nat} {ys : List Int} {K : List Value → Nat → Prop} (e : new = vI k ys) (em : m = ys.length) (h : K (vI k ys) ys.length) : ∃ cs' n', new = cs' ∧ m = n' ∧ K cs' n' := ⟨_, _, e, em, h⟩
theorem pk_ap0B {new : List Value} {m : Nat} {ys : List Bool} {K : List Value → Nat → Prop} (e : new = vB ys) (em : m = ys.length) (h : K (vB ys) ys.length) : ∃ cs' n', new = cs' ∧ m = n' ∧ K cs' n' := ⟨_, _, e, em, h⟩
theorem pk_ap0S {new : List Value} {m : Nat} {ys : List (List UInt8)} {K : List Value → Nat → Prop} (e : new = vS ys) (em : m = ys.length) (h : K (vS ys) ys.length) : ∃ cs' n', new = cs' ∧ m = n' ∧ K cs' n' := ⟨_, _, e, em, h⟩
theorem pk_apI {k : IntKind} {new : List Value} {xs : List Int} {o c n m : Nat} {ys : List Int} {K : List Value → Nat → Prop} (e : new = vI k ys) (h0 : o = 0) (hc : c = xs.length) (hn : n + m = (xs ++ ys).length) (h : K (vI k (xs ++ ys)) (xs ++ ys).length) :
    ∃ cs' n', ((vI k xs).drop o).take c ++ new = cs' ∧ n + m = n' ∧ K cs' n' :=
  ⟨_, _, by subst h0; rw [List.drop_zero, List.take_of_length_le (by simp [hc]), e, vI_app], hn, h⟩
theorem pk_apB {new : List Value} {xs : List Bool} {o c n m : Nat} {ys : List Bool} {K : List Value → Nat → Prop} (e : new = vB ys) (h0 : o = 0) (hc : c = xs.length) (hn : n + m = (xs ++ ys).length) (h : K (vB (xs ++ ys)) (xs ++ ys).length) :
    ∃ cs' n', ((vB xs).drop o).take c ++ new = cs' ∧ n + m = n' ∧ K cs' n' :=
  ⟨_, _, by subst h0; rw [List.drop_zero, List.take_of_length_le (by simp [hc]), e, vB_app], hn, h⟩
theorem pk_apS {new : List Value} {xs : List (List UInt8)} {o c n m : Nat} {ys : List (List UInt8)} {K : List Value → Nat → Prop} (e : new = vS ys) (h0 : o = 0) (hc : c = xs.length) (hn : n + m = (xs ++ ys).length) (h : K (vS (xs ++ ys)) (xs ++ ys).length) :
    ∃ cs' n', ((vS xs).drop o).take c ++ new = cs' ∧ n + m = n' ∧ K cs' n' :=
  ⟨_, _, by subst h0; rw [List.drop_zero, List.take_of_length_le (by simp [hc]), e, vS_app], hn, h⟩

/-! rows of structures -/
def vT {α : Type} (f : α → List Value) (xs : List α) : List Value := xs.flatMap f
section
variable {α : Type} {f : α → List Value} {c : Nat}
theorem vT_len (hf : ∀ x, (f x).length = c) (xs : List α) : (vT f xs).length = xs.length * c := by
  induction xs with
  | nil => simp [vT]
  | cons x xs ih =>
    have : vT f (x :: xs) = f x ++ vT f xs := rfl
    rw [this, List.length_append, hf, ih, List.length_cons, Nat.succ_mul]; omega
theorem vT_flat (hf : ∀ x, flatV.flatL (f x) = true) (xs : List α) : flatV.flatL (vT f xs) = true := by
  have app : ∀ a b : List Value, flatV.flatL a = true → flatV.flatL b = true → flatV.flatL (a ++ b) = true := by
    intro a b ha hb
    induction a with
    | nil => exact hb
    | cons v a ih => simp only [flatV.flatL, Bool.and_eq_true, List.cons_append] at ha ⊢; exact ⟨ha.1, ih ha.2⟩
  induction xs with
  | nil => rfl
  | cons x xs ih => exact app _ _ (hf x) ih
theorem vT_one (hf : ∀ x, (f x).all oneC = true) (xs : List α) : (vT f xs).all oneC = true := by
  induction xs with
  | nil => rfl
  | cons x xs ih => have : vT f (x :: xs) = f x ++ vT f xs := rfl; rw [this, List.all_append, hf, ih]; rfl
theorem vT_app (xs ys : List α) : vT f xs ++ vT f ys = vT f (xs ++ ys) := by simp [vT]
theorem vT_drop (hf : ∀ x, (f x).length = c) (xs : List α) (n : Nat) : (vT f xs).drop (n * c) = vT f (xs.drop n) := by
  induction xs generalizing n with
  | nil => simp [vT]
  | cons x xs ih =>
    cases n with
    | zero => simp
    | succ n =>
      have : vT f (x :: xs) = f x ++ vT f xs := rfl
      rw [this, List.drop_succ_cons, Nat.succ_mul, Nat.add_comm, List.drop_append, hf, List.drop_eq_nil_of_le (by rw [hf]; omega), List.nil_append, show c + n * c - c = n * c by omega, ih]
theorem vT_take (hf : ∀ x, (f x).length = c) (xs : List α) (n : Nat) : (vT f xs).take (n * c) = vT f (xs.take n) := by
  induction xs generalizing n with
  | nil => simp [vT]
  | cons x xs ih =>
    cases n with
    | zero => simp [vT]
    | succ n =>
      have : vT f (x :: xs) = f x ++ vT f xs := rfl
      have h2 : vT f ((x :: xs).take (n + 1)) = f x ++ vT f (xs.take n) := rfl
      rw [this, h2, Nat.succ_mul, Nat.add_comm, List.take_append, hf, List.take_of_length_le (by rw [hf]; omega), show c + n * c - c = n * c by omega, ih]
theorem vT_get (hf : ∀ x, (f x).length = c) {xs : List α} {i j : Nat} {x : α} (hx : xs[i]? = some x) (hj : j < c) : (vT f xs)[i * c + j]? = (f x)[j]? := by
  induction xs generalizing i with
  | nil => simp at hx
  | cons y xs ih =>
    have : vT f (y :: xs) = f y ++ vT f xs := rfl
    rw [this]
    cases i with
    | zero =>
      simp at hx; subst hx
      rw [Nat.zero_mul, Nat.zero_add, List.getElem?_append_left (by rw [hf]; exact hj)]
    | succ i =>
      rw [List.getElem?_append_right (by rw [hf, Nat.succ_mul]; omega), hf, show (i + 1) * c + j - c = i * c + j by rw [Nat.succ_mul]; omega]
      exact ih (by simpa using hx)
theorem vT_set (hf : ∀ x, (f x).length = c) {xs : List α} {i j : Nat} {x x' : α} {v : Value} (hx : xs[i]? = some x) (hj : j < c) (hs : (f x).set j v = f x') : (vT f xs).set (i * c + j) v = vT f (xs.set i x') := by
  induction xs generalizing i with
  | nil => simp at hx
  | cons y xs ih =>
    have : vT f (y :: xs) = f y ++ vT f xs := rfl
    rw [this]
    cases i with
    | zero =>
      simp at hx; subst hx
      rw [Nat.zero_mul, Nat.zero_add, List.set_append_left _ _ (by rw [hf]; exact hj), hs]; rfl
    | succ i =>
      rw [List.set_append_right _ _ (by rw [hf, Nat.succ_mul]; omega), hf, show (i + 1) * c + j - c = i * c + j by rw [Nat.succ_mul]; omega, ih (by simpa using hx)]; rfl
theorem setAt_app {α : Type} : ∀ (vs a b : List α) (q : Nat), setAt (a ++ b) (a.length + q) vs = a ++ setAt b q vs
  | [], a, b, q => rfl
  | v :: vs, a, b, q => by
    rw [setAt, setAt, List.set_append_right _ _ (by omega), show a.length + q - a.length = q by omega, show a.length + q + 1 = a.length + (q + 1) by omega, setAt_app vs a (b.set q v) (q + 1)]
theorem setAt_all : ∀ (vs a b : List Value), vs.length = a.length → setAt (a ++ b) 0 vs = vs ++ b := by
  intro vs a b h
  have gen : ∀ (vs p a b : List Value), vs.length = a.length → setAt (p ++ (a ++ b)) p.length vs = p ++ (vs ++ b) := by
    intro vs
    induction vs with
    | nil => intro p a b h; cases a with
      | nil => rfl
      | cons => simp at h
    | cons v vs ih =>
      intro p a b h
      cases a with
      | nil => simp at h
      | cons u a =>
        rw [setAt]
        have e : (p ++ (u :: a ++ b)).set p.length v = (p ++ [v]) ++ (a ++ b) := by
          rw [List.set_append_right _ _ (Nat.le_refl _)]; simp
        rw [e]
        have := ih (p ++ [v]) a b (by simpa using h)
        rw [List.length_append, List.length_singleton] at this
        rw [this]; simp
  simpa using gen vs [] a b h
theorem vT_setN (hf : ∀ x, (f x).length = c) {xs : List α} {i : Nat} {x' : α} {vs : List Value} (hi : i < xs.length) (hs : vs = f x') : setAt (vT f xs) (i * c) vs = vT f (xs.set i x') := by
  subst hs
  induction xs generalizing i with
  | nil => simp at hi
  | cons y xs ih =>
    have : vT f (y :: xs) = f y ++ vT f xs := rfl
    rw [this]
    cases i with
    | zero =>
      rw [Nat.zero_mul, setAt_all _ _ _ (by rw [hf, hf])]; rfl
    | succ i =>
      rw [Nat.succ_mul, Nat.add_comm, show c + i * c = (f y).length + i * c by rw [hf], setAt_app, ih (by simpa using hi)]; rfl

/-- a cell of an element -/
theorem rd.T (hf : ∀ x, (f x).length = c) {xs : List α} {o i j : Nat} {x : α} {v : Value} {K : Value → Prop} (hx : xs[i]? = some x) (e : o = i * c + j) (hj : j < c) (hv : (f x)[j]? = some v) (h : forceV v K) : rd (vT f xs) o K := by
  subst e; exact rd.intro (by rw [vT_get hf hx hj]; exact hv) h
theorem rdN_of {cs : List Value} : ∀ {l : List Value} {o : Nat} {K : List Value → Prop}, (∀ (j : Nat) v, l[j]? = some v → cs[o + j]? = some v) → K l → rdN cs o l.length K
  | [], o, K, _, h => h
  | v :: l, o, K, hc, h => by
    rw [List.length_cons, rdN]
    refine rd.intro (by simpa using hc 0 v rfl) ?_
    rw [forceV_eq]
    exact rdN_of (l := l) (fun j u hj => by rw [show o + 1 + j = o + (j + 1) by omega]; exact hc (j + 1) u (by simpa using hj)) h
/-- an element as a whole -/
theorem ld_T (hf : ∀ x, (f x).length = c) {xs : List α} {o i n : Nat} {x : α} {K : List Value → Prop} (hx : xs[i]? = some x) (e : o = i * c) (hn : n = c) (h : forceL (f x) K) : req (decide (o + n ≤ (vT f xs).length)) (rdN (vT f xs) o n K) := by
  subst e hn
  have hlt : i < xs.length := (List.getElem?_eq_some_iff.1 hx).1
  refine req.intro ?_ ?_
  · rw [vT_len hf, decide_eq_true_eq]
    have := Nat.mul_le_mul_right n (show i + 1 ≤ xs.length by omega)
    rw [Nat.succ_mul] at this; exact this
  · rw [forceL_eq] at h
    have := rdN_of (cs := vT f xs) (l := f x) (o := i * n) (K := K) (fun j v hj => by
      have hj' : j < n := by rw [← hf x]; exact (List.getElem?_eq_some_iff.1 hj).1
      rw [vT_get hf hx hj']; exact hj) h
    rwa [hf] at this
/-- a cell of an element is stored -/
theorem st_T {xs : List α} {o i j : Nat} {x x' : α} {v : Value} {K : List Value → Prop} (hf : ∀ x, (f x).length = c) (hx : xs[i]? = some x) (e : o = i * c + j) (hj : j < c) (h1 : cellsL v = [v] ∧ oneC v = true) (hs : (f x).set j v = f x') (h : K (vT f (xs.set i x'))) :
    req (decide ((cellsL v).length = 1 ∧ o + 1 ≤ (vT f xs).length) && (cellsL v).all oneC) (∃ cs', setAt (vT f xs) o (cellsL v) = cs' ∧ K cs') := by
  subst e
  have hlt : i < xs.length := (List.getElem?_eq_some_iff.1 hx).1
  have hle := Nat.mul_le_mul_right c (show i + 1 ≤ xs.length by omega)
  rw [Nat.succ_mul] at hle
  refine req.intro ?_ ⟨_, ?_, h⟩
  · rw [vT_len hf, h1.1]; simp [h1.2]; omega
  · rw [h1.1]; exact vT_set hf hx hj hs
/-- an element is stored -/
theorem st_TN {xs : List α} {o i n : Nat} {x' : α} {vs : List Value} {K : List Value → Prop} (hf : ∀ x, (f x).length = c) (hb : decide (i < xs.length) = true) (e : o = i * c) (hn : n = c) (hs : vs = f x') (ho : (f x').all oneC = true) (h : K (vT f (xs.set i x'))) :
    req (decide ((cellsL (.agg ⟨vs⟩)).length = n ∧ o + n ≤ (vT f xs).length) && (cellsL (.agg ⟨vs⟩)).all oneC) (∃ cs', setAt (vT f xs) o (cellsL (.agg ⟨vs⟩)) = cs' ∧ K cs') := by
  have hlt := of_decide_eq_true hb
  subst e hn
  have hle := Nat.mul_le_mul_right n (show i + 1 ≤ xs.length by omega)
  rw [Nat.succ_mul] at hle
  have hc : cellsL (.agg ⟨vs⟩) = vs := rfl
  refine req.intro ?_ ⟨_, ?_, h⟩
  · rw [vT_len hf, hc, hs, hf, ho]; simp; omega
  · rw [hc]; exact vT_setN hf hlt hs
theorem pk_mkT {n : Nat} {z : List Value} {x : α} (hz : z = f x) {K : List Value → Prop} (h : K (vT f (List.replicate n x))) : ∃ cs', (List.replicate n z).flatten = cs' ∧ K cs' :=
  ⟨_, by subst hz; simp [vT, List.flatMap_replicate], h⟩
theorem pk_ap0T {new : List Value} {m : Nat} {ys : List α} {K : List Value → Nat → Prop} (e : new = vT f ys) (em : m = ys.length) (h : K (vT f ys) ys.length) : ∃ cs' n', new = cs' ∧ m = n' ∧ K cs' n' := ⟨_, _, e, em, h⟩
theorem pk_apT (hf : ∀ x, (f x).length = c) {new : List Value} {xs : List α} {o k n m : Nat} {ys : List α} {K : List Value → Nat → Prop} (e : new = vT f ys) (h0 : o = 0) (hc : k = xs.length * c) (hn : n + m = (xs ++ ys).length) (h : K (vT f (xs ++ ys)) (xs ++ ys).length) :
    ∃ cs' n', ((vT f xs).drop o).take k ++ new = cs' ∧ n + m = n' ∧ K cs' n' :=
  ⟨_, _, by subst h0; rw [List.drop_zero, List.take_of_length_le (by rw [vT_len hf, hc]; omega), e, vT_app], hn, h⟩
def unT (sz : Nat) (un : List Value → Option α) : Nat → List Value → Option (List α)
  | 0, [] => some []
  | 0, _ :: _ => none
  | _ + 1, [] => some []
  | n + 1, v :: cs => match un ((v :: cs).take sz) with
    | some x => match unT sz un n ((v :: cs).drop sz) with
      | some xs => some (x :: xs)
      | none => none
    | none => none
theorem unT_vT {un : List Value → Option α} (hf : ∀ x, (f x).length = c) (h0 : 0 < c) (hu : ∀ x, un (f x) = some x) : ∀ (xs : List α) (n : Nat), xs.length ≤ n → unT c un n (vT f xs) = some xs
  | [], 0, _ => rfl
  | [], n + 1, _ => rfl
  | x :: xs, 0, h => by simp at h
  | x :: xs, n + 1, h => by
    have e : vT f (x :: xs) = f x ++ vT f xs := rfl
    obtain ⟨v, l, hv⟩ : ∃ v l, vT f (x :: xs) = v :: l := by
      cases hx : f x with
      | nil => have := hf x; rw [hx] at this; simp at this; omega
      | cons v l => exact ⟨v, l ++ vT f xs, by rw [e, hx]; rfl⟩
    rw [hv, unT, ← hv, e, List.take_append_of_le_length (by rw [hf]; exact Nat.le_refl _), List.take_of_length_le (by rw [hf]; exact Nat.le_refl _), hu, List.drop_append, hf, List.drop_eq_nil_of_le (by rw [hf]; exact Nat.le_refl _), Nat.sub_self, List.drop_zero, List.nil_append, unT_vT hf h0 hu xs n (by simpa using h)]
theorem unT_eq {un : List Value → Option α} (hu : ∀ cs x, un cs = some x → cs = f x) : ∀ {n : Nat} {cs : List Value} {xs : List α}, unT c un n cs = some xs → cs = vT f xs
  | 0, [], xs, h => by simp only [unT, Option.some.injEq] at h; subst h; rfl
  | 0, _ :: _, xs, h => by simp [unT] at h
  | n + 1, [], xs, h => by simp only [unT, Option.some.injEq] at h; subst h; rfl
  | n + 1, v :: cs, xs, h => by
    simp only [unT] at h
    split at h <;> try (cases h; done)
    rename_i x hx
    split at h <;> cases h
    rename_i ys hys
    have e1 := hu _ _ hx
    have e2 := unT_eq hu hys
    have : vT f (x :: ys) = f x ++ vT f ys := rfl
    rw [this, ← e1, ← e2, List.take_append_drop]
/-- the list of a row of structures -/
def unR (sz : Nat) (un : List Value → Option α) (cs : List Value) : Option (List α) := unT sz un cs.length cs
theorem unR_vT {un : List Value → Option α} (hf : ∀ x, (f x).length = c) (h0 : 0 < c) (hu : ∀ x, un (f x) = some x) (xs : List α) : unR c un (vT f xs) = some xs :=
  unT_vT hf h0 hu xs _ (by rw [vT_len hf]; exact Nat.le_mul_of_pos_right _ h0)
end
/-! a call by its summary -/
theorem sumRun_of {s : Summ} {vals aqs : List Value} {os : List (Option VObj)} {h h1 h2 : Hp} {top n m t' : Nat} {ws : List Wd} {r : SRes} {v' : Value} (e1 : readArgs h 0 s.modes vals = some (aqs, os)) (ew : winL h s.modes vals = ws) {cw : List (Option (List Value))} (ec : conts os = cw) (e2 : s.run aqs cw = some r) (e3 : apartB ws = true)
    (hn : r.new.length = n) (hm : emps ws = m) (ht : top + n + m = t') (e4 : wback h (numR top n ws) ws r.wr = some h1) (e5 : addNew h1 (numR top n ws) top r.new = some h2) (e6 : renV (numR top n ws) r.v = some v') : sumRun s vals h top = some (v', addEmp h2 (top + n) m, t') := by
  subst hn hm ht ec
  simp only [sumRun, e1, e2, ew, e3, e4, e5, e6]
theorem ra_nil {h : Hp} {k : Nat} : readArgs h k [] [] = some ([], []) := rfl
theorem ra_cons {h : Hp} {k k' : Nat} {m : Md} {ms : List Md} {v a : Value} {vs aqs : List Value} {os os' : List (Option VObj)} (e : readArg h k m v = some (a, os)) (hk : k + os.length = k') (t : readArgs h k' ms vs = some (aqs, os')) : readArgs h k (m :: ms) (v :: vs) = some (a :: aqs, os ++ os') := by
  subst hk
  simp only [readArgs, e, t]
theorem ra_sl {h : Hp} {k b o n m sz sz' : Nat} {ob : VObj} {cs cs' : List Value} (ho : aget h b = some ob) (hc : ob.cs = some cs) (hs : sz = sz') (en : n = m) (hle : o + n * sz ≤ cs.length) (e : (cs.drop o).take (n * sz) = cs') (hf : flatV.flatL cs' = true) :
    readArg h k (.sl sz) (.slice (some ⟨b, o, none⟩) n sz') = some (.slice (some ⟨k, 0, none⟩) m sz, [some (.row false cs')]) := by
  subst hs en e
  simp only [readArg, ho, hc, hle, hf, ↓reduceIte]
theorem ra_slI {h : Hp} {b o n i m sz kk : Nat} {k : IntKind} {own : Bool} {xs : List Int} (ho : aget h b = some (.row own (vI k xs))) (hs : sz = 1) (e0 : o = i) (en : n = m) (hle : i + m ≤ xs.length) : readArg h kk (.sl 1) (.slice (some ⟨b, o, none⟩) n sz) = some (.slice (some ⟨kk, 0, none⟩) m 1, [some (.row false (vI k ((xs.drop i).take m)))]) := by
  subst hs e0 en
  exact ra_sl ho rfl rfl rfl (by simp; omega) (by rw [vI_drop, vI_take, Nat.mul_one]) (vI_flat _ _)
theorem ra_slS {h : Hp} {b o n i m sz kk : Nat} {own : Bool} {xs : List (List UInt8)} (ho : aget h b = some (.row own (vS xs))) (hs : sz = 1) (e0 : o = i) (en : n = m) (hle : i + m ≤ xs.length) : readArg h kk (.sl 1) (.slice (some ⟨b, o, none⟩) n sz) = some (.slice (some ⟨kk, 0, none⟩) m 1, [some (.row false (vS ((xs.drop i).take m)))]) := by
  subst hs e0 en
  exact ra_sl ho rfl rfl rfl (by simp; omega) (by rw [vS_drop, vS_take, Nat.mul_one]) (vS_flat _)
theorem ra_slB {h : Hp} {b o n i m sz kk : Nat} {own : Bool} {xs : List Bool} (ho : aget h b = some (.row own (vB xs))) (hs : sz = 1) (e0 : o = i) (en : n = m) (hle : i + m ≤ xs.length) : readArg h kk (.sl 1) (.slice (some ⟨b, o, none⟩) n sz) = some (.slice (some ⟨kk, 0, none⟩) m 1, [some (.row false (vB ((xs.drop i).take m)))]) := by
  subst hs e0 en
  exact ra_sl ho rfl rfl rfl (by simp; omega) (by rw [vB_drop, vB_take, Nat.mul_one]) (vB_flat _)
/-- a whole row -/
theorem ra_allI {h : Hp} {b o n sz kk : Nat} {k : IntKind} {own : Bool} {xs : List Int} (ho : aget h b = some (.row own (vI k xs))) (hs : sz = 1) (e0 : o = 0) (en : n = xs.length) : readArg h kk (.sl 1) (.slice (some ⟨b, o, none⟩) n sz) = some (.slice (some ⟨kk, 0, none⟩) xs.length 1, [some (.row false (vI k xs))]) := by
  have := ra_slI (kk := kk) (i := 0) (m := xs.length) ho hs e0 en (by omega)
  simpa using this
theorem ra_allS {h : Hp} {b o n sz kk : Nat} {own : Bool} {xs : List (List UInt8)} (ho : aget h b = some (.row own (vS xs))) (hs : sz = 1) (e0 : o = 0) (en : n = xs.length) : readArg h kk (.sl 1) (.slice (some ⟨b, o, none⟩) n sz) = some (.slice (some ⟨kk, 0, none⟩) xs.length 1, [some (.row false (vS xs))]) := by
  have := ra_slS (kk := kk) (i := 0) (m := xs.length) ho hs e0 en (by omega)
  simpa using this
theorem ra_allB {h : Hp} {b o n sz kk : Nat} {own : Bool} {xs : List Bool} (ho : aget h b = some (.row own (vB xs))) (hs : sz = 1) (e0 : o = 0) (en : n = xs.length) : readArg h kk (.sl 1) (.slice (some ⟨b, o, none⟩) n sz) = some (.slice (some ⟨kk, 0, none⟩) xs.length 1, [some (.row false (vB xs))]) := by
  have := ra_slB (kk := kk) (i := 0) (m := xs.length) ho hs e0 en (by omega)
  simpa using this
theorem ra_slT {α : Type} {f : α → List Value} {c : Nat} (hf : ∀ x, (f x).length = c) (hfl : ∀ x, flatV.flatL (f x) = true) {h : Hp} {b o n i m sz kk : Nat} {own : Bool} {xs : List α} (ho : aget h b = some (.row own (vT f xs))) (hs : sz = c) (e0 : o = i * c) (en : n = m) (hle : i + m ≤ xs.length) : readArg h kk (.sl c) (.slice (some ⟨b, o, none⟩) n sz) = some (.slice (some ⟨kk, 0, none⟩) m c, [some (.row false (vT f ((xs.drop i).take m)))]) := by
  subst hs e0 en
  refine ra_sl ho rfl rfl rfl ?_ (by rw [vT_drop hf, vT_take hf]) (vT_flat hfl _)
  rw [vT_len hf, ← Nat.add_mul]; exact Nat.mul_le_mul_right _ hle
theorem ra_allT {α : Type} {f : α → List Value} {c : Nat} (hf : ∀ x, (f x).length = c) (hfl : ∀ x, flatV.flatL (f x) = true) {h : Hp} {b o n sz kk : Nat} {own : Bool} {xs : List α} (ho : aget h b = some (.row own (vT f xs))) (hs : sz = c) (e0 : o = 0) (en : n = xs.length) : readArg h kk (.sl c) (.slice (some ⟨b, o, none⟩) n sz) = some (.slice (some ⟨kk, 0, none⟩) xs.length c, [some (.row false (vT f xs))]) := by
  have := ra_slT hf hfl (kk := kk) (i := 0) (m := xs.length) ho hs (by simpa using e0) en (by omega)
  simpa using this
/-- an argument with what it leads to -/
theorem ra_tr {h : Hp} {k : Nat} {ps : List Path} {bs : List PR} {v v' w : Value} {l : List (Option VObj)} (e0 : walkP h v ps [] = bs) (e1 : renV (numB k bs) v = some v') (e2 : viewP h (numB k bs) (fun s => patsP k s ps bs) 0 ps bs = some l) (e3 : patchV v' (patsP k none ps bs) = w) : readArg h k (.tr ps) v = some (w, l) := by
  subst e0 e3
  simp only [readArg, e1, e2]
theorem vp_nil {h : Hp} {s : Nat → Option Nat} {pat : Option Nat → List (Nat × Value)} {i : Nat} : viewP h s pat i [] [] = some [] := rfl
theorem vp_no {h : Hp} {s : Nat → Option Nat} {pat : Option Nat → List (Nat × Value)} {i : Nat} {p : Path} {ps : List Path} {bs : List PR} {l : List (Option VObj)} (t : viewP h s pat (i + 1) ps bs = some l) : viewP h s pat i (p :: ps) (.no :: bs) = some (none :: l) := by
  simp only [viewP, t]
theorem vp_emp {h : Hp} {s : Nat → Option Nat} {pat : Option Nat → List (Nat × Value)} {i z : Nat} {p : Path} {ps : List Path} {bs : List PR} {l : List (Option VObj)} (t : viewP h s pat (i + 1) ps bs = some l) : viewP h s pat i (p :: ps) (.nil z :: bs) = some (some (mkObj p.kind []) :: l) := by
  simp only [viewP, t]
theorem vp_at {h : Hp} {s : Nat → Option Nat} {pat : Option Nat → List (Nat × Value)} {i b : Nat} {p : Path} {ps : List Path} {bs : List PR} {l : List (Option VObj)} {ob : VObj} {cs cs' cs'' : List Value} (e1 : aget h b = some ob) (e2 : (cond (isW p.kind) ob.wcs ob.cs) = some cs) (e3 : renV.renL s cs = some cs') (e4 : setsL cs' (pat (some i)) = cs'')
    (t : viewP h s pat (i + 1) ps bs = some l) : viewP h s pat i (p :: ps) (.hit b :: bs) = some (some (mkObj p.kind cs'') :: l) := by
  subst e4
  simp only [viewP, e1, e2, e3, t]

/-! what is written back -/
def skipW : Wd → Bool
  | .no | .emp _ | .win _ _ _ false | .blk _ false => true
  | _ => false
theorem wb_nil {h : Hp} {s : Nat → Option Nat} : wback h s [] [] = some h := rfl
theorem wb_skip {h h' : Hp} {s : Nat → Option Nat} {x : Wd} {ws : List Wd} {c : Option (List Value)} {cs : List (Option (List Value))} (hx : skipW x = true) (t : wback h s ws cs = some h') : wback h s (x :: ws) (c :: cs) = some h' := by
  cases x with
  | win b o n w => cases w <;> first | (simp only [wback]; exact t) | cases hx
  | blk b w => cases w <;> first | (simp only [wback]; exact t) | cases hx
  | _ => simp only [wback]; exact t
theorem wb_win {h h' : Hp} {s : Nat → Option Nat} {b off n : Nat} {ws : List Wd} {c c' x y : List Value} {cs : List (Option (List Value))} {ob ob' : VObj} (e1 : aget h b = some ob) (e2 : ob.wcs = some x) (e3 : renV.renL s c = some c') (e4 : c'.length = n ∧ off + n ≤ x.length) (e5 : setAt x off c' = y) (e6 : ob.wr y = some ob') (t : wback (aput h b ob') s ws cs = some h') :
    wback h s (.win b off n true :: ws) (some c :: cs) = some h' := by
  subst e5
  simp only [wback, e1, e2, e3, e6, if_pos e4]; exact t
theorem wb_blk {h h' : Hp} {s : Nat → Option Nat} {b : Nat} {ws : List Wd} {c c' x : List Value} {cs : List (Option (List Value))} {ob ob' : VObj} (e1 : aget h b = some ob) (e2 : ob.wcs = some x) (e3 : renV.renL s c = some c') (e6 : ob.wr c' = some ob') (t : wback (aput h b ob') s ws cs = some h') :
    wback h s (.blk b true :: ws) (some c :: cs) = some h' := by
  simp only [wback, e1, e2, e3, e6]; exact t
theorem wb_del {h h' : Hp} {s : Nat → Option Nat} {b : Nat} {ws : List Wd} {cs : List (Option (List Value))} (t : wback (adel h b) s ws cs = some h') : wback h s (.blk b true :: ws) (none :: cs) = some h' := by
  simp only [wback]; exact t
theorem an_nil {h : Hp} {s : Nat → Option Nat} {top : Nat} : addNew h s top [] = some h := rfl
theorem an_cons {h h' : Hp} {s : Nat → Option Nat} {top : Nat} {c c' : List Value} {cs : List (List Value)} (e : renV.renL s c = some c') (t : addNew (aput h top (.row true c')) s (top + 1) cs = some h') : addNew h s top (c :: cs) = some h' := by
  simp only [addNew, e]; exact t
theorem rn_I {s : Nat → Option Nat} {k : IntKind} {xs : List Int} : renV.renL s (vI k xs) = some (vI k xs) := renL_flat _ _ (vI_flat _ _)
theorem rn_B {s : Nat → Option Nat} {xs : List Bool} : renV.renL s (vB xs) = some (vB xs) := renL_flat _ _ (vB_flat _)
theorem rn_S {s : Nat → Option Nat} {xs : List (List UInt8)} : renV.renL s (vS xs) = some (vS xs) := renL_flat _ _ (vS_flat _)
theorem rn_T {s : Nat → Option Nat} {α : Type} {f : α → List Value} (hfl : ∀ x, flatV.flatL (f x) = true) {xs : List α} : renV.renL s (vT f xs) = some (vT f xs) := renL_flat _ _ (vT_flat hfl _)

/-! the answer -/
def jsOK (n : Nat) (wr : List (Option (List Value))) : List Nat → Prop
  | [] => True
  | j :: js => (n ≤ j ∨ wr[j]? = some none) ∧ jsOK n wr js
theorem jsOK_mem {n : Nat} {wr : List (Option (List Value))} : ∀ {js : List Nat}, jsOK n wr js → ∀ j ∈ js, n ≤ j ∨ wr[j]? = some none
  | [], _, j, h => by cases h
  | k :: js, h, j, hj => by
    rcases List.mem_cons.1 hj with rfl | hj
    · exact h.1
    · exact jsOK_mem h.2 j hj
theorem Res.of {n : Nat} {r : SRes} {v' : Value} {H' : Hp} (js : List Nat) (e1 : renV (resR js n) r.v = some v') (e2 : newOK H' (resR js n) js r.new) (e3 : js.Nodup) (e4 : jsOK n r.wr js) (e5 : wrOK H' (resR js n) 0 r.wr) : Res n r v' H' :=
  ⟨⟨js, e1, e2, e3, jsOK_mem e4, e5⟩⟩
theorem hs_row {H : Hp} {j : Nat} {c : List Value} (h : aget H j = some (.row true c)) : Has H j c := .inl h
theorem hs_cells {H : Hp} {j : Nat} {c : List Value} (h : aget H j = some (.cells c)) : Has H j c := .inr (.inl h)
theorem hs_pre {H : Hp} {j : Nat} {c d : List Value} (m : Nat) (h : aget H j = some (.row true d)) (e : c = d.take m) : Has H j c := .inr (.inr ⟨d, m, h, e⟩)

/-! taking arguments apart -/
abbrev Dec := List Value → List (Option (List Value)) → Option SRes
def dV {α : Type} (un : Value → Option α) (K : α → Dec) : Dec := fun vs cs => match vs with
  | v :: vs' => match un v with
    | some x => K x vs' cs
    | none => none
  | [] => none
theorem dV_eq {α : Type} {un : Value → Option α} {K : α → Dec} {v : Value} {vs : List Value} {cs : List (Option (List Value))} {x : α} (h : un v = some x) : dV un K (v :: vs) cs = K x vs cs := by simp only [dV, h]
theorem dV.elim {α : Type} {un : Value → Option α} {K : α → Dec} {vs : List Value} {cs : List (Option (List Value))} {r : SRes} (h : dV un K vs cs = some r) : ∃ v vs' x, vs = v :: vs' ∧ un v = some x ∧ K x vs' cs = some r := by
  unfold dV at h
  split at h <;> try (cases h; done)
  split at h <;> try (cases h; done)
  exact ⟨_, _, _, rfl, by assumption, h⟩
def dSl {α : Type} (k sz : Nat) (un : List Value → Option (List α)) (K : List α → Dec) : Dec := fun vs cs => match vs, cs with
  | .slice (some ⟨k', 0, none⟩) n sz' :: vs', some c :: cs' => match un c with
    | some xs => if k' = k ∧ sz' = sz ∧ n = xs.length then K xs vs' cs' else none
    | none => none
  | _, _ => none
theorem dSl_eq {α : Type} {k sz : Nat} {un : List Value → Option (List α)} {K : List α → Dec} {vs : List Value} {c : List Value} {cs : List (Option (List Value))} {xs : List α} (h : un c = some xs) : dSl k sz un K (.slice (some ⟨k, 0, none⟩) xs.length sz :: vs) (some c :: cs) = K xs vs cs := by simp [dSl, h]
theorem dSl.elim {α : Type} {k sz : Nat} {un : List Value → Option (List α)} {K : List α → Dec} {vs : List Value} {cs : List (Option (List Value))} {r : SRes} (h : dSl k sz un K vs cs = some r) : ∃ c vs' cs' xs, vs = .slice (some ⟨k, 0, none⟩) xs.length sz :: vs' ∧ cs = some c :: cs' ∧ un c = some xs ∧ K xs vs' cs' = some r := by
  unfold dSl at h
  split at h <;> try (cases h; done)
  split at h <;> try (cases h; done)
  split at h <;> try (cases h; done)
  rename_i hc
  obtain ⟨rfl, rfl, rfl⟩ := hc
  exact ⟨_, _, _, _, rfl, rfl, by assumption, h⟩
/-- a value of cells, and what some windows hold -/
def dTr {α : Type} (n : Nat) (un : Value → List (Option (List Value)) → Option α) (K : α → Dec) : Dec := fun vs cs => match vs with
  | v :: vs' => match un v (cs.take n) with
    | some x => K x vs' (cs.drop n)
    | none => none
  | [] => none
theorem dTr_eq {α : Type} {n : Nat} {un : Value → List (Option (List Value)) → Option α} {K : α → Dec} {v : Value} {vs : List Value} {cs cs1 cs2 : List (Option (List Value))} {x : α} (h1 : cs.take n = cs1) (h2 : cs.drop n = cs2) (h : un v cs1 = some x) : dTr n un K (v :: vs) cs = K x vs cs2 := by
  subst h1 h2; simp only [dTr, h]
theorem dTr.elim {α : Type} {n : Nat} {un : Value → List (Option (List Value)) → Option α} {K : α → Dec} {vs : List Value} {cs : List (Option (List Value))} {r : SRes} (h : dTr n un K vs cs = some r) : ∃ v vs' cs1 cs2 x, vs = v :: vs' ∧ cs = cs1 ++ cs2 ∧ un v cs1 = some x ∧ K x vs' cs2 = some r := by
  unfold dTr at h
  split at h <;> try (cases h; done)
  split at h <;> try (cases h; done)
  exact ⟨_, _, _, _, _, rfl, (List.take_append_drop n cs).symm, by assumption, h⟩
def dPt {α : Type} (k : Nat) (un : List Value → Option α) (K : α → Dec) : Dec := fun vs cs => match vs, cs with
  | .pointer (some ⟨k', 0, none⟩) :: vs', some c :: cs' => match un c with
    | some x => if k' = k then K x vs' cs' else none
    | none => none
  | _, _ => none
theorem dPt_eq {α : Type} {k : Nat} {un : List Value → Option α} {K : α → Dec} {vs : List Value} {c : List Value} {cs : List (Option (List Value))} {x : α} (h : un c = some x) : dPt k un K (.pointer (some ⟨k, 0, none⟩) :: vs) (some c :: cs) = K x vs cs := by simp [dPt, h]
theorem dPt.elim {α : Type} {k : Nat} {un : List Value → Option α} {K : α → Dec} {vs : List Value} {cs : List (Option (List Value))} {r : SRes} (h : dPt k un K vs cs = some r) : ∃ c vs' cs' x, vs = .pointer (some ⟨k, 0, none⟩) :: vs' ∧ cs = some c :: cs' ∧ un c = some x ∧ K x vs' cs' = some r := by
  unfold dPt at h
  split at h <;> try (cases h; done)
  split at h <;> try (cases h; done)
  split at h <;> try (cases h; done)
  rename_i hc
  subst hc
  exact ⟨_, _, _, _, rfl, rfl, by assumption, h⟩
/-- n windows of which there is nothing -/
def dNo : Nat → Dec → Dec
  | 0, K => K
  | n + 1, K => fun vs cs => match cs with
    | none :: cs' => dNo n K vs cs'
    | _ => none
theorem dNo.elim {K : Dec} {vs : List Value} {r : SRes} : ∀ {n : Nat} {cs : List (Option (List Value))}, dNo n K vs cs = some r → ∃ cs', cs = List.replicate n none ++ cs' ∧ K vs cs' = some r
  | 0, cs, h => ⟨cs, rfl, h⟩
  | n + 1, cs, h => by
    simp only [dNo] at h
    split at h <;> try (cases h; done)
    obtain ⟨cs', rfl, h2⟩ := dNo.elim h
    exact ⟨cs', rfl, h2⟩
def dNl (n : Nat) (K : Dec) : Dec := fun vs cs => match vs with
  | .pointer none :: vs' => dNo n K vs' cs
  | _ => none
theorem dNl.elim {n : Nat} {K : Dec} {vs : List Value} {cs : List (Option (List Value))} {r : SRes} (h : dNl n K vs cs = some r) : ∃ vs' cs', vs = .pointer none :: vs' ∧ cs = List.replicate n none ++ cs' ∧ K vs' cs' = some r := by
  unfold dNl at h
  split at h <;> try (cases h; done)
  obtain ⟨cs', rfl, h2⟩ := dNo.elim h
  exact ⟨_, cs', rfl, rfl, h2⟩
def dEnd (r : Option SRes) : Dec := fun vs cs => match vs, cs with
  | [], [] => r
  | _, _ => none
theorem dEnd.elim {o : Option SRes} {vs : List Value} {cs : List (Option (List Value))} {r : SRes} (h : dEnd o vs cs = some r) : vs = [] ∧ cs = [] ∧ o = some r := by
  unfold dEnd at h
  split at h <;> try (cases h; done)
  exact ⟨rfl, rfl, h⟩
def orD (a b : Dec) : Dec := fun vs cs => match a vs cs with
  | some r => some r
  | none => b vs cs
theorem orD_1 {a b : Dec} {vs : List Value} {cs : List (Option (List Value))} {r : SRes} (h : a vs cs = some r) : orD a b vs cs = some r := by simp only [orD, h]
theorem orD_2 {a b : Dec} {vs : List Value} {cs : List (Option (List Value))} {r : SRes} (h1 : a vs cs = none) (h : b vs cs = some r) : orD a b vs cs = some r := by simp only [orD, h1, h]
theorem orD.elim {a b : Dec} {vs : List Value} {cs : List (Option (List Value))} {r : SRes} (h : orD a b vs cs = some r) : a vs cs = some r ∨ b vs cs = some r := by
  unfold orD at h
  split at h
  · cases h; left; assumption
  · exact .inr h
def ofG {α : Type} (o : Option α) (f : α → SRes) : Option SRes := match o with
  | some x => some (f x)
  | none => none
theorem ofG_eq {α : Type} {o : Option α} {f : α → SRes} {x : α} (h : o = some x) : ofG o f = some (f x) := by subst h; rfl
theorem ofG.elim {α : Type} {o : Option α} {f : α → SRes} {r : SRes} (h : ofG o f = some r) : ∃ x, o = some x ∧ f x = r := by
  cases o with
  | none => cases h
  | some x => exact ⟨x, rfl, by cases h; rfl⟩

/-! what a summary's run takes apart -/
def asS : Value → Option (List UInt8) | .string s => some s.data.toList | _ => none
theorem asS_eq (v : Value) (x : List UInt8) (h : asS v = some x) : v = .string ⟨⟨x⟩⟩ := by cases v <;> simp [asS] at h; subst h; rfl
theorem unI_vI (k : IntKind) (xs : List Int) : unL (asI k) (vI k xs) = some xs := unL_map (fun x => by simp [asI]) xs
theorem unB_vB (xs : List Bool) : unL asB (vB xs) = some xs := unL_map (fun x => by simp [asB]) xs
theorem unS_vS (xs : List (List UInt8)) : unL asS (vS xs) = some xs := unL_map (g := fun s => Value.string ⟨⟨s⟩⟩) (fun x => by simp [asS]) xs
theorem unI_eq {k : IntKind} {cs : List Value} {xs : List Int} (h : unL (asI k) cs = some xs) : cs = vI k xs := unL_eq (asI_eq k) h
theorem unB_eq {cs : List Value} {xs : List Bool} (h : unL asB cs = some xs) : cs = vB xs := unL_eq asB_eq h
theorem unS_eq {cs : List Value} {xs : List (List UInt8)} (h : unL asS cs = some xs) : cs = vS xs := unL_eq (g := fun s => Value.string ⟨⟨s⟩⟩) asS_eq h
end Go.Vm
namespace Go.Vm
open Go Go.RowKit
/-- the operations from one on -/
def opsD (c : VC) (n : Nat) : List VOper := match c with | .reg ops => ops.drop n | .regD _ _ post => post.drop n | _ => []
theorem rdlI {k : IntKind} {xs : List Int} {o i : Nat} {x : Int} (hx : xs[i]? = some x) (e : o = i) : (vI k xs)[o]? = some (.int k x) := by subst e; simp [vI, hx]
theorem rdlB {xs : List Bool} {o i : Nat} {x : Bool} (hx : xs[i]? = some x) (e : o = i) : (vB xs)[o]? = some (.bool x) := by subst e; simp [vB, hx]
theorem rdlS {xs : List (List UInt8)} {o i : Nat} {x : List UInt8} (hx : xs[i]? = some x) (e : o = i) : (vS xs)[o]? = some (.string ⟨⟨x⟩⟩) := by subst e; simp [vS, hx]
end Go.Vm
namespace Go.Vm
open Go Go.RowKit
theorem st_I {k : IntKind} {xs : List Int} {o i : Nat} {x : Int} {K : List Value → Prop} (hb : decide (i < xs.length) = true) (e : o = i) (h : K (vI k (xs.set i x))) :
    req (decide ((cellsL (.int k x)).length = 1 ∧ o + 1 ≤ (vI k xs).length) && (cellsL (.int k x)).all oneC) (∃ cs', setAt (vI k xs) o (cellsL (.int k x)) = cs' ∧ K cs') := req.intro (req_stI hb e) (pk_stI e h)
theorem st_B {xs : List Bool} {o i : Nat} {x : Bool} {K : List Value → Prop} (hb : decide (i < xs.length) = true) (e : o = i) (h : K (vB (xs.set i x))) :
    req (decide ((cellsL (.bool x)).length = 1 ∧ o + 1 ≤ (vB xs).length) && (cellsL (.bool x)).all oneC) (∃ cs', setAt (vB xs) o (cellsL (.bool x)) = cs' ∧ K cs') := req.intro (req_stB hb e) (pk_stB e h)
theorem st_S {xs : List (List UInt8)} {o i : Nat} {x : List UInt8} {K : List Value → Prop} (hb : decide (i < xs.length) = true) (e : o = i) (h : K (vS (xs.set i x))) :
    req (decide ((cellsL (.string ⟨⟨x⟩⟩)).length = 1 ∧ o + 1 ≤ (vS xs).length) && (cellsL (.string ⟨⟨x⟩⟩)).all oneC) (∃ cs', setAt (vS xs) o (cellsL (.string ⟨⟨x⟩⟩)) = cs' ∧ K cs') := req.intro (req_stS hb e) (pk_stS e h)
end Go.Vm
namespace Go.Vm
theorem br.h2 {α : Type} {b b' : Bool} {X Y : Option α} {r : α} {p q : Prop} (h : cond b' X Y = some r) (e : b = b') (k2 : b' = false → Y = some r → q) (k1 : b' = true → X = some r → p) : br b p q := br.h h e k1 k2
end Go.Vm
namespace Go.Vm
open Go Go.RowKit
/-! a nil slice as one of no elements with a block of its own -/
theorem VR.ofNil {ρ : Ren} {s : Nat} {rv : Value} (h : VR ρ (.slice none 0 s) rv) (j sz : Nat) : VR ρ (.slice (some ⟨j, 0, none⟩) 0 sz) rv := by
  cases h; exact .slice0 none
theorem Leads.nilT {P : Program} {f base fn nt s : Nat} {e : Env} {todo : List VItem} {ds : List Nat} {ret : Bool} {rd : Option Nat} {up : List VFrame} {H : Hp} {top : Nat} {R : Value → Hp → Nat → Prop} (t sz : Nat)
    (h : Leads P f base ⟨⟨fn, nt, aput e t (.slice (some ⟨top, 0, none⟩) 0 sz), todo, ds, ret, rd⟩, up, aput H top (.row true []), top + 1⟩ R) (he : aget e t = some (.slice none 0 s) := by rfl) :
    Leads P f base ⟨⟨fn, nt, e, todo, ds, ret, rd⟩, up, H, top⟩ R := by
  refine ⟨fun w0 U ρ rf rfs w cs hr => ?_⟩
  have hx := Ext.upd (l := ⟨0, 0, 0⟩) hr.heap.off0
  have hcur : FrR P (upd ρ top ⟨0, 0, 0⟩) ⟨fn, nt, aput e t (.slice (some ⟨top, 0, none⟩) 0 sz), todo, ds, ret, rd⟩ rf :=
    { hr.cur.mono hx with
      env := fun i v hv => by
        rw [aget_aput] at hv
        split at hv
        · rename_i hi; subst hi; cases hv
          obtain ⟨v', a, b⟩ := hr.cur.env t _ he
          exact ⟨v', a, (VR.ofNil b _ _).mono hx⟩
        · exact (hr.cur.env.mono hx) i v hv }
  obtain ⟨ρ', rv, fr', w', v, H', top', h1, h2, h3, h4, h5, h6, h7⟩ := h.get w0 U _ rf rfs w cs ⟨hcur, hr.up.mono (fun _ _ x => x.mono hx), empty_row hr.heap⟩
  exact ⟨ρ', rv, fr', w', v, H', top', h1, h2, h3, h4, h5, fun i l hi hl => h6 i l hi (hx _ _ hl), h7⟩

theorem Leads.nilC {P : Program} {f base s : Nat} {fr : VFrame} {up : List VFrame} {H : Hp} {top : Nat} {R : Value → Hp → Nat → Prop} (b i sz : Nat) {cs : List Value}
    (h : Leads P f base ⟨fr, up, aput (aput H b (.cells (cs.set i (.slice (some ⟨top, 0, none⟩) 0 sz)))) top (.row true []), top + 1⟩ R) (hb : aget H b = some (.cells cs) := by rfl) (hi : cs[i]? = some (.slice none 0 s) := by rfl) :
    Leads P f base ⟨fr, up, H, top⟩ R := by
  refine ⟨fun w0 U ρ rf rfs w cs' hr => ?_⟩
  have hx := Ext.upd (l := ⟨0, 0, 0⟩) hr.heap.off0
  have hp : HpR P w0 (.of U) ρ (aput H b (.cells (cs.set i (.slice (some ⟨top, 0, none⟩) 0 sz)))) top w :=
    { hr.heap with
      obj := fun j o ho => by
        rw [aget_aput] at ho
        split at ho
        · rename_i hj; subst hj; cases ho
          obtain ⟨l, hl, hc, hw⟩ := hr.heap.obj b _ hb
          refine ⟨l, hl, ?_, fun _ => hw rfl⟩
          obtain ⟨g1, g2, g3⟩ := (hc : CellsR ρ w l true cs)
          refine ⟨by simpa using g1, fun k v hv => ?_, g3⟩
          rw [List.getElem?_set] at hv
          split at hv
          · rename_i hk; subst hk
            split at hv
            · cases hv
              obtain ⟨v', a, b'⟩ := g2 i _ hi
              exact ⟨v', a, VR.ofNil b' _ _⟩
            · cases hv
          · exact g2 k v hv
        · exact hr.heap.obj j o ho
      dis := fun j k oj ok lj lk hjk hj hk hlj hlk hw => by
        have key : ∀ j o, aget (aput H b (.cells (cs.set i (.slice (some ⟨top, 0, none⟩) 0 sz)))) j = some o → ∃ o', aget H j = some o' ∧ (writable o = true → writable o' = true) := fun j o ho => by
          rw [aget_aput] at ho
          split at ho
          · rename_i hj; subst hj; exact ⟨_, hb, fun _ => rfl⟩
          · exact ⟨o, ho, id⟩
        obtain ⟨oj', a1, a2⟩ := key j oj hj
        obtain ⟨ok', b1, _⟩ := key k ok hk
        exact hr.heap.dis j k oj' ok' lj lk hjk a1 b1 hlj hlk (a2 hw) }
  obtain ⟨ρ', rv, fr', w', v, H', top', h1, h2, h3, h4, h5, h6, h7⟩ := h.get w0 U _ rf rfs w cs' ⟨hr.cur.mono hx, hr.up.mono (fun _ _ x => x.mono hx), empty_row hp⟩
  exact ⟨ρ', rv, fr', w', v, H', top', h1, h2, h3, h4, h5, fun i l hi hl => h6 i l hi (hx _ _ hl), h7⟩

mutual
inductive Nv (j : Nat) : Value → Value → Prop
  | same (v) : Nv j v v
  | nil (s sz) : Nv j (.slice none 0 s) (.slice (some ⟨j, 0, none⟩) 0 sz)
  | tup {a b : List Value} (h : NvL j a b) : Nv j (.tuple ⟨a⟩) (.tuple ⟨b⟩)
inductive NvL (j : Nat) : List Value → List Value → Prop
  | nil : NvL j [] []
  | cons {v v' : Value} {l l' : List Value} (h : Nv j v v') (t : NvL j l l') : NvL j (v :: l) (v' :: l')
end
mutual
theorem Nv.vr {j : Nat} {ρ : Ren} : ∀ {v v' : Value}, Nv j v v' → ∀ {rv : Value}, VR ρ v rv → VR ρ v' rv
  | _, _, .same v, _, h => h
  | _, _, .nil s sz, _, h => VR.ofNil h _ _
  | _, _, .tup hl, _, h => by cases h with | tuple ht => exact .tuple (NvL.vr hl ht)
theorem NvL.vr {j : Nat} {ρ : Ren} : ∀ {l l' : List Value}, NvL j l l' → ∀ {rl : List Value}, VRL ρ l rl → VRL ρ l' rl
  | _, _, .nil, _, h => h
  | _, _, .cons hv ht, _, h => by cases h with | cons a b => exact .cons (Nv.vr hv a) (NvL.vr ht b)
end
end Go.Vm
namespace Go.Vm
theorem ap_req {A B C D : Prop} [Decidable (A ∧ B ∧ C ∧ D)] {p q : Bool} (a : A) (b : B) (c : C) (d : D) (e : p = true) (g : q = true) : (decide (A ∧ B ∧ C ∧ D) && p && q) = true := by
  rw [decide_eq_true ⟨a, b, c, d⟩, e, g]; rfl
theorem ap0_req {A D : Prop} [Decidable (A ∧ D)] (a : A) (d : D) : decide (A ∧ D) = true := decide_eq_true ⟨a, d⟩
end Go.Vm
namespace Go.Vm
open Go Go.RowKit
/-- the objects of some blocks cell by cell -/
def forceOL (o : VObj) (K : VObj → Prop) : Prop :=
  match o with
  | .cells cs => forceL cs fun cs => K (.cells cs)
  | .row own cs => forceL cs fun cs => K (.row own cs)
  | .ty t cs => K (.ty t cs)
  | .siter s p => K (.siter s p)
  | .loop l => K (.loop l)
  | .marks => K .marks
theorem forceOL_eq (o : VObj) (K : VObj → Prop) : forceOL o K = K o := by
  cases o <;> simp only [forceOL, forceL_eq]
def forceH2 (bs : List Nat) (h : Hp) (K : Hp → Prop) : Prop :=
  match h with
  | [] => K []
  | (i, o) :: l => cond (memB i bs) (forceOL o fun o => forceH2 bs l fun l => K ((i, o) :: l)) (forceO o fun o => forceH2 bs l fun l => K ((i, o) :: l))
theorem forceH2_eq (bs : List Nat) : ∀ (h : Hp) (K : Hp → Prop), forceH2 bs h K = K h
  | [], K => rfl
  | (i, o) :: l, K => by
    rw [forceH2]
    cases memB i bs
    · rw [cond_false, forceO_eq, forceH2_eq bs l]
    · rw [cond_true, forceOL_eq, forceH2_eq bs l]
theorem sumK.introF {s : Summ} {vals : List Value} {h : Hp} {top : Nat} {K : Value → Hp → Nat → Prop} {v : Value} {h' : Hp} {top' : Nat} (bs : List Nat) (e : sumRun s vals h top = some (v, h', top')) (k : forceV v fun v => forceH2 bs h' fun h' => K v h' top') : sumK s vals h top K :=
  sumK.intro e (by simpa only [forceV_eq, forceH2_eq] using k)
end Go.Vm
namespace Go.Vm
open Go Go.RowKit
/-- nil slices in an answer taken for rows of no elements -/
inductive NilW : Value → Hp → Nat → Value → Hp → Nat → Prop
  | refl (v : Value) (H : Hp) (t : Nat) : NilW v H t v H t
  | val {v v' v2 : Value} {H H2 : Hp} {t t2 : Nat} (h : Nv t v v') (k : NilW v' (aput H t (.row true [])) (t + 1) v2 H2 t2) : NilW v H t v2 H2 t2
  | cell {v v2 : Value} {H H2 : Hp} {t t2 s : Nat} (b i sz : Nat) {cs : List Value} (hb : aget H b = some (.cells cs)) (hi : cs[i]? = some (.slice none 0 s)) (k : NilW v (aput (aput H b (.cells (cs.set i (.slice (some ⟨t, 0, none⟩) 0 sz)))) t (.row true [])) (t + 1) v2 H2 t2) : NilW v H t v2 H2 t2
theorem nilC_hp {P : Program} {w0 : World} {U : UG} {ρ : Ren} {H : Hp} {top s : Nat} {w : World} (h : HpR P w0 U ρ H top w) {b i : Nat} (sz : Nat) {cs : List Value} (hb : aget H b = some (.cells cs)) (hi : cs[i]? = some (.slice none 0 s)) : HpR P w0 U ρ (aput H b (.cells (cs.set i (.slice (some ⟨top, 0, none⟩) 0 sz)))) top w :=
  { h with
    obj := fun j o ho => by
      rw [aget_aput] at ho
      split at ho
      · rename_i hj; subst hj; cases ho
        obtain ⟨l, hl, hc, hw⟩ := h.obj b _ hb
        refine ⟨l, hl, ?_, fun _ => hw rfl⟩
        obtain ⟨g1, g2, g3⟩ := (hc : CellsR ρ w l true cs)
        refine ⟨by simpa using g1, fun k v hv => ?_, g3⟩
        rw [List.getElem?_set] at hv
        split at hv
        · rename_i hk; subst hk
          split at hv
          · cases hv
            obtain ⟨v', a, b'⟩ := g2 i _ hi
            exact ⟨v', a, VR.ofNil b' _ _⟩
          · cases hv
        · exact g2 k v hv
      · exact h.obj j o ho
    dis := fun j k oj ok lj lk hjk hj hk hlj hlk hw => by
      have key : ∀ j o, aget (aput H b (.cells (cs.set i (.slice (some ⟨top, 0, none⟩) 0 sz)))) j = some o → ∃ o', aget H j = some o' ∧ (writable o = true → writable o' = true) := fun j o ho => by
        rw [aget_aput] at ho
        split at ho
        · rename_i hj; subst hj; exact ⟨_, hb, fun _ => rfl⟩
        · exact ⟨o, ho, id⟩
      obtain ⟨oj', a1, a2⟩ := key j oj hj
      obtain ⟨ok', b1, _⟩ := key k ok hk
      exact h.dis j k oj' ok' lj lk hjk a1 b1 hlj hlk (a2 hw) }
theorem NilW.ok {P : Program} {w0 : World} {U : Nat → Nat → Prop} {v v2 rv : Value} {H H2 : Hp} {t t2 : Nat} (k : NilW v H t v2 H2 t2) : ∀ {ρ : Ren} {w : World}, VR ρ v rv → HpR P w0 (.of U) ρ H t w → ∃ ρ', Ext ρ ρ' ∧ VR ρ' v2 rv ∧ HpR P w0 (.of U) ρ' H2 t2 w := by
  induction k with
  | refl => intro ρ w h1 h2; exact ⟨ρ, Ext.refl ρ, h1, h2⟩
  | val h k ih =>
    intro ρ w h1 h2
    have hx := Ext.upd (l := ⟨0, 0, 0⟩) h2.off0
    obtain ⟨ρ', e1, e2, e3⟩ := ih ((h.vr h1).mono hx) (empty_row h2)
    exact ⟨ρ', hx.trans e1, e2, e3⟩
  | cell b i sz hb hi k ih =>
    intro ρ w h1 h2
    have hx := Ext.upd (l := ⟨0, 0, 0⟩) h2.off0
    obtain ⟨ρ', e1, e2, e3⟩ := ih (h1.mono hx) (empty_row (nilC_hp h2 sz hb hi))
    exact ⟨ρ', hx.trans e1, e2, e3⟩
theorem Leads.nilW {P : Program} {f base : Nat} {vm : VM} {R : Value → Hp → Prop} (h : Leads P f base vm (fun v H t => ∃ v' H' t', NilW v H t v' H' t' ∧ R v' H')) : Leads P f base vm (fun v H _ => R v H) := by
  refine ⟨fun w0 U ρ rf rfs w cs hr => ?_⟩
  obtain ⟨ρ', rv, fr', w', v, H', top', h1, h2, h3, h4, h5, h6, v2, H2, t2, hk, h7⟩ := h.get w0 U ρ rf rfs w cs hr
  obtain ⟨ρ2, e1, e2, e3⟩ := hk.ok h4 h5
  exact ⟨ρ2, rv, fr', w', v2, H2, t2, h1, h2, h3, e2, e3, fun i l hi hl => e1 _ _ (h6 i l hi hl), h7⟩
end Go.Vm
namespace Go.Vm
theorem vS_of (xs : List ByteArray) : xs.map Value.string = vS (xs.map fun s => s.data.toList) := by simp [vS, List.map_map, Function.comp_def]
end Go.Vm
namespace Go.Vm
open Go Go.RowKit
/-! the printer's words -/
@[simp] theorem ofBytes_len (l : List UInt8) : (ofBytes l).length = l.length := by simp [ofBytes]
theorem pk_us {xs : List Int} {n : Nat} {K : List UInt8 → Prop} (h : K (iB xs)) (hn : xs.length ≤ n := by first | exact Nat.le_refl _ | omega | (simp; done) | (simp; omega)) : ∃ bs, toBytes ((vI .u8 xs).take n) = some bs ∧ K bs :=
  ⟨_, by rw [List.take_of_length_le (by simpa using hn)]; exact toBytes_vI _, h⟩
theorem us_req {A B C D : Prop} [Decidable (A ∧ B ∧ C ∧ D)] (a : A) (b : B) (c : C) (d : D) : decide (A ∧ B ∧ C ∧ D) = true := decide_eq_true ⟨a, b, c, d⟩
theorem ap0b_req {A B C D : Prop} [Decidable (A ∧ B ∧ C ∧ D)] (a : A) (b : B) (c : C) (d : D) : decide (A ∧ B ∧ C ∧ D) = true := decide_eq_true ⟨a, b, c, d⟩
theorem apb_req {A B C D E : Prop} [Decidable (A ∧ B ∧ C ∧ D ∧ E)] {p q : Bool} (a : A) (b : B) (c : C) (d : D) (e : E) (f : p = true) (g : q = true) : (decide (A ∧ B ∧ C ∧ D ∧ E) && p && q) = true := by
  rw [decide_eq_true ⟨a, b, c, d, e⟩, f, g]; rfl
theorem pk_apW {new : List Value} {xs : List Int} {n m : Nat} {ys : List Int} {K : List Value → Nat → Prop} (e : new = vI .u8 ys) (hc : n = xs.length) (hn : n + m = (xs ++ ys).length) (h : K (vI .u8 (xs ++ ys)) (xs ++ ys).length) :
    ∃ cs' n', (vI .u8 xs).take n ++ new = cs' ∧ n + m = n' ∧ K cs' n' :=
  ⟨_, _, by rw [List.take_of_length_le (by simp [hc]), e, vI_app], hn, h⟩
def un1 {α : Type} (un : Value → Option α) : List Value → Option α
  | [v] => un v
  | _ => none
theorem un1_eq {α : Type} {un : Value → Option α} {g : α → Value} (h : ∀ v x, un v = some x → v = g x) {cs : List Value} {x : α} (e : un1 un cs = some x) : cs = [g x] := by
  unfold un1 at e
  split at e
  · rw [h _ _ e]
  · cases e
theorem un1_c {α : Type} {un : Value → Option α} {v : Value} {x : α} (h : un v = some x) : un1 un [v] = some x := h
theorem asB_c {b : Bool} : asB (.bool b) = some b := rfl
theorem asI_c (k : IntKind) {n : Int} : asI k (.int k n) = some n := by simp [asI]
theorem asS_c {s : List UInt8} : asS (.string ⟨⟨s⟩⟩) = some s := rfl
theorem dNl_1 {K : Dec} {vs : List Value} {cs : List (Option (List Value))} : dNl 1 K (.pointer none :: vs) (none :: cs) = K vs cs := rfl
def pickN (i : Nat) (a b : Dec) : Dec := fun vs cs => match vs[i]? with
  | some (.pointer none) => b vs cs
  | _ => a vs cs
theorem pickN.elim {i : Nat} {a b : Dec} {vs : List Value} {cs : List (Option (List Value))} {r : SRes} (h : pickN i a b vs cs = some r) : a vs cs = some r ∨ b vs cs = some r := by
  unfold pickN at h
  split at h
  · exact .inr h
  · exact .inl h
theorem nw_0 {H : Hp} {s : Nat → Option Nat} : newOK H s [] [] := trivial
theorem nw_s {H : Hp} {s : Nat → Option Nat} {j : Nat} {js : List Nat} {c c' : List Value} {cs : List (List Value)} (e : renV.renL s c = some c') (h : Has H j c') (t : newOK H s js cs) : newOK H s (j :: js) (c :: cs) := ⟨⟨_, e, h⟩, t⟩
theorem js_0 {n : Nat} {wr : List (Option (List Value))} : jsOK n wr [] := trivial
theorem js_l {n j : Nat} {wr : List (Option (List Value))} {js : List Nat} (h : n ≤ j) (t : jsOK n wr js) : jsOK n wr (j :: js) := ⟨.inl h, t⟩
theorem js_r {n j : Nat} {wr : List (Option (List Value))} {js : List Nat} (h : wr[j]? = some none) (t : jsOK n wr js) : jsOK n wr (j :: js) := ⟨.inr h, t⟩
theorem wr_0 {H : Hp} {s : Nat → Option Nat} {k : Nat} : wrOK H s k [] := trivial
theorem wr_n {H : Hp} {s : Nat → Option Nat} {k : Nat} {l : List (Option (List Value))} (t : wrOK H s (k + 1) l) : wrOK H s k (none :: l) := t
theorem wr_s {H : Hp} {s : Nat → Option Nat} {k : Nat} {c c' : List Value} {l : List (Option (List Value))} (e : renV.renL s c = some c') (h : Has H k c') (t : wrOK H s (k + 1) l) : wrOK H s k (some c :: l) := ⟨⟨_, e, h⟩, t⟩
theorem Res.flat {n : Nat} {r : SRes} {v' : Value} {H' : Hp} {b : Bool} (e : r.v = .bool b) (_ : r.new = []) (h : Res n r v' H') : v' = .bool b := by
  obtain ⟨js, h1, h2, -⟩ := h.ex
  rw [e] at h1
  cases h1; rfl
end Go.Vm
