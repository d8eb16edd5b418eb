/- The engine, part 27: lifted functions: what the texts that a program prints (lift.py) rest on. -/
import Derived.Test.YtgkpojcckgbcjaaVmLib
namespace Go.Vm
open Go Go.RowKit

/-! the lifted functions' words -/
abbrev wI (k : IntKind) (n : Int) : Int := IntKind.wrap k n
abbrev andI (k : IntKind) (a b : Int) : Int := IntKind.wrap k (BitVec.ofInt k.bits a &&& BitVec.ofInt k.bits b).toNat
abbrev iorI (k : IntKind) (a b : Int) : Int := IntKind.wrap k (BitVec.ofInt k.bits a ||| BitVec.ofInt k.bits b).toNat
abbrev ixorI (k : IntKind) (a b : Int) : Int := IntKind.wrap k (BitVec.ofInt k.bits a ^^^ BitVec.ofInt k.bits b).toNat
abbrev andnI (k : IntKind) (a b : Int) : Int := IntKind.wrap k (BitVec.ofInt k.bits a &&& ~~~ BitVec.ofInt k.bits b).toNat
abbrev cmplI (k : IntKind) (a : Int) : Int := IntKind.wrap k (BitVec.ofInt k.bits (if k.signed then -1 else k.max) ^^^ BitVec.ofInt k.bits a).toNat

def oreq {α : Type} (b : Bool) (x : Option α) : Option α := match b with | true => x | false => none
theorem oreq.elim {α : Type} {b : Bool} {x : Option α} {r : α} (h : oreq b x = some r) : b = true ∧ x = some r := by cases b; cases h; exact ⟨rfl, h⟩
theorem oreq.mk {α : Type} {b : Bool} {x : Option α} (h : b = true) : oreq b x = x := by subst h; rfl
theorem obind.elim {α β : Type} {x : Option α} {F : α → Option β} {r : β} (h : x.bind F = some r) : ∃ a, x = some a ∧ F a = some r := by cases x with | none => cases h | some a => exact ⟨a, rfl, h⟩

/-- how often a loop may go round -/
def FUEL : Nat := 2 ^ 64
def iter {σ ρ : Type} (f : σ → Option (Sum σ ρ)) : Nat → σ → Option ρ
  | 0, _ => none
  | n + 1, s => match f s with
    | none => none
    | some (.inl s') => iter f n s'
    | some (.inr r) => some r

theorem iter_leads {σ ρ : Type} {P : Program} {f base : Nat} {R : Value → Hp → Nat → Prop} {step : σ → Option (Sum σ ρ)} {head : σ → VM} {C : ρ → Prop}
    (h : ∀ s o, step s = some o → Sum.elim (fun s' => Leads P f base (head s') R) C o → Leads P f base (head s) R) :
    ∀ n s r, iter step n s = some r → C r → Leads P f base (head s) R
  | 0, _, _, e, _ => by cases e
  | n + 1, s, r, e, hc => by
    rw [iter] at e
    split at e
    · cases e
    · rename_i s' hs
      exact h s _ hs (iter_leads h n s' r e hc)
    · rename_i r' hs
      cases e
      exact h s _ hs hc

/-! rows of one kind -/
def vI (k : IntKind) (xs : List Int) : List Value := xs.map (Value.int k)
def vB (xs : List Bool) : List Value := xs.map Value.bool
def vS (xs : List (List UInt8)) : List Value := xs.map fun s => Value.string ⟨⟨s⟩⟩
def bI (l : List UInt8) : List Int := l.map fun b => (b.toNat : Int)
def iB (xs : List Int) : List UInt8 := xs.map fun n => UInt8.ofNat n.toNat

@[simp] theorem vI_len (k : IntKind) (xs : List Int) : (vI k xs).length = xs.length := List.length_map _
@[simp] theorem vB_len (xs : List Bool) : (vB xs).length = xs.length := List.length_map _
@[simp] theorem vS_len (xs : List (List UInt8)) : (vS xs).length = xs.length := List.length_map _
@[simp] theorem bI_len (l : List UInt8) : (bI l).length = l.length := List.length_map _
@[simp] theorem iB_len (l : List Int) : (iB l).length = l.length := List.length_map _
theorem vI_flat (k : IntKind) (xs : List Int) : flatV.flatL (vI k xs) = true := flatL_map (fun _ => rfl) xs
theorem vB_flat (xs : List Bool) : flatV.flatL (vB xs) = true := flatL_map (fun _ => rfl) xs
theorem vS_flat (xs : List (List UInt8)) : flatV.flatL (vS xs) = true := flatL_map (fun _ => rfl) xs
theorem vI_one (k : IntKind) : ∀ (xs : List Int), (vI k xs).all oneC = true
  | [] => rfl
  | _ :: xs => by simp only [vI, List.map_cons, List.all_cons, oneC, Bool.true_and]; exact vI_one k xs
theorem vB_one : ∀ (xs : List Bool), (vB xs).all oneC = true
  | [] => rfl
  | _ :: xs => by simp only [vB, List.map_cons, List.all_cons, oneC, Bool.true_and]; exact vB_one xs
theorem vS_one : ∀ (xs : List (List UInt8)), (vS xs).all oneC = true
  | [] => rfl
  | _ :: xs => by simp only [vS, List.map_cons, List.all_cons, oneC, Bool.true_and]; exact vS_one xs
theorem ofBytes_vI (l : List UInt8) : ofBytes l = vI .u8 (bI l) := by simp [ofBytes, vI, bI, List.map_map]
theorem toBytes_vI : ∀ (xs : List Int), toBytes (vI .u8 xs) = some (iB xs)
  | [] => rfl
  | x :: xs => by simp only [vI, List.map_cons, toBytes]; rw [show toBytes (xs.map (Value.int .u8)) = _ from toBytes_vI xs]; rfl

theorem vI_set (k : IntKind) (xs : List Int) (i : Nat) (x : Int) : (vI k xs).set i (.int k x) = vI k (xs.set i x) := by simp [vI, List.map_set]
theorem vB_set (xs : List Bool) (i : Nat) (x : Bool) : (vB xs).set i (.bool x) = vB (xs.set i x) := by simp [vB, List.map_set]
theorem vS_set (xs : List (List UInt8)) (i : Nat) (x : List UInt8) : (vS xs).set i (.string ⟨⟨x⟩⟩) = vS (xs.set i x) := by simp [vS, List.map_set]
theorem vI_drop (k : IntKind) (xs : List Int) (n : Nat) : (vI k xs).drop n = vI k (xs.drop n) := by simp [vI, List.map_drop]
theorem vI_take (k : IntKind) (xs : List Int) (n : Nat) : (vI k xs).take n = vI k (xs.take n) := by simp [vI, List.map_take]
theorem vB_drop (xs : List Bool) (n : Nat) : (vB xs).drop n = vB (xs.drop n) := by simp [vB, List.map_drop]
theorem vB_take (xs : List Bool) (n : Nat) : (vB xs).take n = vB (xs.take n) := by simp [vB, List.map_take]
theorem vS_drop (xs : List (List UInt8)) (n : Nat) : (vS xs).drop n = vS (xs.drop n) := by simp [vS, List.map_drop]
theorem vS_take (xs : List (List UInt8)) (n : Nat) : (vS xs).take n = vS (xs.take n) := by simp [vS, List.map_take]
theorem vI_app (k : IntKind) (xs ys : List Int) : vI k xs ++ vI k ys = vI k (xs ++ ys) := by simp [vI]
theorem vB_app (xs ys : List Bool) : vB xs ++ vB ys = vB (xs ++ ys) := by simp [vB]
theorem vS_app (xs ys : List (List UInt8)) : vS xs ++ vS ys = vS (xs ++ ys) := by simp [vS]

/-! one stop of the evaluator each, beside the lifted function's own -/
theorem br.h {α : Type} {b b' : Bool} {X Y : Option α} {r : α} {p q : Prop} (h : cond b' X Y = some r) (e : b = b') (k1 : b' = true → X = some r → p) (k2 : b' = false → Y = some r → q) : br b p q := by
  subst e; cases b; exact k2 rfl h; exact k1 rfl h
theorem cond_t {α : Type} {b : Bool} {X Y : Option α} {r : α} (h : cond b X Y = some r) (e : b = true) : X = some r := by subst e; exact h
theorem cond_f {α : Type} {b : Bool} {X Y : Option α} {r : α} (h : cond b X Y = some r) (e : b = false) : Y = some r := by subst e; exact h

theorem rd.I {k : IntKind} {xs : List Int} {o i : Nat} {x : Int} {K : Value → Prop} (hx : xs[i]? = some x) (e : o = i) (h : forceV (.int k x) K) : rd (vI k xs) o K := by
  subst e; exact rd.intro (v := .int k x) (by simp [vI, hx]) h
theorem rd.B {xs : List Bool} {o i : Nat} {x : Bool} {K : Value → Prop} (hx : xs[i]? = some x) (e : o = i) (h : forceV (.bool x) K) : rd (vB xs) o K := by
  subst e; exact rd.intro (v := .bool x) (by simp [vB, hx]) h
theorem rd.S {xs : List (List UInt8)} {o i : Nat} {x : List UInt8} {K : Value → Prop} (hx : xs[i]? = some x) (e : o = i) (h : forceV (.string ⟨⟨x⟩⟩) K) : rd (vS xs) o K := by
  subst e; exact rd.intro (v := .string ⟨⟨x⟩⟩) (by simp [vS, hx]) h

theorem req_stI {k : IntKind} {xs : List Int} {o i : Nat} {x : Int} (hb : decide (i < xs.length) = true) (e : o = i) : (decide ((cellsL (.int k x)).length = 1 ∧ o + 1 ≤ (vI k xs).length) && (cellsL (.int k x)).all oneC) = true := by
  subst e; have := of_decide_eq_true hb; simp [cellsL, Value.cells, oneC]; omega
theorem req_stB {xs : List Bool} {o i : Nat} {x : Bool} (hb : decide (i < xs.length) = true) (e : o = i) : (decide ((cellsL (.bool x)).length = 1 ∧ o + 1 ≤ (vB xs).length) && (cellsL (.bool x)).all oneC) = true := by
  subst e; have := of_decide_eq_true hb; simp [cellsL, Value.cells, oneC]; omega
theorem req_stS {xs : List (List UInt8)} {o i : Nat} {x : List UInt8} (hb : decide (i < xs.length) = true) (e : o = i) : (decide ((cellsL (.string ⟨⟨x⟩⟩)).length = 1 ∧ o + 1 ≤ (vS xs).length) && (cellsL (.string ⟨⟨x⟩⟩)).all oneC) = true := by
  subst e; have := of_decide_eq_true hb; simp [cellsL, Value.cells, oneC]; omega

theorem pk_stI {k : IntKind} {xs : List Int} {o i : Nat} {x : Int} {K : List Value → Prop} (e : o = i) (h : K (vI k (xs.set i x))) : ∃ cs', setAt (vI k xs) o (cellsL (.int k x)) = cs' ∧ K cs' :=
  ⟨_, by subst e; exact vI_set k xs o x, h⟩
theorem pk_stB {xs : List Bool} {o i : Nat} {x : Bool} {K : List Value → Prop} (e : o = i) (h : K (vB (xs.set i x))) : ∃ cs', setAt (vB xs) o (cellsL (.bool x)) = cs' ∧ K cs' :=
  ⟨_, by subst e; exact vB_set xs o x, h⟩
theorem pk_stS {xs : List (List UInt8)} {o i : Nat} {x : List UInt8} {K : List Value → Prop} (e : o = i) (h : K (vS (xs.set i x))) : ∃ cs', setAt (vS xs) o (cellsL (.string ⟨⟨x⟩⟩)) = cs' ∧ K cs' :=
  ⟨_, by subst e; exact vS_set xs o x, h⟩
theorem pk_any {l : List Value} {K : List Value → Prop} (h : K l) : ∃ cs', l = cs' ∧ K cs' := ⟨_, rfl, h⟩
theorem pk_mkI {k : IntKind} {n : Nat} {z : Int} {K : List Value → Prop} (h : K (vI k (List.replicate n z))) : ∃ cs', (List.replicate n [Value.int k z]).flatten = cs' ∧ K cs' :=
  ⟨_, by simp [vI, List.flatten_replicate_singleton], h⟩
theorem pk_mkB {n : Nat} {z : Bool} {K : List Value → Prop} (h : K (vB (List.replicate n z))) : ∃ cs', (List.replicate n [Value.bool z]).flatten = cs' ∧ K cs' :=
  ⟨_, by simp [vB, List.flatten_replicate_singleton], h⟩
theorem pk_mkS {n : Nat} {z : List UInt8} {K : List Value → Prop} (h : K (vS (List.replicate n z))) : ∃ cs', (List.replicate n [Value.string ⟨⟨z⟩⟩]).flatten = cs' ∧ K cs' :=
  ⟨_, by simp [vS, List.flatten_replicate_singleton], h⟩
theorem pk_s2b {l : List UInt8} {K : List Value → Prop} (h : K (vI .u8 (bI l))) : ∃ cs', ofBytes l = cs' ∧ K cs' := ⟨_, ofBytes_vI l, h⟩

/-- bytes of a row -/
theorem pk_b2s {xs : List Int} {o n : Nat} {K : List UInt8 → Prop} (h : K (iB ((xs.drop o).take n))) : ∃ bs, toBytes (((vI .u8 xs).drop o).take n) = some bs ∧ K bs :=
  ⟨_, by rw [vI_drop, vI_take]; exact toBytes_vI _, h⟩
/-- the bytes of a whole row -/
theorem pk_b2sA {xs : List Int} {o n : Nat} {K : List UInt8 → Prop} (h0 : o = 0) (hn : xs.length ≤ n) (h : K (iB xs)) : ∃ bs, toBytes (((vI .u8 xs).drop o).take n) = some bs ∧ K bs := by
  subst h0; exact ⟨_, by rw [List.drop_zero, List.take_of_length_le (by simpa using hn)]; exact toBytes_vI _, h⟩
theorem pk_b2sL {l : List Value} {bs : List UInt8} {K : List UInt8 → Prop} (e : toBytes l = some bs) (h : K bs) : ∃ bs, toBytes l = some bs ∧ K bs := ⟨_, e, h⟩

/-! appending -/
theorem pk_ap0I {k : IntKind} {new : List Value} {m : Nat} {ys : List Int} {K : List Value → Nat → Prop} (e : new = vI k ys) (em : m = ys.length) (h : K (vI k ys) ys.length) : ∃ cs' n', new = cs' ∧ m = n' ∧ K cs' n' := ⟨_, _, e, em, h⟩
theorem pk_ap0B {new : List Value} {m : Nat} {ys : List Bool} {K : List Value → Nat → Prop} (e : new = vB ys) (em : m = ys.length) (h : K (vB ys) ys.length) : ∃ cs' n', new = cs' ∧ m = n' ∧ K cs' n' := ⟨_, _, e, em, h⟩
theorem pk_ap0S {new : List Value} {m : Nat} {ys : List (List UInt8)} {K : List Value → Nat → Prop} (e : new = vS ys) (em : m = ys.length) (h : K (vS ys) ys.length) : ∃ cs' n', new = cs' ∧ m = n' ∧ K cs' n' := ⟨_, _, e, em, h⟩
theorem pk_apI {k : IntKind} {new : List Value} {xs : List Int} {o c n m : Nat} {ys : List Int} {K : List Value → Nat → Prop} (e : new = vI k ys) (h0 : o = 0) (hc : c = xs.length) (hn : n + m = (xs ++ ys).length) (h : K (vI k (xs ++ ys)) (xs ++ ys).length) :
    ∃ cs' n', ((vI k xs).drop o).take c ++ new = cs' ∧ n + m = n' ∧ K cs' n' :=
  ⟨_, _, by subst h0; rw [List.drop_zero, List.take_of_length_le (by simp [hc]), e, vI_app], hn, h⟩
theorem pk_apB {new : List Value} {xs : List Bool} {o c n m : Nat} {ys : List Bool} {K : List Value → Nat → Prop} (e : new = vB ys) (h0 : o = 0) (hc : c = xs.length) (hn : n + m = (xs ++ ys).length) (h : K (vB (xs ++ ys)) (xs ++ ys).length) :
    ∃ cs' n', ((vB xs).drop o).take c ++ new = cs' ∧ n + m = n' ∧ K cs' n' :=
  ⟨_, _, by subst h0; rw [List.drop_zero, List.take_of_length_le (by simp [hc]), e, vB_app], hn, h⟩
theorem pk_apS {new : List Value} {xs : List (List UInt8)} {o c n m : Nat} {ys : List (List UInt8)} {K : List Value → Nat → Prop} (e : new = vS ys) (h0 : o = 0) (hc : c = xs.length) (hn : n + m = (xs ++ ys).length) (h : K (vS (xs ++ ys)) (xs ++ ys).length) :
    ∃ cs' n', ((vS xs).drop o).take c ++ new = cs' ∧ n + m = n' ∧ K cs' n' :=
  ⟨_, _, by subst h0; rw [List.drop_zero, List.take_of_length_le (by simp [hc]), e, vS_app], hn, h⟩

/-! a call by its summary -/
theorem sumRun_of {s : Summ} {vals : List Value} {h h1 h2 : Hp} {top top' : Nat} {aqs : List SArg} {r : SRes} {v' : Value} (e1 : readArgs h s.modes vals = some aqs) (e2 : s.run aqs = some r) (e3 : apartB (winL s.modes vals) = true)
    (e4 : wback h (winL s.modes vals) r.wr = some h1) (e5 : addNew h1 top r.new = some (h2, top')) (e6 : renV (fun i => cond (Nat.blt i r.new.length) (some (top + i)) none) r.v = some v') : sumRun s vals h top = some (v', h2, top') := by
  simp only [sumRun, e1, e2, e3, e4, e5, e6]
theorem ra_nil {h : Hp} : readArgs h [] [] = some [] := rfl
theorem ra_cons {h : Hp} {m : Md} {ms : List Md} {v : Value} {vs : List Value} {a : SArg} {aqs : List SArg} (e : readArg h m v = some a) (t : readArgs h ms vs = some aqs) : readArgs h (m :: ms) (v :: vs) = some (a :: aqs) := by
  simp only [readArgs, e, t]
theorem ra_slI {h : Hp} {b o n i m sz : Nat} {k : IntKind} {own : Bool} {xs : List Int} (ho : aget h b = some (.row own (vI k xs))) (hs : sz = 1) (e0 : o = i) (en : n = m) (hle : i + m ≤ xs.length) : readArg h (.sl 1) (.slice (some ⟨b, o, none⟩) n sz) = some (.sl m (vI k ((xs.drop i).take m))) := by
  subst hs e0 en
  have e1 : ((vI k xs).drop o).take (n * 1) = vI k ((xs.drop o).take n) := by rw [vI_drop, vI_take, Nat.mul_one]
  simp only [readArg, ho, flatO, VObj.cs, ↓reduceIte]
  rw [if_pos (by simp; omega), e1, vI_flat]; rfl
theorem ra_slS {h : Hp} {b o n i m sz : Nat} {own : Bool} {xs : List (List UInt8)} (ho : aget h b = some (.row own (vS xs))) (hs : sz = 1) (e0 : o = i) (en : n = m) (hle : i + m ≤ xs.length) : readArg h (.sl 1) (.slice (some ⟨b, o, none⟩) n sz) = some (.sl m (vS ((xs.drop i).take m))) := by
  subst hs e0 en
  have e1 : ((vS xs).drop o).take (n * 1) = vS ((xs.drop o).take n) := by rw [vS_drop, vS_take, Nat.mul_one]
  simp only [readArg, ho, flatO, VObj.cs, ↓reduceIte]
  rw [if_pos (by simp; omega), e1, vS_flat]; rfl
theorem ra_slB {h : Hp} {b o n i m sz : Nat} {own : Bool} {xs : List Bool} (ho : aget h b = some (.row own (vB xs))) (hs : sz = 1) (e0 : o = i) (en : n = m) (hle : i + m ≤ xs.length) : readArg h (.sl 1) (.slice (some ⟨b, o, none⟩) n sz) = some (.sl m (vB ((xs.drop i).take m))) := by
  subst hs e0 en
  have e1 : ((vB xs).drop o).take (n * 1) = vB ((xs.drop o).take n) := by rw [vB_drop, vB_take, Nat.mul_one]
  simp only [readArg, ho, flatO, VObj.cs, ↓reduceIte]
  rw [if_pos (by simp; omega), e1, vB_flat]; rfl
/-- a whole row -/
theorem ra_allI {h : Hp} {b o n sz : Nat} {k : IntKind} {own : Bool} {xs : List Int} (ho : aget h b = some (.row own (vI k xs))) (hs : sz = 1) (e0 : o = 0) (en : n = xs.length) : readArg h (.sl 1) (.slice (some ⟨b, o, none⟩) n sz) = some (.sl xs.length (vI k xs)) := by
  have := ra_slI (i := 0) (m := xs.length) ho hs e0 en (by omega)
  simpa using this
theorem ra_allS {h : Hp} {b o n sz : Nat} {own : Bool} {xs : List (List UInt8)} (ho : aget h b = some (.row own (vS xs))) (hs : sz = 1) (e0 : o = 0) (en : n = xs.length) : readArg h (.sl 1) (.slice (some ⟨b, o, none⟩) n sz) = some (.sl xs.length (vS xs)) := by
  have := ra_slS (i := 0) (m := xs.length) ho hs e0 en (by omega)
  simpa using this
theorem ra_allB {h : Hp} {b o n sz : Nat} {own : Bool} {xs : List Bool} (ho : aget h b = some (.row own (vB xs))) (hs : sz = 1) (e0 : o = 0) (en : n = xs.length) : readArg h (.sl 1) (.slice (some ⟨b, o, none⟩) n sz) = some (.sl xs.length (vB xs)) := by
  have := ra_slB (i := 0) (m := xs.length) ho hs e0 en (by omega)
  simpa using this

/-! what a summary's run takes apart -/
def asS : Value → Option (List UInt8) | .string s => some s.data.toList | _ => none
theorem asS_eq (v : Value) (x : List UInt8) (h : asS v = some x) : v = .string ⟨⟨x⟩⟩ := by cases v <;> simp [asS] at h; subst h; rfl
theorem unI_vI (k : IntKind) (xs : List Int) : unL (asI k) (vI k xs) = some xs := unL_map (fun x => by simp [asI]) xs
theorem unB_vB (xs : List Bool) : unL asB (vB xs) = some xs := unL_map (fun x => by simp [asB]) xs
theorem unS_vS (xs : List (List UInt8)) : unL asS (vS xs) = some xs := unL_map (g := fun s => Value.string ⟨⟨s⟩⟩) (fun x => by simp [asS]) xs
theorem unI_eq {k : IntKind} {cs : List Value} {xs : List Int} (h : unL (asI k) cs = some xs) : cs = vI k xs := unL_eq (asI_eq k) h
theorem unB_eq {cs : List Value} {xs : List Bool} (h : unL asB cs = some xs) : cs = vB xs := unL_eq asB_eq h
theorem unS_eq {cs : List Value} {xs : List (List UInt8)} (h : unL asS cs = some xs) : cs = vS xs := unL_eq (g := fun s => Value.string ⟨⟨s⟩⟩) asS_eq h
end Go.Vm
namespace Go.Vm
open Go Go.RowKit
/-- the operations from one on -/
def opsD (c : VC) (n : Nat) : List VOper := match c with | .reg ops => ops.drop n | _ => []
theorem rdlI {k : IntKind} {xs : List Int} {o i : Nat} {x : Int} (hx : xs[i]? = some x) (e : o = i) : (vI k xs)[o]? = some (.int k x) := by subst e; simp [vI, hx]
theorem rdlB {xs : List Bool} {o i : Nat} {x : Bool} (hx : xs[i]? = some x) (e : o = i) : (vB xs)[o]? = some (.bool x) := by subst e; simp [vB, hx]
theorem rdlS {xs : List (List UInt8)} {o i : Nat} {x : List UInt8} (hx : xs[i]? = some x) (e : o = i) : (vS xs)[o]? = some (.string ⟨⟨x⟩⟩) := by subst e; simp [vS, hx]
end Go.Vm
namespace Go.Vm
open Go Go.RowKit
theorem st_I {k : IntKind} {xs : List Int} {o i : Nat} {x : Int} {K : List Value → Prop} (hb : decide (i < xs.length) = true) (e : o = i) (h : K (vI k (xs.set i x))) :
    req (decide ((cellsL (.int k x)).length = 1 ∧ o + 1 ≤ (vI k xs).length) && (cellsL (.int k x)).all oneC) (∃ cs', setAt (vI k xs) o (cellsL (.int k x)) = cs' ∧ K cs') := req.intro (req_stI hb e) (pk_stI e h)
theorem st_B {xs : List Bool} {o i : Nat} {x : Bool} {K : List Value → Prop} (hb : decide (i < xs.length) = true) (e : o = i) (h : K (vB (xs.set i x))) :
    req (decide ((cellsL (.bool x)).length = 1 ∧ o + 1 ≤ (vB xs).length) && (cellsL (.bool x)).all oneC) (∃ cs', setAt (vB xs) o (cellsL (.bool x)) = cs' ∧ K cs') := req.intro (req_stB hb e) (pk_stB e h)
theorem st_S {xs : List (List UInt8)} {o i : Nat} {x : List UInt8} {K : List Value → Prop} (hb : decide (i < xs.length) = true) (e : o = i) (h : K (vS (xs.set i x))) :
    req (decide ((cellsL (.string ⟨⟨x⟩⟩)).length = 1 ∧ o + 1 ≤ (vS xs).length) && (cellsL (.string ⟨⟨x⟩⟩)).all oneC) (∃ cs', setAt (vS xs) o (cellsL (.string ⟨⟨x⟩⟩)) = cs' ∧ K cs') := req.intro (req_stS hb e) (pk_stS e h)
end Go.Vm
namespace Go.Vm
theorem br.h2 {α : Type} {b b' : Bool} {X Y : Option α} {r : α} {p q : Prop} (h : cond b' X Y = some r) (e : b = b') (k2 : b' = false → Y = some r → q) (k1 : b' = true → X = some r → p) : br b p q := br.h h e k1 k2
end Go.Vm
namespace Go.Vm
open Go Go.RowKit
/-! a nil slice as one of no elements with a block of its own -/
theorem VR.ofNil {ρ : Ren} {s : Nat} {rv : Value} (h : VR ρ (.slice none 0 s) rv) (j sz : Nat) : VR ρ (.slice (some ⟨j, 0, none⟩) 0 sz) rv := by
  cases h; exact .slice0 none
theorem Leads.nilT {P : Program} {f base fn nt s : Nat} {e : Env} {todo : List VItem} {ds : List Nat} {ret : Bool} {rd : Option Nat} {up : List VFrame} {H : Hp} {top : Nat} {R : Value → Hp → Nat → Prop} (t sz : Nat)
    (h : Leads P f base ⟨⟨fn, nt, aput e t (.slice (some ⟨top, 0, none⟩) 0 sz), todo, ds, ret, rd⟩, up, aput H top (.row true []), top + 1⟩ R) (he : aget e t = some (.slice none 0 s) := by rfl) :
    Leads P f base ⟨⟨fn, nt, e, todo, ds, ret, rd⟩, up, H, top⟩ R := by
  refine ⟨fun w0 U ρ rf rfs w cs hr => ?_⟩
  have hx := Ext.upd (l := ⟨0, 0, 0⟩) hr.heap.off0
  have hcur : FrR P (upd ρ top ⟨0, 0, 0⟩) ⟨fn, nt, aput e t (.slice (some ⟨top, 0, none⟩) 0 sz), todo, ds, ret, rd⟩ rf :=
    { hr.cur.mono hx with
      env := fun i v hv => by
        rw [aget_aput] at hv
        split at hv
        · rename_i hi; subst hi; cases hv
          obtain ⟨v', a, b⟩ := hr.cur.env t _ he
          exact ⟨v', a, (VR.ofNil b _ _).mono hx⟩
        · exact (hr.cur.env.mono hx) i v hv }
  obtain ⟨ρ', rv, fr', w', v, H', top', h1, h2, h3, h4, h5, h6, h7⟩ := h.get w0 U _ rf rfs w cs ⟨hcur, hr.up.mono (fun _ _ x => x.mono hx), empty_row hr.heap⟩
  exact ⟨ρ', rv, fr', w', v, H', top', h1, h2, h3, h4, h5, fun i l hi hl => h6 i l hi (hx _ _ hl), h7⟩

theorem Leads.nilC {P : Program} {f base s : Nat} {fr : VFrame} {up : List VFrame} {H : Hp} {top : Nat} {R : Value → Hp → Nat → Prop} (b i sz : Nat) {cs : List Value}
    (h : Leads P f base ⟨fr, up, aput (aput H b (.cells (cs.set i (.slice (some ⟨top, 0, none⟩) 0 sz)))) top (.row true []), top + 1⟩ R) (hb : aget H b = some (.cells cs) := by rfl) (hi : cs[i]? = some (.slice none 0 s) := by rfl) :
    Leads P f base ⟨fr, up, H, top⟩ R := by
  refine ⟨fun w0 U ρ rf rfs w cs' hr => ?_⟩
  have hx := Ext.upd (l := ⟨0, 0, 0⟩) hr.heap.off0
  have hp : HpR P w0 (.of U) ρ (aput H b (.cells (cs.set i (.slice (some ⟨top, 0, none⟩) 0 sz)))) top w :=
    { hr.heap with
      obj := fun j o ho => by
        rw [aget_aput] at ho
        split at ho
        · rename_i hj; subst hj; cases ho
          obtain ⟨l, hl, hc, hw⟩ := hr.heap.obj b _ hb
          refine ⟨l, hl, ?_, fun _ => hw rfl⟩
          obtain ⟨g1, g2, g3⟩ := (hc : CellsR ρ w l true cs)
          refine ⟨by simpa using g1, fun k v hv => ?_, g3⟩
          rw [List.getElem?_set] at hv
          split at hv
          · rename_i hk; subst hk
            split at hv
            · cases hv
              obtain ⟨v', a, b'⟩ := g2 i _ hi
              exact ⟨v', a, VR.ofNil b' _ _⟩
            · cases hv
          · exact g2 k v hv
        · exact hr.heap.obj j o ho
      dis := fun j k oj ok lj lk hjk hj hk hlj hlk hw => by
        have key : ∀ j o, aget (aput H b (.cells (cs.set i (.slice (some ⟨top, 0, none⟩) 0 sz)))) j = some o → ∃ o', aget H j = some o' ∧ (writable o = true → writable o' = true) := fun j o ho => by
          rw [aget_aput] at ho
          split at ho
          · rename_i hj; subst hj; exact ⟨_, hb, fun _ => rfl⟩
          · exact ⟨o, ho, id⟩
        obtain ⟨oj', a1, a2⟩ := key j oj hj
        obtain ⟨ok', b1, _⟩ := key k ok hk
        exact hr.heap.dis j k oj' ok' lj lk hjk a1 b1 hlj hlk (a2 hw) }
  obtain ⟨ρ', rv, fr', w', v, H', top', h1, h2, h3, h4, h5, h6, h7⟩ := h.get w0 U _ rf rfs w cs' ⟨hr.cur.mono hx, hr.up.mono (fun _ _ x => x.mono hx), empty_row hp⟩
  exact ⟨ρ', rv, fr', w', v, H', top', h1, h2, h3, h4, h5, fun i l hi hl => h6 i l hi (hx _ _ hl), h7⟩

mutual
inductive Nv (j : Nat) : Value → Value → Prop
  | same (v) : Nv j v v
  | nil (s sz) : Nv j (.slice none 0 s) (.slice (some ⟨j, 0, none⟩) 0 sz)
  | tup {a b : List Value} (h : NvL j a b) : Nv j (.tuple ⟨a⟩) (.tuple ⟨b⟩)
inductive NvL (j : Nat) : List Value → List Value → Prop
  | nil : NvL j [] []
  | cons {v v' : Value} {l l' : List Value} (h : Nv j v v') (t : NvL j l l') : NvL j (v :: l) (v' :: l')
end
mutual
theorem Nv.vr {j : Nat} {ρ : Ren} : ∀ {v v' : Value}, Nv j v v' → ∀ {rv : Value}, VR ρ v rv → VR ρ v' rv
  | _, _, .same v, _, h => h
  | _, _, .nil s sz, _, h => VR.ofNil h _ _
  | _, _, .tup hl, _, h => by cases h with | tuple ht => exact .tuple (NvL.vr hl ht)
theorem NvL.vr {j : Nat} {ρ : Ren} : ∀ {l l' : List Value}, NvL j l l' → ∀ {rl : List Value}, VRL ρ l rl → VRL ρ l' rl
  | _, _, .nil, _, h => h
  | _, _, .cons hv ht, _, h => by cases h with | cons a b => exact .cons (Nv.vr hv a) (NvL.vr ht b)
end
theorem Leads.nilE {P : Program} {f base : Nat} {vm : VM} {R : Value → Hp → Nat → Prop} (h : Leads P f base vm (fun v H t => R v H t ∨ ∃ v', Nv t v v' ∧ R v' (aput H t (.row true [])) (t + 1))) : Leads P f base vm R := by
  refine ⟨fun w0 U ρ rf rfs w cs hr => ?_⟩
  obtain ⟨ρ', rv, fr', w', v, H', top', h1, h2, h3, h4, h5, h6, h7⟩ := h.get w0 U ρ rf rfs w cs hr
  rcases h7 with h7 | ⟨v', hn, h7⟩
  · exact ⟨ρ', rv, fr', w', v, H', top', h1, h2, h3, h4, h5, h6, h7⟩
  · have hx := Ext.upd (l := ⟨0, 0, 0⟩) h5.off0
    exact ⟨_, rv, fr', w', v', _, top' + 1, h1, h2, h3, (hn.vr h4).mono hx, empty_row h5, fun i l hi hl => hx _ _ (h6 i l hi hl), h7⟩

theorem addNew_I {h : Hp} {top : Nat} {k : IntKind} {xs : List Int} : addNew h top [vI k xs] = some (aput h top (.row true (vI k xs)), top + 1) := by simp only [addNew, vI_flat, ↓reduceIte]
theorem addNew_B {h : Hp} {top : Nat} {xs : List Bool} : addNew h top [vB xs] = some (aput h top (.row true (vB xs)), top + 1) := by simp only [addNew, vB_flat, ↓reduceIte]
theorem addNew_S {h : Hp} {top : Nat} {xs : List (List UInt8)} : addNew h top [vS xs] = some (aput h top (.row true (vS xs)), top + 1) := by simp only [addNew, vS_flat, ↓reduceIte]
end Go.Vm
namespace Go.Vm
theorem ap_req {A B C D : Prop} [Decidable (A ∧ B ∧ C ∧ D)] {p q : Bool} (a : A) (b : B) (c : C) (d : D) (e : p = true) (g : q = true) : (decide (A ∧ B ∧ C ∧ D) && p && q) = true := by
  rw [decide_eq_true ⟨a, b, c, d⟩, e, g]; rfl
theorem ap0_req {A D : Prop} [Decidable (A ∧ D)] (a : A) (d : D) : decide (A ∧ D) = true := decide_eq_true ⟨a, d⟩
end Go.Vm
namespace Go.Vm
open Go Go.RowKit
/-- the objects of some blocks cell by cell -/
def forceOL (o : VObj) (K : VObj → Prop) : Prop :=
  match o with
  | .cells cs => forceL cs fun cs => K (.cells cs)
  | .row own cs => forceL cs fun cs => K (.row own cs)
  | .siter s p => K (.siter s p)
  | .loop l => K (.loop l)
  | .marks => K .marks
theorem forceOL_eq (o : VObj) (K : VObj → Prop) : forceOL o K = K o := by
  cases o <;> simp only [forceOL, forceL_eq]
def forceH2 (bs : List Nat) (h : Hp) (K : Hp → Prop) : Prop :=
  match h with
  | [] => K []
  | (i, o) :: l => cond (memB i bs) (forceOL o fun o => forceH2 bs l fun l => K ((i, o) :: l)) (forceO o fun o => forceH2 bs l fun l => K ((i, o) :: l))
theorem forceH2_eq (bs : List Nat) : ∀ (h : Hp) (K : Hp → Prop), forceH2 bs h K = K h
  | [], K => rfl
  | (i, o) :: l, K => by
    rw [forceH2]
    cases memB i bs
    · rw [cond_false, forceO_eq, forceH2_eq bs l]
    · rw [cond_true, forceOL_eq, forceH2_eq bs l]
theorem sumK.introF {s : Summ} {vals : List Value} {h : Hp} {top : Nat} {K : Value → Hp → Nat → Prop} {v : Value} {h' : Hp} {top' : Nat} (bs : List Nat) (e : sumRun s vals h top = some (v, h', top')) (k : forceV v fun v => forceH2 bs h' fun h' => K v h' top') : sumK s vals h top K :=
  sumK.intro e (by simpa only [forceV_eq, forceH2_eq] using k)
end Go.Vm
namespace Go.Vm
theorem vS_of (xs : List ByteArray) : xs.map Value.string = vS (xs.map fun s => s.data.toList) := by simp [vS, List.map_map, Function.comp_def]
end Go.Vm
