import Derived.Test.YtdnhoocoofnibaaVmDef
import Derived.WalkKit
namespace Go.Vm
open Go Go.RowKit
theorem aget_adel_same {α : Type} (l : List (Nat × α)) (i : Nat) : aget (adel l i) i = none := by
  induction l with
  | nil => rfl
  | cons x l ih =>
    obtain ⟨j, x⟩ := x
    simp only [adel]
    cases h : Nat.beq j i with
    | true => simpa [h] using ih
    | false => simp [aget, h, ih]
theorem aget_adel_ne {α : Type} (l : List (Nat × α)) {i j : Nat} (h : i ≠ j) : aget (adel l i) j = aget l j := by
  induction l with
  | nil => rfl
  | cons x l ih =>
    obtain ⟨k, x⟩ := x
    simp only [adel, aget]
    cases hk : Nat.beq k i with
    | true =>
      have : k = i := Nat.eq_of_beq_eq_true hk
      subst this
      have hn : Nat.beq k j = false := by
        cases hb : Nat.beq k j with
        | true => exact absurd (Nat.eq_of_beq_eq_true hb) h
        | false => rfl
      simp [hn, ih]
    | false => simp [aget, ih]
theorem aget_aput_same {α : Type} (l : List (Nat × α)) (i : Nat) (x : α) : aget (aput l i x) i = some x := by
  simp [aput, aget, Nat.beq_refl]
theorem aget_aput_ne {α : Type} (l : List (Nat × α)) {i j : Nat} (x : α) (h : i ≠ j) : aget (aput l i x) j = aget l j := by
  have hn : Nat.beq i j = false := by
    cases hb : Nat.beq i j with
    | true => exact absurd (Nat.eq_of_beq_eq_true hb) h
    | false => rfl
  simp [aput, aget, hn, aget_adel_ne _ h]
theorem aget_aput {α : Type} (l : List (Nat × α)) (i j : Nat) (x : α) : aget (aput l i x) j = if i = j then some x else aget l j := by
  by_cases h : i = j
  · subst h; simp [aget_aput_same]
  · simp [h, aget_aput_ne _ _ h]
theorem aget_adel {α : Type} (l : List (Nat × α)) (i j : Nat) : aget (adel l i) j = if i = j then none else aget l j := by
  by_cases h : i = j
  · subst h; simp [aget_adel_same]
  · simp [h, aget_adel_ne _ h]
structure Loc where
  blk : Nat
  sh : Nat
  ext : Nat
abbrev Ren := Nat → Option Loc
mutual
inductive VR (ρ : Ren) : Value → Value → Prop
  | bool (b) : VR ρ (.bool b) (.bool b)
  | int (k n) : VR ρ (.int k n) (.int k n)
  | string (s) : VR ρ (.string s) (.string s)
  | junk (k n) {v : Value} (h : oneC v = true) : VR ρ (.float k n) v
  | nilp : VR ρ (.pointer none) (.pointer none)
  | ptr {b o : Nat} {l : Loc} (h : ρ b = some l) : VR ρ (.pointer (some ⟨b, o, none⟩)) (.pointer (some ⟨l.blk, l.sh + o, none⟩))
  | nils (sz : Nat) : VR ρ (.slice none 0 sz) (.slice none 0 0)
  | slice {b o n sz c : Nat} {l : Loc} (h : ρ b = some l) (hn : n ≤ c) (hc : o + c * sz ≤ l.ext) :
      VR ρ (.slice (some ⟨b, o, none⟩) n sz) (.slice (some ⟨l.blk, l.sh + o, none⟩) n c)
  | slice0 {b o sz : Nat} (a : Option Addr) : VR ρ (.slice (some ⟨b, o, none⟩) 0 sz) (.slice a 0 0)
  | nilf : VR ρ .nilFunc .nilFunc
  | func (f : Nat) {a b a' b' : List Value} (ha : VRL ρ a a') (hb : VRL ρ b b') : VR ρ (.func (.func f) ⟨a⟩ ⟨b⟩) (.func (.func f) ⟨a'⟩ ⟨b'⟩)
  | yield {r : Nat} {l : Loc} (h : ρ r = some l) : VR ρ (.func (.yield r) #[] #[]) (.func (.yield l.blk) #[] #[])
  | tnil (m : String) (e : Nat) : VR ρ (.func (.method m) ⟨[.slice none 0 e]⟩ ⟨[]⟩) (.slice none 0 0)
  | tsl {b n : Nat} {l : Loc} {v' : Value} (m : String) (h : ρ b = some l) (hv : (n = 0 ∧ v' = .slice none 0 0) ∨ ∃ c, v' = .slice (some ⟨l.blk, l.sh, none⟩) n c ∧ n ≤ c ∧ 0 < c ∧ c ≤ l.ext) :
      VR ρ (.func (.method m) ⟨[.slice (some ⟨b, 0, none⟩) n 1]⟩ ⟨[]⟩) v'
  | sdat {b n : Nat} {l : Loc} {p : Option Addr} (m : String) (h : ρ b = some l) (hp : 0 < n → p = some ⟨l.blk, l.sh, none⟩) : VR ρ (.func (.method m) ⟨[.slice (some ⟨b, 0, none⟩) n 1]⟩ ⟨[.bool true]⟩) (.pointer p)
  | nili : VR ρ .nilIface .nilIface
  | iface (t : Nat) {v v' : Value} (h : VR ρ v v') : VR ρ (.iface t v) (.iface t v')
  | agg {a a' : List Value} (h : VRL ρ a a') : VR ρ (.agg ⟨a⟩) (.agg ⟨a'⟩)
  | tuple {a a' : List Value} (h : VRL ρ a a') : VR ρ (.tuple ⟨a⟩) (.tuple ⟨a'⟩)
inductive VRL (ρ : Ren) : List Value → List Value → Prop
  | nil : VRL ρ [] []
  | cons {v v' : Value} {l l' : List Value} (h : VR ρ v v') (hl : VRL ρ l l') : VRL ρ (v :: l) (v' :: l')
end
def Ext (ρ ρ' : Ren) : Prop := ∀ b l, ρ b = some l → ρ' b = some l
theorem Ext.refl (ρ : Ren) : Ext ρ ρ := fun _ _ h => h
theorem Ext.trans {a b c : Ren} (h : Ext a b) (k : Ext b c) : Ext a c := fun _ _ x => k _ _ (h _ _ x)
mutual
theorem VR.mono {ρ ρ' : Ren} (e : Ext ρ ρ') : ∀ {v v' : Value}, VR ρ v v' → VR ρ' v v'
  | _, _, .bool b => .bool b
  | _, _, .int k n => .int k n
  | _, _, .string s => .string s
  | _, _, .junk k n h => .junk k n h
  | _, _, .nilp => .nilp
  | _, _, .ptr h => .ptr (e _ _ h)
  | _, _, .nils s => .nils s
  | _, _, .slice h hn hc => .slice (e _ _ h) hn hc
  | _, _, .slice0 a => .slice0 a
  | _, _, .nilf => .nilf
  | _, _, .func f ha hb => .func f (VRL.mono e ha) (VRL.mono e hb)
  | _, _, .yield h => .yield (e _ _ h)
  | _, _, .tnil m t => .tnil m t
  | _, _, .tsl m h hv => .tsl m (e _ _ h) hv
  | _, _, .sdat m h hp => .sdat m (e _ _ h) hp
  | _, _, .nili => .nili
  | _, _, .iface t h => .iface t (VR.mono e h)
  | _, _, .agg h => .agg (VRL.mono e h)
  | _, _, .tuple h => .tuple (VRL.mono e h)
theorem VRL.mono {ρ ρ' : Ren} (e : Ext ρ ρ') : ∀ {v v' : List Value}, VRL ρ v v' → VRL ρ' v v'
  | _, _, .nil => .nil
  | _, _, .cons h hl => .cons (VR.mono e h) (VRL.mono e hl)
end
theorem VRL.length {ρ : Ren} : ∀ {a b : List Value}, VRL ρ a b → a.length = b.length
  | _, _, .nil => rfl
  | _, _, .cons _ hl => by simp [VRL.length hl]
theorem VRL.get {ρ : Ren} : ∀ {a b : List Value}, VRL ρ a b → ∀ {i : Nat} {v : Value}, a[i]? = some v → ∃ v', b[i]? = some v' ∧ VR ρ v v'
  | _, _, .nil, _, _, h => by simp at h
  | _, _, .cons (v' := v') h hl, 0, _, e => by simp at e; subst e; exact ⟨v', rfl, h⟩
  | _, _, .cons h hl, i + 1, _, e => by simpa using VRL.get hl (i := i) (by simpa using e)
theorem VRL.append {ρ : Ren} : ∀ {a b c d : List Value}, VRL ρ a b → VRL ρ c d → VRL ρ (a ++ c) (b ++ d)
  | _, _, _, _, .nil, k => k
  | _, _, _, _, .cons h hl, k => .cons h (VRL.append hl k)
theorem VRL.drop {ρ : Ren} : ∀ {a b : List Value} (n : Nat), VRL ρ a b → VRL ρ (a.drop n) (b.drop n)
  | _, _, 0, h => by simpa using h
  | _, _, n + 1, .nil => by simpa using VRL.nil
  | _, _, n + 1, .cons _ hl => by simpa using VRL.drop n hl
theorem VRL.take {ρ : Ren} : ∀ {a b : List Value} (n : Nat), VRL ρ a b → VRL ρ (a.take n) (b.take n)
  | _, _, 0, h => by simpa using VRL.nil
  | _, _, n + 1, .nil => by simpa using VRL.nil
  | _, _, n + 1, .cons h hl => by simpa using VRL.cons h (VRL.take n hl)
theorem VRL.set {ρ : Ren} : ∀ {a b : List Value} (n : Nat) {v v' : Value}, VRL ρ a b → VR ρ v v' → VRL ρ (a.set n v) (b.set n v')
  | _, _, _, _, _, .nil, _ => by simpa using VRL.nil
  | _, _, 0, _, _, .cons _ hl, k => by simpa using VRL.cons k hl
  | _, _, n + 1, _, _, .cons h hl, k => by simpa using VRL.cons h (VRL.set n hl k)
theorem VRL.setAt {ρ : Ren} : ∀ {c d : List Value} {a b : List Value} (n : Nat), VRL ρ a b → VRL ρ c d → VRL ρ (setAt a n c) (Vm.setAt b n d)
  | _, _, _, _, n, h, .nil => by simpa [Vm.setAt] using h
  | _, _, _, _, n, h, .cons k kl => by simpa [Vm.setAt] using VRL.setAt (n + 1) (VRL.set n h k) kl
theorem VRL.of_get {ρ : Ren} : ∀ {a b : List Value}, a.length = b.length → (∀ (i : Nat) v, a[i]? = some v → ∃ v', b[i]? = some v' ∧ VR ρ v v') → VRL ρ a b
  | [], [], _, _ => .nil
  | [], _ :: _, h, _ => by simp at h
  | _ :: _, [], h, _ => by simp at h
  | x :: a, y :: b, h, g => by
    refine .cons ?_ (VRL.of_get (by simpa using h) fun i v e => by simpa using g (i + 1) v (by simpa using e))
    obtain ⟨v', e, r⟩ := g 0 x rfl
    simp at e; subst e; exact r
mutual
theorem VR.flat (ρ : Ren) : ∀ (v : Value), flatV v = true → VR ρ v v
  | .bool b, _ => .bool b
  | .int k n, _ => .int k n
  | .string s, _ => .string s
  | .pointer none, _ => .nilp
  | .pointer (some _), h => by simp [flatV] at h
  | .slice none 0 0, _ => .nils 0
  | .slice none 0 (_ + 1), h => by simp [flatV] at h
  | .slice none (_ + 1) _, h => by simp [flatV] at h
  | .slice (some _) _ _, h => by simp [flatV] at h
  | .nilFunc, _ => .nilf
  | .nilIface, _ => .nili
  | .agg ⟨l⟩, h => .agg (VRL.flat ρ l (by simpa [flatV] using h))
  | .tuple ⟨l⟩, h => .tuple (VRL.flat ρ l (by simpa [flatV] using h))
  | .iface t v, h => .iface t (VR.flat ρ v (by simpa [flatV] using h))
  | .float .., h => by simp [flatV] at h
  | .complex .., h => by simp [flatV] at h
  | .map _, h => by simp [flatV] at h
  | .chan _, h => by simp [flatV] at h
  | .func .., h => by simp [flatV] at h
theorem VRL.flat (ρ : Ren) : ∀ (l : List Value), flatV.flatL l = true → VRL ρ l l
  | [], _ => .nil
  | v :: l, h => by
    simp only [flatV.flatL, Bool.and_eq_true] at h
    exact .cons (VR.flat ρ v h.1) (VRL.flat ρ l h.2)
end
end Go.Vm
