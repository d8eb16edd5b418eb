import Derived.Test.YtdnhoocoofnibaaVmComp
namespace Go.Vm
open Go Go.RowKit
def EnvR (ρ : Ren) (e : Env) (tmps : Array Value) : Prop := ∀ (i : Nat) v, aget e i = some v → ∃ v', tmps[i]? = some v' ∧ VR ρ v v'
theorem EnvR.mono {ρ ρ' : Ren} {e : Env} {t : Array Value} (h : EnvR ρ e t) (x : Ext ρ ρ') : EnvR ρ' e t :=
  fun i v g => let ⟨v', a, b⟩ := h i v g; ⟨v', a, b.mono x⟩
structure LoopR (P : Program) (ρ : Ren) (r : VLoop) (r' : Loop) : Prop where
  state : r'.state = r.state
  fn : r'.fn = r.fn
  size : r'.tmps.size = r.nt
  env : EnvR ρ r.env r'.tmps
  params : r'.params.toList = r.params
  asg : compC P r'.assign = some r.asg
  body : compC P r'.body = some r.body
  defers : ∃ l, ρ r.defers = some l ∧ r'.defers = l.blk
  pending : match r.pending, r'.pending with
    | none, none => True
    | some c, some c' => compC P c' = some c
    | _, _ => False
theorem LoopR.mono {P : Program} {ρ ρ' : Ren} {r : VLoop} {r' : Loop} (h : LoopR P ρ r r') (x : Ext ρ ρ') : LoopR P ρ' r r' :=
  { h with env := h.env.mono x, defers := let ⟨l, a, b⟩ := h.defers; ⟨l, x _ _ a, b⟩ }
def CellsR (ρ : Ren) (w : World) (l : Loc) (own : Bool) (cs : List Value) : Prop :=
  cs.length ≤ l.ext ∧
  (∀ (i : Nat) v, cs[i]? = some v → ∃ v', w.cell? ⟨l.blk, l.sh + i, none⟩ = some v' ∧ VR ρ v v') ∧
  (∀ i, i < l.ext → (w.cell? ⟨l.blk, l.sh + i, none⟩).isSome = true ∧ (own = true → w.frozen? ⟨l.blk, l.sh + i, none⟩ = false))
def ObjR (P : Program) (ρ : Ren) (w : World) (l : Loc) : VObj → Prop
  | .cells cs => CellsR ρ w l true cs
  | .row own cs => CellsR ρ w l own cs
  | .ty t cs => CellsR ρ w l true cs ∧ l.sh = 0 ∧ (l.ext = 0 ∨ w.shape? l.blk = some (t, l.ext))
  | .siter s p => w.heap[l.blk]? = some (.stringIter s p) ∧ l.sh = 0 ∧ l.ext = 1
  | .loop r => (∃ r', w.heap[l.blk]? = some (.loop r') ∧ LoopR P ρ r r') ∧ l.sh = 0 ∧ l.ext = 1
  | .marks => w.heap[l.blk]? = some (.deferred (some [])) ∧ l.sh = 0 ∧ l.ext = 1
def writable : VObj → Bool
  | .row own _ => own
  | _ => true
def Apart (a b : Loc) : Prop := ∀ k, a.blk = b.blk → a.sh ≤ k → k < a.sh + a.ext → b.sh ≤ k → k < b.sh + b.ext → False
theorem Apart.symm {a b : Loc} (h : Apart a b) : Apart b a := fun k e h1 h2 h3 h4 => h k e.symm h3 h4 h1 h2
def BKeep (u : Nat → Prop) : Option Obj → Option Obj → Prop
  | some (.cells arr T fr), x => ∃ arr' fr', x = some (.cells arr' T fr') ∧ arr'.size = arr.size ∧ (fr' = fr ∨ ∃ k, u k) ∧ ∀ k, ¬ u k → arr'[k]? = arr[k]? ∧ (k < arr.size → ((fr.1 ≤ k ∧ k < fr.2) ↔ (fr'.1 ≤ k ∧ k < fr'.2)))
  | o, x => u 0 ∨ x = o
theorem BKeep.refl (u : Nat → Prop) (o : Option Obj) : BKeep u o o := by
  unfold BKeep; split
  · exact ⟨_, _, rfl, rfl, .inl rfl, fun _ _ => ⟨rfl, fun _ => Iff.rfl⟩⟩
  · exact .inr rfl
structure UG where
  u : Nat → Nat → Prop
  g : Nat → Prop
  lo : Nat
def UG.of (u : Nat → Nat → Prop) : UG := ⟨u, fun _ => False, 0⟩
abbrev UG.no : UG := .of fun _ _ => False
class NG (U : UG) (top : Nat) : Prop where
  out : ¬ U.g top
  le : U.lo ≤ top
instance (u : Nat → Nat → Prop) (top : Nat) : NG (.of u) top := ⟨id, Nat.zero_le _⟩
structure Keep (U : UG) (w0 w : World) : Prop where
  os : w.os = w0.os
  tape : w.tape = w0.tape
  output : w.output = w0.output
  size : w0.heap.size ≤ w.heap.size
  block : ∀ b, b < w0.heap.size → BKeep (U.u b) w0.heap[b]? w.heap[b]?
structure HpR (P : Program) (w0 : World) (U : UG) (ρ : Ren) (H : Hp) (top : Nat) (w : World) : Prop where
  obj : ∀ i o, aget H i = some o → ∃ l, ρ i = some l ∧ ObjR P ρ w l o ∧ (writable o = true → ∀ k, l.sh ≤ k → k < l.sh + l.ext → U.u l.blk k ∨ w0.heap.size ≤ l.blk)
  dis : ∀ i j oi oj li lj, i ≠ j → aget H i = some oi → aget H j = some oj → ρ i = some li → ρ j = some lj → writable oi = true → Apart li lj
  lt : ∀ i l, ρ i = some l → U.g i ∨ (U.lo ≤ i ∧ i < top)
  keep : Keep U w0 w
theorem CellsR.stay {ρ ρ' : Ren} {w w' : World} {l : Loc} {own : Bool} {cs : List Value} (h : CellsR ρ w l own cs) (x : Ext ρ ρ')
    (hc : ∀ i, i < l.ext → w'.cell? ⟨l.blk, l.sh + i, none⟩ = w.cell? ⟨l.blk, l.sh + i, none⟩)
    (hf : ∀ i, i < l.ext → w'.frozen? ⟨l.blk, l.sh + i, none⟩ = w.frozen? ⟨l.blk, l.sh + i, none⟩) : CellsR ρ' w' l own cs := by
  obtain ⟨h1, h2, h3⟩ := h
  refine ⟨h1, fun i v e => ?_, fun i hi => ?_⟩
  · obtain ⟨v', a, b⟩ := h2 i v e
    have hi : i < cs.length := by
      rcases Nat.lt_or_ge i cs.length with h | h
      · exact h
      · simp [List.getElem?_eq_none h] at e
    exact ⟨v', by rw [hc i (by omega)]; exact a, b.mono x⟩
  · rw [hc i hi, hf i hi]; exact h3 i hi
theorem ObjR.stay {P : Program} {ρ ρ' : Ren} {w w' : World} {l : Loc} {o : VObj} (h : ObjR P ρ w l o) (x : Ext ρ ρ')
    (hc : ∀ i, i < l.ext → w'.cell? ⟨l.blk, l.sh + i, none⟩ = w.cell? ⟨l.blk, l.sh + i, none⟩)
    (hf : ∀ i, i < l.ext → w'.frozen? ⟨l.blk, l.sh + i, none⟩ = w.frozen? ⟨l.blk, l.sh + i, none⟩)
    (hb : (∀ c t f, w.heap[l.blk]? ≠ some (.cells c t f)) → 0 < l.ext → w'.heap[l.blk]? = w.heap[l.blk]?) (hs : 0 < l.ext → ∀ x, w.shape? l.blk = some x → w'.shape? l.blk = some x) : ObjR P ρ' w' l o := by
  cases o with
  | cells cs => exact CellsR.stay h x hc hf
  | row own cs => exact CellsR.stay h x hc hf
  | ty t cs =>
    refine ⟨CellsR.stay h.1 x hc hf, h.2.1, ?_⟩
    rcases h.2.2 with h0 | h0
    · exact .inl h0
    · rcases Nat.eq_zero_or_pos l.ext with he | he
      · exact .inl he
      · exact .inr (hs he _ h0)
  | siter s p => obtain ⟨a, b, c⟩ := h; exact ⟨by rw [hb (by simp [a]) (by omega)]; exact a, b, c⟩
  | loop r => obtain ⟨⟨r', a, d⟩, b, c⟩ := h; exact ⟨⟨r', by rw [hb (by simp [a]) (by omega)]; exact a, d.mono x⟩, b, c⟩
  | marks => obtain ⟨a, b, c⟩ := h; exact ⟨by rw [hb (by simp [a]) (by omega)]; exact a, b, c⟩
theorem ObjR.same {P : Program} {ρ ρ' : Ren} {w w' : World} {l : Loc} {o : VObj} (h : ObjR P ρ w l o) (x : Ext ρ ρ')
    (hb : 0 < l.ext → w'.heap[l.blk]? = w.heap[l.blk]?) : ObjR P ρ' w' l o :=
  h.stay x (fun i hi => World.cell?_of_block (w := w) (hb (by omega))) (fun i hi => World.frozen?_of_block (w := w) (hb (by omega))) (fun _ h => hb h) (fun he x h => by unfold World.shape? at h ⊢; rw [hb he]; exact h)
theorem CellsR.lt {ρ : Ren} {w : World} {l : Loc} {own : Bool} {cs : List Value} (h : CellsR ρ w l own cs) (he : 0 < l.ext) : l.blk < w.heap.size := by
  have := (h.2.2 0 he).1
  cases hc : w.cell? ⟨l.blk, l.sh + 0, none⟩ with
  | none => rw [hc] at this; simp at this
  | some u => exact World.block_lt_of_cell? w _ hc
theorem ObjR.lt {P : Program} {ρ : Ren} {w : World} {l : Loc} {o : VObj} (h : ObjR P ρ w l o) (he : 0 < l.ext) : l.blk < w.heap.size := by
  have key : ∀ (x : Obj), w.heap[l.blk]? = some x → l.blk < w.heap.size := fun x hx => by
    rcases Nat.lt_or_ge l.blk w.heap.size with h' | h'
    · exact h'
    · simp [Array.getElem?_eq_none h'] at hx
  cases o with
  | cells cs => exact CellsR.lt h he
  | row own cs => exact CellsR.lt h he
  | ty t cs => exact CellsR.lt h.1 he
  | siter s p => exact key _ h.1
  | loop r => obtain ⟨⟨r', a, _⟩, _⟩ := h; exact key _ a
  | marks => exact key _ h.1
section
variable {P : Program} {w0 w : World} {U : UG} {ρ : Ren} {H : Hp} {top : Nat}
theorem Keep.refl (U : UG) (w : World) : Keep U w w := ⟨rfl, rfl, rfl, Nat.le_refl _, fun _ _ => BKeep.refl _ _⟩
theorem Keep.drew (h : Keep U w0 w) : Keep U w0 w.drew := ⟨h.os, h.tape, h.output, h.size, h.block⟩
theorem Keep.alloc (h : Keep U w0 w) (o : Obj) : Keep U w0 (w.alloc o) :=
  ⟨h.os, h.tape, h.output, by have := h.size; simp; omega, fun b hb => by
    rw [Below.heap_alloc w o b (by have := h.size; omega)]; exact h.block b hb⟩
theorem Keep.setCell (h : Keep U w0 w) (b o : Nat) (v : Value) (hu : U.u b o ∨ w0.heap.size ≤ b) : Keep U w0 (w.setCell ⟨b, o, none⟩ v) :=
  ⟨h.os, h.tape, h.output, by have := h.size; simp; omega, fun k hk => by
    by_cases hkb : k = b
    · subst hkb
      have hU : U.u k o := hu.resolve_right (by omega)
      have := h.block k hk
      simp only [World.setCell, Array.getElem?_modify, if_true]
      cases h0 : w0.heap[k]? with
      | none => rw [Array.getElem?_eq_none_iff] at h0; omega
      | some x =>
        rw [h0] at this
        cases x with
        | cells arr T fr =>
          obtain ⟨arr', fr', e, s, q, g⟩ := this
          rw [e]
          refine ⟨arr'.setIfInBounds o v, fr', by simp, by simp [s], q, fun i hi => ?_⟩
          have : o ≠ i := fun e => hi (e ▸ hU)
          rw [Array.getElem?_setIfInBounds_ne this]; exact g i hi
        | _ =>
          simp only [BKeep] at this ⊢
          rcases this with hz | he
          · exact .inl hz
          · rw [he]; exact .inr rfl
    · rw [Below.heap_setCell _ _ _ _ (by simpa using hkb)]; exact h.block k hk⟩
theorem heap_setObj (w : World) (r : Nat) (o : Obj) (k : Nat) (h : k ≠ r) : ({ w with heap := w.heap.setIfInBounds r o } : World).heap[k]? = w.heap[k]? := by
  show (w.heap.setIfInBounds r o)[k]? = _
  rw [Array.getElem?_setIfInBounds_ne (fun e => h e.symm)]
theorem Keep.setObj (h : Keep U w0 w) (b : Nat) (o : Obj) (hu : U.u b 0 ∨ w0.heap.size ≤ b) (hc : ∀ c t f, w.heap[b]? ≠ some (.cells c t f)) :
    Keep U w0 { w with heap := w.heap.setIfInBounds b o } :=
  ⟨h.os, h.tape, h.output, by have := h.size; simpa using this, fun k hk => by
    by_cases hkb : k = b
    · subst hkb
      have hU : U.u k 0 := hu.resolve_right (by omega)
      have := h.block k hk
      cases h0 : w0.heap[k]? with
      | none => rw [Array.getElem?_eq_none_iff] at h0; omega
      | some x =>
        rw [h0] at this
        cases x with
        | cells arr T fr =>
          obtain ⟨arr', fr', e, _⟩ := this
          exact absurd e (hc _ _ _)
        | _ => exact .inl hU
    · rw [heap_setObj _ _ _ _ hkb]; exact h.block k hk⟩
theorem Keep.below (h : Keep U w0 w) {w' : World} (b : Below w.heap.size w w') : Keep U w0 w' :=
  ⟨b.os.trans h.os, b.tape.trans h.tape, b.output.trans h.output, Nat.le_trans h.size b.size, fun k hk => by
    rw [b.block k (by have := h.size; omega)]; exact h.block k hk⟩
theorem Keep.toBelow (h : Keep UG.no w0 w) : Below w0.heap.size w0 w :=
  ⟨h.os, h.tape, h.output, h.size, fun k hk => by
    have := h.block k hk
    cases h0 : w0.heap[k]? with
    | none => rw [Array.getElem?_eq_none_iff] at h0; omega
    | some x =>
      rw [h0] at this
      cases x with
      | cells arr T fr =>
        obtain ⟨arr', fr', e, s, q, g⟩ := this
        have : arr' = arr := Array.ext_getElem? fun i => (g i (fun h => h)).1
        have hq : fr' = fr := by
          rcases q with q | ⟨k, hk⟩
          · exact q
          · exact hk.elim
        rw [e, this, hq]
      | _ =>
        rcases this with hz | he
        · exact absurd hz (fun h => h)
        · exact he⟩
theorem HpR.blk_lt (h : HpR P w0 U ρ H top w) {i : Nat} {o : VObj} {l : Loc} (ho : aget H i = some o) (hl : ρ i = some l) (he : 0 < l.ext) : l.blk < w.heap.size := by
  obtain ⟨l', hl', hr, _⟩ := h.obj i o ho
  rw [hl] at hl'; cases hl'
  exact hr.lt he
theorem HpR.kept (h : HpR P w0 U ρ H top w) {w' : World} (hk : Keep U w0 w') (hb : ∀ k, k < w.heap.size → w'.heap[k]? = w.heap[k]?) : HpR P w0 U ρ H top w' where
  obj i o ho := by
    obtain ⟨l, hl, hr, hw⟩ := h.obj i o ho
    exact ⟨l, hl, hr.same (Ext.refl ρ) (fun he => hb _ (hr.lt he)), hw⟩
  dis := h.dis
  lt := h.lt
  keep := hk
theorem HpR.drew (h : HpR P w0 U ρ H top w) : HpR P w0 U ρ H top w.drew := h.kept h.keep.drew (fun _ _ => rfl)
def upd (ρ : Ren) (i : Nat) (l : Loc) : Ren := fun j => if i = j then some l else ρ j
theorem upd_same (ρ : Ren) (i : Nat) (l : Loc) : upd ρ i l i = some l := by simp [upd]
theorem upd_ne (ρ : Ren) {i j : Nat} (l : Loc) (h : i ≠ j) : upd ρ i l j = ρ j := by simp [upd, h]
theorem Ext.upd {ρ : Ren} {i : Nat} {l : Loc} (h : ρ i = none) : Ext ρ (upd ρ i l) := fun j l' e => by
  by_cases hij : i = j
  · subst hij; rw [h] at e; cases e
  · rw [upd_ne _ _ hij]; exact e
theorem HpR.off0 [hn : NG U top] (h : HpR P w0 U ρ H top w) : ρ top = none := by
  cases e : ρ top with
  | none => rfl
  | some l =>
    rcases h.lt top l e with h1 | h1
    · exact (hn.out h1).elim
    · omega
theorem HpR.new [hn : NG U top] (h : HpR P w0 U ρ H top w) {w' : World} {l : Loc} {o : VObj} (hk : Keep U w0 w') (hb : ∀ k, k < w.heap.size → w'.heap[k]? = w.heap[k]?)
    (ho : ObjR P (upd ρ top l) w' l o) (hl : w.heap.size ≤ l.blk ∨ l.ext = 0) :
    HpR P w0 U (upd ρ top l) (aput H top o) (top + 1) w' where
  obj i x hx := by
    rw [aget_aput] at hx
    by_cases hi : top = i
    · subst hi
      rw [if_pos rfl] at hx; cases hx
      refine ⟨l, upd_same _ _ _, ho, fun _ k h1 h2 => ?_⟩
      rcases hl with hl | hl
      · exact .inr (Nat.le_trans h.keep.size hl)
      · omega
    · rw [if_neg hi] at hx
      obtain ⟨l', hl', hr, hw⟩ := h.obj i x hx
      exact ⟨l', by rw [upd_ne _ _ hi]; exact hl', hr.same (Ext.upd (h.off0)) (fun he => hb _ (hr.lt he)), hw⟩
  dis i j oi oj li lj hij hi hj hli hlj hw := by
    have key : ∀ (j : Nat) oj lj, aget H j = some oj → ρ j = some lj → Apart l lj := fun j oj lj hj hlj k e h1 h2 h3 h4 => by
      have := h.blk_lt hj hlj (by omega)
      omega
    rw [aget_aput] at hi hj
    by_cases h1 : top = i
    · subst h1
      rw [if_neg hij] at hj
      rw [upd_same] at hli; cases hli
      rw [upd_ne _ _ hij] at hlj
      exact key j oj lj hj hlj
    · rw [if_neg h1] at hi
      rw [upd_ne _ _ h1] at hli
      by_cases h2 : top = j
      · subst h2
        rw [upd_same] at hlj; cases hlj
        exact (key i oi li hi hli).symm
      · rw [if_neg h2] at hj
        rw [upd_ne _ _ h2] at hlj
        exact h.dis i j oi oj li lj hij hi hj hli hlj hw
  lt i l' e := by
    by_cases hi : top = i
    · have := hn.le; omega
    · rw [upd_ne _ _ hi] at e; exact (h.lt i l' e).imp id (fun h => by omega)
  keep := hk
theorem HpR.put (h : HpR P w0 U ρ H top w) {w' : World} {i : Nat} {l : Loc} {o o' : VObj} (hi : aget H i = some o) (hl : ρ i = some l) (hw : writable o = true)
    (hk : Keep U w0 w') (ho : ObjR P ρ w' l o')
    (hc : ∀ b k, ¬ (b = l.blk ∧ l.sh ≤ k ∧ k < l.sh + l.ext) → w'.cell? ⟨b, k, none⟩ = w.cell? ⟨b, k, none⟩)
    (hf : ∀ b k, ¬ (b = l.blk ∧ l.sh ≤ k ∧ k < l.sh + l.ext) → w'.frozen? ⟨b, k, none⟩ = w.frozen? ⟨b, k, none⟩)
    (hb : ∀ b, (∀ c t f, w.heap[b]? ≠ some (.cells c t f)) → ¬ (b = l.blk ∧ l.sh = 0 ∧ 0 < l.ext) → w'.heap[b]? = w.heap[b]?)
    (hT : ∀ b x, w.shape? b = some x → w'.shape? b = some x) :
    HpR P w0 U ρ (aput H i o') top w' where
  obj j x hx := by
    rw [aget_aput] at hx
    by_cases hij : i = j
    · subst hij
      rw [if_pos rfl] at hx; cases hx
      obtain ⟨l', hl', hr, hwr⟩ := h.obj i o hi
      rw [hl] at hl'; cases hl'
      exact ⟨l, hl, ho, fun _ => hwr hw⟩
    · rw [if_neg hij] at hx
      obtain ⟨l', hl', hr, hwr⟩ := h.obj j x hx
      have ap := h.dis i j o x l l' hij hi hx hl hl' hw
      refine ⟨l', hl', hr.stay (Ext.refl ρ) (fun k hk => hc _ _ fun ⟨e, h1, h2⟩ => ap (l'.sh + k) e.symm h1 h2 (by omega) (by omega))
        (fun k hk => hf _ _ fun ⟨e, h1, h2⟩ => ap (l'.sh + k) e.symm h1 h2 (by omega) (by omega)) (fun hcell he => hb _ hcell fun ⟨e, h1, h2⟩ => ?_) (fun _ x => hT _ x), hwr⟩
      have : l'.sh = 0 := by
        cases x with
        | cells cs =>
          exfalso
          have := (hr.2.2 0 he).1
          unfold World.cell? at this
          cases hh : w.heap[l'.blk]? with
          | none => simp [hh] at this
          | some y => cases y <;> simp [hh] at this <;> exact hcell _ _ _ hh
        | row own cs =>
          exfalso
          have := (hr.2.2 0 he).1
          unfold World.cell? at this
          cases hh : w.heap[l'.blk]? with
          | none => simp [hh] at this
          | some y => cases y <;> simp [hh] at this <;> exact hcell _ _ _ hh
        | ty t cs => exact hr.2.1
        | siter => exact hr.2.1
        | loop => exact hr.2.1
        | marks => exact hr.2.1
      exact ap 0 e.symm (by omega) (by omega) (by omega) (by omega)
  dis a b oa ob la lb hab ha hb' hla hlb hwa := by
    rw [aget_aput] at ha hb'
    by_cases h1 : i = a
    · subst h1
      rw [if_neg hab] at hb'
      exact h.dis i b o ob la lb hab hi hb' hla hlb hw
    · rw [if_neg h1] at ha
      by_cases h2 : i = b
      · subst h2
        exact (h.dis i a o oa lb la (fun e => h1 e) hi ha hlb hla hw).symm
      · rw [if_neg h2] at hb'
        exact h.dis a b oa ob la lb hab ha hb' hla hlb hwa
  lt := h.lt
  keep := hk
theorem HpR.del (h : HpR P w0 U ρ H top w) (i : Nat) : HpR P w0 U ρ (adel H i) top w where
  obj j x hx := by
    rw [aget_adel] at hx
    by_cases hij : i = j
    · simp [hij] at hx
    · rw [if_neg hij] at hx; exact h.obj j x hx
  dis a b oa ob la lb hab ha hb' hla hlb hwa := by
    rw [aget_adel] at ha hb'
    by_cases h1 : i = a
    · simp [h1] at ha
    · rw [if_neg h1] at ha
      by_cases h2 : i = b
      · simp [h2] at hb'
      · rw [if_neg h2] at hb'; exact h.dis a b oa ob la lb hab ha hb' hla hlb hwa
  lt := h.lt
  keep := h.keep
end
end Go.Vm
