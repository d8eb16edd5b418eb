import Derived.Test.YtadhjooghfdloaaNSavedSealedb
namespace Go.Vm
open Go Go.RowKit
def req (b : Bool) (p : Prop) : Prop := match b with | true => p | false => False
theorem req.intro {b : Bool} {p : Prop} (h : b = true) (k : p) : req b p := by subst h; exact k
theorem req.elim {b : Bool} {p : Prop} (h : req b p) : b = true ∧ p := by cases b; exact h.elim; exact ⟨rfl, h⟩
def br (b : Bool) (p q : Prop) : Prop := match b with | true => p | false => q
theorem br.intro {b : Bool} {p q : Prop} (h : b = true → p) (k : b = false → q) : br b p q := by cases b; exact k rfl; exact h rfl
theorem br.pos {b : Bool} {p q : Prop} (e : b = true) (h : p) : br b p q := by subst e; exact h
theorem br.neg {b : Bool} {p q : Prop} (e : b = false) (h : q) : br b p q := by subst e; exact h
def forceV (v : Value) (K : Value → Prop) : Prop :=
  match v with
  | .bool b => K (.bool b)
  | .int k n => K (.int k n)
  | .float k n => K (.float k n)
  | .string s => K (.string s)
  | .pointer none => K (.pointer none)
  | .pointer (some a) => K (.pointer (some a))
  | .slice none n c => K (.slice none n c)
  | .slice (some a) n c => K (.slice (some a) n c)
  | .func f a b => K (.func f a b)
  | .nilFunc => K .nilFunc
  | .nilIface => K .nilIface
  | .iface t v => K (.iface t v)
  | .agg a => K (.agg a)
  | .tuple a => K (.tuple a)
  | v => K v
theorem forceV_eq (v : Value) (K : Value → Prop) : forceV v K = K v := by
  unfold forceV; split <;> rfl
def forceL (l : List Value) (K : List Value → Prop) : Prop :=
  match l with
  | [] => K []
  | v :: l => forceL l (fun l' => K (v :: l'))
theorem forceL_eq : ∀ (l : List Value) (K : List Value → Prop), forceL l K = K l
  | [], _ => rfl
  | v :: l, K => by rw [forceL, forceL_eq l]
def adelK {α : Type} (l : List (Nat × α)) (j : Nat) (K : List (Nat × α) → Prop) : Prop :=
  match l with
  | [] => K []
  | (i, x) :: l => cond (Nat.beq i j) (adelK l j K) (adelK l j (fun l' => K ((i, x) :: l')))
theorem adelK_eq {α : Type} : ∀ (l : List (Nat × α)) (j : Nat) (K : List (Nat × α) → Prop), adelK l j K = K (adel l j)
  | [], _, _ => rfl
  | (i, x) :: l, j, K => by
    simp only [adelK, adel]
    cases Nat.beq i j
    · simp only [cond_false]; rw [adelK_eq l]
    · simp only [cond_true]; rw [adelK_eq l]
def aputK {α : Type} (l : List (Nat × α)) (i : Nat) (x : α) (K : List (Nat × α) → Prop) : Prop := adelK l i (fun l' => K ((i, x) :: l'))
theorem aputK_eq {α : Type} (l : List (Nat × α)) (i : Nat) (x : α) (K : List (Nat × α) → Prop) : aputK l i x K = K (aput l i x) := adelK_eq _ _ _
def rd (cs : List Value) (o : Nat) (K : Value → Prop) : Prop := match cs[o]? with | some v => forceV v K | none => False
theorem rd.intro {cs : List Value} {o : Nat} {K : Value → Prop} {v : Value} (h : cs[o]? = some v) (k : forceV v K) : rd cs o K := by unfold rd; rw [h]; exact k
theorem rd.elim {cs : List Value} {o : Nat} {K : Value → Prop} (h : rd cs o K) : ∃ v, cs[o]? = some v ∧ K v := by
  unfold rd at h
  split at h
  · rename_i v hv; rw [forceV_eq] at h; exact ⟨v, hv, h⟩
  · exact h.elim
def rdN (cs : List Value) (o : Nat) (n : Nat) (K : List Value → Prop) : Prop :=
  match n with
  | 0 => K []
  | n + 1 => rd cs o fun v => rdN cs (o + 1) n fun l => K (v :: l)
theorem rdN.elim : ∀ {n : Nat} {cs : List Value} {o : Nat} {K : List Value → Prop}, rdN cs o n K → (o + n ≤ cs.length ∨ n = 0) ∧ K ((cs.drop o).take n)
  | 0, cs, o, K, h => ⟨.inr rfl, by simpa [rdN] using h⟩
  | n + 1, cs, o, K, h => by
    obtain ⟨v, hv, h2⟩ := rd.elim h
    obtain ⟨h3, h4⟩ := rdN.elim h2
    have hlt : o < cs.length := by
      rcases Nat.lt_or_ge o cs.length with h | h
      · exact h
      · rw [List.getElem?_eq_none h] at hv; cases hv
    refine ⟨.inl (by omega), ?_⟩
    have : (cs.drop o).take (n + 1) = v :: (cs.drop (o + 1)).take n := by
      rw [List.drop_eq_getElem_cons hlt, List.take_succ_cons]
      rw [List.getElem?_eq_getElem hlt, Option.some.injEq] at hv
      rw [hv]
    rw [this]; exact h4
abbrev CK := Option Value → List (Option VObj) → Option VObj → Prop
def optK (r : Option CoreR) (K : CK) : Prop :=
  match r with
  | some ⟨some v, os, fr⟩ => forceV v fun v => K (some v) os fr
  | some ⟨none, os, fr⟩ => K none os fr
  | none => False
def Good (r : Option CoreR) (K : CK) : Prop := ∃ v os fr, r = some ⟨v, os, fr⟩ ∧ K v os fr
theorem optK.good {r : Option CoreR} {K : CK} (h : optK r K) : Good r K := by
  unfold optK at h
  split at h
  · rw [forceV_eq] at h; exact ⟨_, _, _, rfl, h⟩
  · exact ⟨_, _, _, rfl, h⟩
  · exact h.elim
def valK (v : Value) (K : CK) : Prop := forceV v fun v => K (some v) [] none
def fillK : List (Nat × Nat × Value) → List Value → (List Value → Prop) → Prop
  | [], cs, K => K cs
  | (off, size, v) :: rest, cs, K => cond (Nat.beq (cellsL v).length size && Nat.ble (off + size) cs.length) (forceL (setAt cs off (cellsL v)) fun cs' => fillK rest cs' K) False
theorem fillK.elim : ∀ {l : List (Nat × Nat × Value)} {cs : List Value} {K : List Value → Prop}, fillK l cs K → ∃ cs', fillL cs l = some cs' ∧ K cs'
  | [], cs, K, h => ⟨cs, rfl, h⟩
  | (off, size, v) :: rest, cs, K, h => by
    rw [fillK] at h
    cases hb : (Nat.beq (cellsL v).length size && Nat.ble (off + size) cs.length)
    · rw [hb] at h; exact h.elim
    · rw [hb, cond_true, forceL_eq] at h
      obtain ⟨cs', h1, h2⟩ := fillK.elim h
      rw [Bool.and_eq_true] at hb
      exact ⟨cs', by rw [fillL, if_pos ⟨Nat.eq_of_beq_eq_true hb.1, Nat.le_of_ble_eq_true hb.2⟩, h1], h2⟩
def k_build (z : List Value) (ps : List (Nat × Nat × Operand)) (vals : List Value) (objs : List VObj) (K : CK) : Prop :=
  match objs with
  | [] => cond (Nat.beq vals.length ps.length) (fillK (zipP ps vals) z fun cs => K (some (.agg ⟨cs⟩)) [] none) False
  | _ => False
def k_buildSl (len sz : Nat) (z : List Value) (ps : List (Nat × Nat × Operand)) (vals : List Value) (objs : List VObj) (top : Nat) (K : CK) : Prop :=
  match objs with
  | [] => cond (Nat.beq vals.length ps.length) (fillK (zipP ps vals) z fun cs => K (some (.slice (some ⟨top, 0, none⟩) len sz)) [] (some (.row true cs))) False
  | _ => False
theorem k_build_good {z : List Value} {ps : List (Nat × Nat × Operand)} {vals : List Value} {objs : List VObj} {K : CK} (h : k_build z ps vals objs K) : Good (c_build z ps vals objs) K := by
  unfold k_build at h
  split at h
  · cases hb : Nat.beq vals.length ps.length
    · rw [hb] at h; exact h.elim
    · rw [hb, cond_true] at h
      obtain ⟨cs, h1, h2⟩ := h.elim
      exact ⟨_, _, _, by simp only [c_build, if_pos (Nat.eq_of_beq_eq_true hb), h1]; rfl, h2⟩
  · exact h.elim
theorem k_buildSl_good {len sz : Nat} {z : List Value} {ps : List (Nat × Nat × Operand)} {vals : List Value} {objs : List VObj} {top : Nat} {K : CK} (h : k_buildSl len sz z ps vals objs top K) : Good (c_buildSl len sz z ps vals objs top) K := by
  unfold k_buildSl at h
  split at h
  · cases hb : Nat.beq vals.length ps.length
    · rw [hb] at h; exact h.elim
    · rw [hb, cond_true] at h
      obtain ⟨cs, h1, h2⟩ := h.elim
      exact ⟨_, _, _, by simp only [c_buildSl, if_pos (Nat.eq_of_beq_eq_true hb), h1], h2⟩
  · exact h.elim
def k_pick (vals : List Value) (objs : List VObj) (K : CK) : Prop :=
  match vals, objs with
  | [.bool c, a, b], [] => br c (valK a K) (valK b K)
  | _, _ => False
def k_load1 (vals : List Value) (objs : List VObj) (K : CK) : Prop :=
  match vals, objs with
  | [.pointer (some ⟨_, o, none⟩)], [.cells cs] => rd cs o fun v => K (some v) [some (.cells cs)] none
  | [.pointer (some ⟨_, o, none⟩)], [.row w cs] => rd cs o fun v => K (some v) [some (.row w cs)] none
  | [.pointer (some ⟨_, o, none⟩)], [.ty t cs] => rd cs o fun v => K (some v) [some (.ty t cs)] none
  | _, _ => False
def k_loadN (n : Nat) (vals : List Value) (objs : List VObj) (K : CK) : Prop :=
  match vals, objs with
  | [.pointer (some ⟨_, o, none⟩)], [.cells cs] => req (decide (o + n ≤ cs.length)) (rdN cs o n fun l => K (some (.agg ⟨l⟩)) [some (.cells cs)] none)
  | [.pointer (some ⟨_, o, none⟩)], [.row w cs] => req (decide (o + n ≤ cs.length)) (rdN cs o n fun l => K (some (.agg ⟨l⟩)) [some (.row w cs)] none)
  | [.pointer (some ⟨_, o, none⟩)], [.ty t cs] => req (decide (o + n ≤ cs.length)) (rdN cs o n fun l => K (some (.agg ⟨l⟩)) [some (.ty t cs)] none)
  | _, _ => False
def k_store (n : Nat) (vals : List Value) (objs : List VObj) (K : CK) : Prop :=
  match vals, objs with
  | [.pointer (some ⟨_, o, none⟩), v], [.cells cs] => req (decide ((cellsL v).length = n ∧ o + n ≤ cs.length) && (cellsL v).all oneC) (forceL (setAt cs o (cellsL v)) fun cs' => K none [some (.cells cs')] none)
  | [.pointer (some ⟨_, o, none⟩), v], [.ty t cs] => req (decide ((cellsL v).length = n ∧ o + n ≤ cs.length) && (cellsL v).all oneC) (forceL (setAt cs o (cellsL v)) fun cs' => K none [some (.ty t cs')] none)
  | [.pointer (some ⟨_, o, none⟩), v], [.row true cs] => req (decide ((cellsL v).length = n ∧ o + n ≤ cs.length) && (cellsL v).all oneC) (∃ cs', setAt cs o (cellsL v) = cs' ∧ K none [some (.row true cs')] none)
  | _, _ => False
def binK (op : BinOp) (x y : Value) (K : CK) : Prop :=
  match x, y with
  | .int k a, .int k' b => match op with
    | .shl => req (decide (0 ≤ b)) (K (some (.int k (k.wrap (a * 2 ^ (min b.toNat k.bits))))) [] none)
    | .shr => req (decide (0 ≤ b)) (K (some (.int k (a.fdiv (2 ^ (min b.toNat k.bits))))) [] none)
    | .quo => req (decide (k = k') && !(decide (b = 0))) (K (some (.int k (k.wrap (a.tdiv b)))) [] none)
    | .rem => req (decide (k = k') && !(decide (b = 0))) (K (some (.int k (a.tmod b))) [] none)
    | op => optK (match binV op (.int k a) (.int k' b) with | some v => val v | none => none) K
  | .string a, .string b => match op with
    | .add => req (decide (a.data.toList.length + b.data.toList.length < 2 ^ 63)) (K (some (.string ⟨⟨a.data.toList ++ b.data.toList⟩⟩)) [] none)
    | op => optK (match binV op (.string a) (.string b) with | some v => val v | none => none) K
  | _, _ => False
def k_bin (op : BinOp) (vals : List Value) (objs : List VObj) (K : CK) : Prop :=
  match vals, objs with
  | [x, y], [] => binK op x y K
  | _, _ => False
def k_isNil (k : Nat) (neg : Bool) (vals : List Value) (objs : List VObj) (K : CK) : Prop :=
  match k, vals, objs with
  | 1, [.slice (some _) n _], [] => req (Nat.blt 0 n) (K (some (.bool neg)) [] none)
  | k, vals, objs => optK (c_isNil k neg vals objs) K
def k_b2s (vals : List Value) (objs : List VObj) (K : CK) : Prop :=
  match vals, objs with
  | [.slice none 0 _], [] => K (some (.string ⟨⟨[]⟩⟩)) [] none
  | [.slice (some ⟨_, o, none⟩) n 1], [ob] => match ob.cs with
      | some cs => req (decide (o + n ≤ cs.length)) (∃ bs, toBytes ((cs.drop o).take n) = some bs ∧ K (some (.string ⟨⟨bs⟩⟩)) [some ob] none)
      | none => False
  | _, _ => False
def k_s2b (vals : List Value) (objs : List VObj) (top : Nat) (K : CK) : Prop :=
  match vals, objs with
  | [.string s], [] => ∃ cs', ofBytes s.data.toList = cs' ∧ K (some (.slice (some ⟨top, 0, none⟩) s.data.toList.length 1)) [] (some (.row true cs'))
  | _, _ => False
def k_mkSl (sz bytes : Nat) (z : List Value) (vals : List Value) (objs : List VObj) (top : Nat) (K : CK) : Prop :=
  match vals, objs with
  | [.int _ l, .int _ c], [] => req (decide (0 ≤ l ∧ l ≤ c ∧ c < 2 ^ 63 ∧ (bytes : Int) * c ≤ 2 ^ 48))
      (∃ cs', (List.replicate c.toNat z).flatten = cs' ∧ K (some (.slice (some ⟨top, 0, none⟩) l.toNat sz)) [] (some (.row true cs')))
  | _, _ => False
def loHiK (n : Nat) (hasLo hasHi : Bool) (bs : List Value) (K : Nat → Nat → Prop) : Prop :=
  match hasLo, hasHi, bs with
  | false, false, [] => K 0 n
  | true, false, [.int _ l] => req (decide (0 ≤ l ∧ l ≤ n)) (K l.toNat n)
  | false, true, [.int _ h] => req (decide (0 ≤ h ∧ h ≤ n)) (K 0 h.toNat)
  | true, true, [.int _ l, .int _ h] => req (decide (0 ≤ h ∧ h ≤ n ∧ 0 ≤ l ∧ l ≤ h.toNat)) (K l.toNat h.toNat)
  | _, _, _ => False
theorem loHiK.elim {n : Nat} {hl hh : Bool} {bs : List Value} {K : Nat → Nat → Prop} (h : loHiK n hl hh bs K) : ∃ l u, loHi n hl hh bs = some (l, u) ∧ K l u := by
  unfold loHiK at h
  split at h
  · exact ⟨_, _, rfl, h⟩
  · obtain ⟨h1, h2⟩ := h.elim; exact ⟨_, _, by simp only [loHi]; rw [if_pos (of_decide_eq_true h1)], h2⟩
  · obtain ⟨h1, h2⟩ := h.elim; exact ⟨_, _, by simp only [loHi]; rw [if_pos (of_decide_eq_true h1)], h2⟩
  · obtain ⟨h1, h2⟩ := h.elim; exact ⟨_, _, by simp only [loHi]; rw [if_pos (of_decide_eq_true h1)], h2⟩
  · exact h.elim
def k_sliceS (bl bh : Bool) (vals : List Value) (objs : List VObj) (K : CK) : Prop :=
  match vals, objs with
  | .string s :: bs, [] => loHiK s.data.toList.length bl bh bs fun l h => K (some (.string ⟨⟨(s.data.toList.drop l).take (h - l)⟩⟩)) [] none
  | _, _ => False
def k_sliceL (sz : Nat) (bl bh : Bool) (vals : List Value) (objs : List VObj) (K : CK) : Prop :=
  match vals, objs with
  | .slice none 0 c :: bs, [] => loHiK 0 bl bh bs fun _ _ => K (some (.slice none 0 c)) [] none
  | .slice (some ⟨b, o, none⟩) n sz' :: bs, [] => req (Nat.beq sz sz') (loHiK n bl bh bs fun l h => K (some (.slice (some ⟨b, o + l * sz, none⟩) (h - l) sz)) [] none)
  | _, _ => False
def k_sliceA (n sz : Nat) (bl bh : Bool) (vals : List Value) (objs : List VObj) (K : CK) : Prop :=
  match vals, objs with
  | .pointer (some ⟨b, o, none⟩) :: bs, [ob] => match ob.cs with
    | some cs => req (decide (o + n * sz ≤ cs.length)) (loHiK n bl bh bs fun l h => K (some (.slice (some ⟨b, o + l * sz, none⟩) (h - l) sz)) [some ob] none)
    | none => False
  | _, _ => False
def k_idxAA (n sz : Nat) (vals : List Value) (objs : List VObj) (K : CK) : Prop :=
  match vals, objs with
  | [.pointer (some ⟨b, o, none⟩), .int _ i], [] => req (decide (0 ≤ i ∧ i < n)) (K (some (.pointer (some ⟨b, o + i.toNat * sz, none⟩))) [] none)
  | _, _ => False
def k_idxAL (sz : Nat) (vals : List Value) (objs : List VObj) (K : CK) : Prop :=
  match vals, objs with
  | [.slice (some ⟨b, o, none⟩) n _, .int _ i], [] => req (decide (0 ≤ i ∧ i < n)) (K (some (.pointer (some ⟨b, o + i.toNat * sz, none⟩))) [] none)
  | _, _ => False
def k_idxV1 (n : Nat) (vals : List Value) (objs : List VObj) (K : CK) : Prop :=
  match vals, objs with
  | [.agg ⟨cs⟩, .int _ i], [] => req (decide (0 ≤ i ∧ i < n)) (rd cs i.toNat fun v => K (some v) [] none)
  | _, _ => False
def k_idxVN (n sz : Nat) (vals : List Value) (objs : List VObj) (K : CK) : Prop :=
  match vals, objs with
  | [.agg ⟨cs⟩, .int _ i], [] => req (decide (0 ≤ i ∧ i < n ∧ i.toNat * sz + sz ≤ cs.length)) (rdN cs (i.toNat * sz) sz fun l => K (some (.agg ⟨l⟩)) [] none)
  | _, _ => False
def rdS (s : List UInt8) (i : Nat) (K : UInt8 → Prop) : Prop := match s[i]? with | some b => K b | none => False
theorem rdS.intro {s : List UInt8} {i : Nat} {K : UInt8 → Prop} {b : UInt8} (h : s[i]? = some b) (k : K b) : rdS s i K := by unfold rdS; rw [h]; exact k
theorem rdS.elim {s : List UInt8} {i : Nat} {K : UInt8 → Prop} (h : rdS s i K) : ∃ b, s[i]? = some b ∧ K b := by
  unfold rdS at h; split at h
  · exact ⟨_, by assumption, h⟩
  · exact h.elim
def k_idxS (vals : List Value) (objs : List VObj) (K : CK) : Prop :=
  match vals, objs with
  | [.string s, .int _ i], [] => req (decide (0 ≤ i)) (rdS s.data.toList i.toNat fun b => K (some (.int .u8 b.toNat)) [] none)
  | _, _ => False
def srcK (sz : Nat) (y : Value) (objs : List VObj) (K : List Value → Nat → Prop) : Prop :=
  match y, objs with
  | .string s, _ => K (ofBytes s.data.toList) s.data.toList.length
  | .slice none 0 _, _ => K [] 0
  | .slice (some a) n _, [o] => match o.cs with
    | some cs => req (decide (a.off + n * sz ≤ cs.length)) (K ((cs.drop a.off).take (n * sz)) n)
    | none => False
  | _, _ => False
theorem srcK.elim {sz : Nat} {y : Value} {objs : List VObj} {K : List Value → Nat → Prop} (h : srcK sz y objs K) : ∃ c n, srcCells sz y objs = some c ∧ srcLen y = some n ∧ K c n := by
  unfold srcK at h
  split at h
  · exact ⟨_, _, rfl, rfl, h⟩
  · exact ⟨_, _, rfl, rfl, h⟩
  · split at h
    · rename_i cs hcs
      obtain ⟨h1, h2⟩ := h.elim
      exact ⟨_, _, by simp only [srcCells, hcs]; rw [if_pos (of_decide_eq_true h1)], rfl, h2⟩
    · exact h.elim
  · exact h.elim
def k_app (t sz bytes : Nat) (vals : List Value) (objs : List VObj) (top : Nat) (K : CK) : Prop :=
  match vals, objs with
  | [.slice none 0 _, y], objs => srcK sz y objs fun new m => req (decide (m * bytes ≤ 2 ^ 47 ∧ new.length = m * sz)) (∃ cs' n', new = cs' ∧ m = n' ∧ K (some (.slice (some ⟨top, 0, none⟩) n' sz)) (objs.map some) (some (.row true cs')))
  | [.slice (some ⟨b, o, none⟩) n sz', y], .row true cs :: objs => srcK sz y objs fun new m =>
      req (decide ((n + m) * bytes ≤ 2 ^ 47 ∧ o + n * sz ≤ cs.length ∧ sz = sz' ∧ new.length = m * sz) && new.all oneC && (addrBlk y).all (fun c => !Nat.beq b c))
        (∃ cs' n', (cs.drop o).take (n * sz) ++ new = cs' ∧ n + m = n' ∧ K (some (.slice (some ⟨top, 0, none⟩) n' sz)) (none :: objs.map some) (some (.row true cs')))
  | [.func (.method _) ⟨[.slice none 0 e]⟩ ⟨[]⟩, y], objs => srcK sz y objs fun new m => req (decide (m * bytes ≤ 2 ^ 47 ∧ new.length = m * sz ∧ sz = 1 ∧ e = t)) (∃ cs' n', new = cs' ∧ m = n' ∧ K (some (.func (.method "") ⟨[.slice (some ⟨top, 0, none⟩) n' 1]⟩ ⟨[]⟩)) (objs.map some) (some (.ty t cs')))
  | [.func (.method _) ⟨[.slice (some ⟨b, 0, none⟩) n 1]⟩ ⟨[]⟩, y], .ty e cs :: objs => srcK sz y objs fun new m =>
      req (decide ((n + m) * bytes ≤ 2 ^ 47 ∧ n ≤ cs.length ∧ sz = 1 ∧ e = t ∧ new.length = m) && new.all oneC && (addrBlk y).all (fun c => !Nat.beq b c))
        (∃ cs' n', cs.take n ++ new = cs' ∧ n + m = n' ∧ K (some (.func (.method "") ⟨[.slice (some ⟨top, 0, none⟩) n' 1]⟩ ⟨[]⟩)) (none :: objs.map some) (some (.ty t cs')))
  | _, _ => False
def k_ustr (t : Nat) (vals : List Value) (objs : List VObj) (K : CK) : Prop :=
  match vals, objs with
  | [.pointer none, .int .i64 0], [] => K (some (.string ⟨⟨[]⟩⟩)) [] none
  | [.func (.method _) ⟨[.slice (some ⟨_, 0, none⟩) n 1]⟩ ⟨[.bool true]⟩, .int .i64 m], [.ty e cs] => req (decide (e = t ∧ m = n ∧ n ≤ cs.length ∧ n < 2 ^ 63))
      (∃ bs, toBytes (cs.take n) = some bs ∧ K (some (.string ⟨⟨bs⟩⟩)) [some (.row false cs)] none)
  | _, _ => False
def k_clr (sz : Nat) (vals : List Value) (objs : List VObj) (K : CK) : Prop :=
  match vals, objs with
  | [.slice none 0 _], [] => K (some (.tuple ⟨[]⟩)) [] none
  | [.slice (some ⟨_, o, none⟩) n sz'], [.row true cs] => req (decide (sz = sz' ∧ o + n * sz = cs.length)) (∃ cs', cs.take o = cs' ∧ K (some (.tuple ⟨[]⟩)) [some (.row true cs')] none)
  | _, _ => False
def k_nextS (vals : List Value) (objs : List VObj) (K : CK) : Prop :=
  match vals, objs with
  | [.pointer (some ⟨_, 0, none⟩)], [.siter s pos] =>
      br (decide (pos < s.size)) (K (some (.tuple #[.bool true, .int .i64 pos, .int .i32 (Utf8.decode s pos).1])) [some (.siter s (pos + (Utf8.decode s pos).2))] none)
        (K (some (.tuple #[.bool false])) [some (.siter s pos)] none)
  | _, _ => False
def coreK (op : VOp) (vals : List Value) (objs : List VObj) (top : Nat) (K : CK) : Prop :=
  match op with
  | .pick _ _ _ => k_pick vals objs K
  | .load1 _ _ => k_load1 vals objs K
  | .loadN ks _ => k_loadN ks.length vals objs K
  | .store n _ _ => k_store n vals objs K
  | .bin op _ _ => k_bin op vals objs K
  | .isNil k neg _ => k_isNil k neg vals objs K
  | .b2s _ => k_b2s vals objs K
  | .s2b _ => k_s2b vals objs top K
  | .mkSl sz bytes z _ _ => k_mkSl sz bytes z vals objs top K
  | .sliceS _ lo hi => k_sliceS lo.isSome hi.isSome vals objs K
  | .sliceL sz _ lo hi => k_sliceL sz lo.isSome hi.isSome vals objs K
  | .sliceA n sz _ lo hi => k_sliceA n sz lo.isSome hi.isSome vals objs K
  | .idxAA n sz _ _ => k_idxAA n sz vals objs K
  | .idxAL sz _ _ => k_idxAL sz vals objs K
  | .idxV1 n _ _ => k_idxV1 n vals objs K
  | .idxVN n sz _ _ => k_idxVN n sz vals objs K
  | .idxS _ _ => k_idxS vals objs K
  | .app t sz bytes _ _ => k_app t sz bytes vals objs top K
  | .ustr t _ _ => k_ustr t vals objs K
  | .clr sz _ => k_clr sz vals objs K
  | .build z ps => k_build z ps vals objs K
  | .buildSl len sz z ps => k_buildSl len sz z ps vals objs top K
  | .nextS _ => k_nextS vals objs K
  | op => optK (core op vals objs top) K
theorem k_pick_good {vals : List Value} {objs : List VObj} {K : CK} (h : k_pick vals objs K) : Good (c_pick vals objs) K := by
  unfold k_pick at h
  split at h
  · rename_i c _ _
    cases c
    · simp only [br, valK, forceV_eq] at h; exact ⟨_, _, _, rfl, h⟩
    · simp only [br, valK, forceV_eq] at h; exact ⟨_, _, _, rfl, h⟩
  · exact h.elim
theorem k_load1_good {vals : List Value} {objs : List VObj} {K : CK} (h : k_load1 vals objs K) : Good (c_load1 vals objs) K := by
  unfold k_load1 at h
  split at h
  · obtain ⟨v, h1, h2⟩ := rd.elim h; exact ⟨_, _, _, by simp only [c_load1, VObj.cs, h1], h2⟩
  · obtain ⟨v, h1, h2⟩ := rd.elim h; exact ⟨_, _, _, by simp only [c_load1, VObj.cs, h1], h2⟩
  · obtain ⟨v, h1, h2⟩ := rd.elim h; exact ⟨_, _, _, by simp only [c_load1, VObj.cs, h1], h2⟩
  · exact h.elim
theorem k_loadN_good {n : Nat} {vals : List Value} {objs : List VObj} {K : CK} (h : k_loadN n vals objs K) : Good (c_loadN n vals objs) K := by
  unfold k_loadN at h
  split at h
  · obtain ⟨h1, h2⟩ := req.elim h
    obtain ⟨_, h3⟩ := rdN.elim h2
    exact ⟨_, _, _, by simp only [c_loadN, VObj.cs, if_pos (of_decide_eq_true h1)], h3⟩
  · obtain ⟨h1, h2⟩ := req.elim h
    obtain ⟨_, h3⟩ := rdN.elim h2
    exact ⟨_, _, _, by simp only [c_loadN, VObj.cs, if_pos (of_decide_eq_true h1)], h3⟩
  · obtain ⟨h1, h2⟩ := req.elim h
    obtain ⟨_, h3⟩ := rdN.elim h2
    exact ⟨_, _, _, by simp only [c_loadN, VObj.cs, if_pos (of_decide_eq_true h1)], h3⟩
  · exact h.elim
theorem k_store_good {n : Nat} {vals : List Value} {objs : List VObj} {K : CK} (h : k_store n vals objs K) : Good (c_store n vals objs) K := by
  unfold k_store at h
  split at h
  · obtain ⟨h1, h2⟩ := req.elim h
    rw [forceL_eq] at h2
    simp only [Bool.and_eq_true, decide_eq_true_eq] at h1
    exact ⟨_, _, _, by simp only [c_store, VObj.cs, VObj.wr]; rw [if_pos ⟨h1.1.1, h1.1.2, h1.2⟩], h2⟩
  · obtain ⟨h1, h2⟩ := req.elim h
    rw [forceL_eq] at h2
    simp only [Bool.and_eq_true, decide_eq_true_eq] at h1
    exact ⟨_, _, _, by simp only [c_store, VObj.cs, VObj.wr]; rw [if_pos ⟨h1.1.1, h1.1.2, h1.2⟩], h2⟩
  · obtain ⟨h1, cs', rfl, h2⟩ := req.elim h
    simp only [Bool.and_eq_true, decide_eq_true_eq] at h1
    exact ⟨_, _, _, by simp only [c_store, VObj.cs, VObj.wr]; rw [if_pos ⟨h1.1.1, h1.1.2, h1.2⟩], h2⟩
  · exact h.elim
theorem k_bin_good {op : BinOp} {vals : List Value} {objs : List VObj} {K : CK} (h : k_bin op vals objs K) : Good (c_bin op vals objs) K := by
  unfold k_bin at h
  split at h
  · rename_i x y
    have key : ∀ v, binV op x y = some v → K (some v) [] none → Good (c_bin op [x, y] []) K := fun v h1 h2 => ⟨_, _, _, by simp only [c_bin, h1, val], h2⟩
    unfold binK at h
    split at h
    · split at h
      · obtain ⟨h1, h2⟩ := req.elim h
        exact key _ (by simp only [binV]; rw [if_pos (of_decide_eq_true h1)]) h2
      · obtain ⟨h1, h2⟩ := req.elim h
        exact key _ (by simp only [binV]; rw [if_pos (of_decide_eq_true h1)]) h2
      · obtain ⟨h1, h2⟩ := req.elim h
        simp only [Bool.and_eq_true, decide_eq_true_eq, Bool.not_eq_true', decide_eq_false_iff_not] at h1
        exact key _ (by simp only [binV]; rw [if_pos h1.1, if_neg h1.2]) h2
      · obtain ⟨h1, h2⟩ := req.elim h
        simp only [Bool.and_eq_true, decide_eq_true_eq, Bool.not_eq_true', decide_eq_false_iff_not] at h1
        exact key _ (by simp only [binV]; rw [if_pos h1.1, if_neg h1.2]) h2
      · exact h.good
    · split at h
      · obtain ⟨h1, h2⟩ := req.elim h
        exact key _ (by simp only [binV]; rw [if_pos (of_decide_eq_true h1)]) h2
      · exact h.good
    · exact h.elim
  · exact h.elim
theorem k_isNil_good {k : Nat} {neg : Bool} {vals : List Value} {objs : List VObj} {K : CK} (h : k_isNil k neg vals objs K) : Good (c_isNil k neg vals objs) K := by
  unfold k_isNil at h
  split at h
  · rename_i n _
    obtain ⟨h1, h2⟩ := req.elim h
    cases n with
    | zero => simp at h1
    | succ n => exact ⟨_, _, _, by simp only [c_isNil, nilV, val]; cases neg <;> rfl, h2⟩
  · exact h.good
theorem k_b2s_good {vals : List Value} {objs : List VObj} {K : CK} (h : k_b2s vals objs K) : Good (c_b2s vals objs) K := by
  unfold k_b2s at h
  split at h
  · exact ⟨_, _, _, rfl, h⟩
  · split at h
    · rename_i cs hcs
      obtain ⟨h1, bs, h2, h3⟩ := req.elim h
      exact ⟨_, _, _, by simp only [c_b2s, hcs]; rw [if_pos (of_decide_eq_true h1)]; simp only [h2], h3⟩
    · exact h.elim
  · exact h.elim
theorem k_s2b_good {vals : List Value} {objs : List VObj} {top : Nat} {K : CK} (h : k_s2b vals objs top K) : Good (c_s2b vals objs top) K := by
  unfold k_s2b at h
  split at h
  · obtain ⟨cs', rfl, h⟩ := h; exact ⟨_, _, _, rfl, h⟩
  · exact h.elim
theorem k_mkSl_good {sz bytes : Nat} {z : List Value} {vals : List Value} {objs : List VObj} {top : Nat} {K : CK} (h : k_mkSl sz bytes z vals objs top K) : Good (c_mkSl sz bytes z vals objs top) K := by
  unfold k_mkSl at h
  split at h
  · obtain ⟨h1, cs', rfl, h2⟩ := req.elim h
    exact ⟨_, _, _, by simp only [c_mkSl]; rw [if_pos (of_decide_eq_true h1)], h2⟩
  · exact h.elim
theorem k_sliceS_good {bl bh : Bool} {vals : List Value} {objs : List VObj} {K : CK} (h : k_sliceS bl bh vals objs K) : Good (c_sliceS bl bh vals objs) K := by
  unfold k_sliceS at h
  split at h
  · obtain ⟨l, u, h1, h2⟩ := loHiK.elim h
    exact ⟨_, _, _, by simp only [c_sliceS, h1, val], h2⟩
  · exact h.elim
theorem k_sliceL_good {sz : Nat} {bl bh : Bool} {vals : List Value} {objs : List VObj} {K : CK} (h : k_sliceL sz bl bh vals objs K) : Good (c_sliceL sz bl bh vals objs) K := by
  unfold k_sliceL at h
  split at h
  · obtain ⟨l, u, h1, h2⟩ := loHiK.elim h
    exact ⟨_, _, _, by simp only [c_sliceL, h1, val], h2⟩
  · obtain ⟨h0, h⟩ := req.elim h
    obtain ⟨l, u, h1, h2⟩ := loHiK.elim h
    exact ⟨_, _, _, by simp only [c_sliceL]; rw [if_pos (Nat.eq_of_beq_eq_true h0)]; simp only [h1, val], h2⟩
  · exact h.elim
theorem k_sliceA_good {n sz : Nat} {bl bh : Bool} {vals : List Value} {objs : List VObj} {K : CK} (h : k_sliceA n sz bl bh vals objs K) : Good (c_sliceA n sz bl bh vals objs) K := by
  unfold k_sliceA at h
  split at h
  · split at h
    · rename_i cs hcs
      obtain ⟨h0, h⟩ := req.elim h
      obtain ⟨l, u, h1, h2⟩ := loHiK.elim h
      exact ⟨_, _, _, by simp only [c_sliceA, hcs]; rw [if_pos (of_decide_eq_true h0)]; simp only [h1], h2⟩
    · exact h.elim
  · exact h.elim
theorem k_idxAA_good {n sz : Nat} {vals : List Value} {objs : List VObj} {K : CK} (h : k_idxAA n sz vals objs K) : Good (c_idxAA n sz vals objs) K := by
  unfold k_idxAA at h
  split at h
  · obtain ⟨h1, h2⟩ := req.elim h
    exact ⟨_, _, _, by simp only [c_idxAA, val]; rw [if_pos (of_decide_eq_true h1)], h2⟩
  · exact h.elim
theorem k_idxAL_good {sz : Nat} {vals : List Value} {objs : List VObj} {K : CK} (h : k_idxAL sz vals objs K) : Good (c_idxAL sz vals objs) K := by
  unfold k_idxAL at h
  split at h
  · obtain ⟨h1, h2⟩ := req.elim h
    exact ⟨_, _, _, by simp only [c_idxAL, val]; rw [if_pos (of_decide_eq_true h1)], h2⟩
  · exact h.elim
theorem k_idxV1_good {n : Nat} {vals : List Value} {objs : List VObj} {K : CK} (h : k_idxV1 n vals objs K) : Good (c_idxV1 n vals objs) K := by
  unfold k_idxV1 at h
  split at h
  · obtain ⟨h1, h2⟩ := req.elim h
    obtain ⟨v, h3, h4⟩ := rd.elim h2
    exact ⟨_, _, _, by simp only [c_idxV1]; rw [if_pos (of_decide_eq_true h1)]; simp only [h3, val], h4⟩
  · exact h.elim
theorem k_idxVN_good {n sz : Nat} {vals : List Value} {objs : List VObj} {K : CK} (h : k_idxVN n sz vals objs K) : Good (c_idxVN n sz vals objs) K := by
  unfold k_idxVN at h
  split at h
  · obtain ⟨h1, h2⟩ := req.elim h
    obtain ⟨_, h3⟩ := rdN.elim h2
    exact ⟨_, _, _, by simp only [c_idxVN, val]; rw [if_pos (of_decide_eq_true h1)], h3⟩
  · exact h.elim
theorem k_idxS_good {vals : List Value} {objs : List VObj} {K : CK} (h : k_idxS vals objs K) : Good (c_idxS vals objs) K := by
  unfold k_idxS at h
  split at h
  · obtain ⟨h1, h2⟩ := req.elim h
    obtain ⟨v, h3, h4⟩ := rdS.elim h2
    exact ⟨_, _, _, by simp only [c_idxS]; rw [if_pos (of_decide_eq_true h1)]; simp only [h3, val], h4⟩
  · exact h.elim
theorem k_ustr_good {t : Nat} {vals : List Value} {objs : List VObj} {K : CK} (h : k_ustr t vals objs K) : Good (c_ustr t vals objs) K := by
  unfold k_ustr at h
  split at h
  · exact ⟨_, _, _, rfl, h⟩
  · obtain ⟨h1, bs, h2, h3⟩ := req.elim h
    exact ⟨_, _, _, by simp only [c_ustr]; rw [if_pos (of_decide_eq_true h1)]; simp only [h2], h3⟩
  · exact h.elim
theorem k_clr_good {sz : Nat} {vals : List Value} {objs : List VObj} {K : CK} (h : k_clr sz vals objs K) : Good (c_clr sz vals objs) K := by
  unfold k_clr at h
  split at h
  · exact ⟨_, _, _, rfl, h⟩
  · obtain ⟨h1, cs', rfl, h3⟩ := req.elim h
    exact ⟨_, _, _, by simp only [c_clr]; rw [if_pos (of_decide_eq_true h1)], h3⟩
  · exact h.elim
theorem k_app_good {t sz bytes : Nat} {vals : List Value} {objs : List VObj} {top : Nat} {K : CK} (h : k_app t sz bytes vals objs top K) : Good (c_app t sz bytes vals objs top) K := by
  unfold k_app at h
  split at h
  · obtain ⟨c, m, h1, h2, h3⟩ := srcK.elim h
    obtain ⟨h4, cs', n', rfl, rfl, h5⟩ := req.elim h3
    exact ⟨_, _, _, by simp only [c_app, h1, h2]; rw [if_pos (of_decide_eq_true h4)], h5⟩
  · obtain ⟨c, m, h1, h2, h3⟩ := srcK.elim h
    obtain ⟨h4, cs', n', rfl, rfl, h5⟩ := req.elim h3
    simp only [Bool.and_eq_true, decide_eq_true_eq] at h4
    exact ⟨_, _, _, by simp only [c_app, h1, h2]; rw [if_pos ⟨h4.1.1.1, h4.1.1.2.1, h4.1.1.2.2.1, h4.1.1.2.2.2, h4.1.2, h4.2⟩], h5⟩
  · obtain ⟨c, m, h1, h2, h3⟩ := srcK.elim h
    obtain ⟨h4, cs', n', rfl, rfl, h5⟩ := req.elim h3
    exact ⟨_, _, _, by simp only [c_app, h1, h2, bSl]; rw [if_pos (of_decide_eq_true h4)], h5⟩
  · obtain ⟨c, m, h1, h2, h3⟩ := srcK.elim h
    obtain ⟨h4, cs', n', rfl, rfl, h5⟩ := req.elim h3
    simp only [Bool.and_eq_true, decide_eq_true_eq] at h4
    exact ⟨_, _, _, by simp only [c_app, h1, h2, bSl]; rw [if_pos ⟨h4.1.1.1, h4.1.1.2.1, h4.1.1.2.2.1, h4.1.1.2.2.2.1, h4.1.1.2.2.2.2, h4.1.2, h4.2⟩], h5⟩
  · exact h.elim
theorem k_nextS_good {vals : List Value} {objs : List VObj} {K : CK} (h : k_nextS vals objs K) : Good (c_nextS vals objs) K := by
  unfold k_nextS at h
  split at h
  · rename_i s pos
    cases hb : decide (pos < s.size) with
    | true => rw [hb] at h; exact ⟨_, _, _, by simp only [c_nextS]; rw [if_pos (of_decide_eq_true hb)], h⟩
    | false => rw [hb] at h; exact ⟨_, _, _, by simp only [c_nextS]; rw [if_neg (of_decide_eq_false hb)], h⟩
  · exact h.elim
theorem coreK.good {op : VOp} {vals : List Value} {objs : List VObj} {top : Nat} {K : CK} (h : coreK op vals objs top K) : Good (core op vals objs top) K := by
  cases op with
  | pick => exact k_pick_good h
  | load1 => exact k_load1_good h
  | loadN => exact k_loadN_good h
  | store => exact k_store_good h
  | bin => exact k_bin_good h
  | isNil => exact k_isNil_good h
  | b2s => exact k_b2s_good h
  | s2b => exact k_s2b_good h
  | mkSl => exact k_mkSl_good h
  | sliceS => exact k_sliceS_good h
  | sliceL => exact k_sliceL_good h
  | sliceA => exact k_sliceA_good h
  | idxAA => exact k_idxAA_good h
  | idxAL => exact k_idxAL_good h
  | idxV1 => exact k_idxV1_good h
  | idxVN => exact k_idxVN_good h
  | idxS => exact k_idxS_good h
  | app => exact k_app_good h
  | ustr => exact k_ustr_good h
  | clr => exact k_clr_good h
  | build => exact k_build_good h
  | buildSl => exact k_buildSl_good h
  | nextS => exact k_nextS_good h
  | _ => exact optK.good h
def aputsK (h : Hp) (is : List Nat) (os : List (Option VObj)) (K : Hp → Prop) : Prop :=
  match is, os with
  | i :: is, some o :: os => aputK h i o fun h' => aputsK h' is os K
  | i :: is, none :: os => adelK h i fun h' => aputsK h' is os K
  | _, _ => K h
theorem aputsK_eq : ∀ (is : List Nat) (os : List (Option VObj)) (h : Hp) (K : Hp → Prop), aputsK h is os K = K (aputs h is os)
  | [], _, h, K => by simp [aputsK, aputs]
  | i :: is, [], h, K => by simp [aputsK, aputs]
  | i :: is, some o :: os, h, K => by rw [aputsK, aputK_eq, aputsK_eq is os]; simp [aputs]
  | i :: is, none :: os, h, K => by rw [aputsK, adelK_eq, aputsK_eq is os]; simp [aputs]
def opK (op : VOp) (vals : List Value) (h : Hp) (top : Nat) (K : Option Value → Hp → Nat → Prop) : Prop :=
  match agets h (needs op vals) with
  | none => False
  | some objs => coreK op vals objs top fun v os fr => aputsK h (needs op vals) os fun h' => match fr with
    | none => K v h' top
    | some o => aputK h' top o fun h'' => K v h'' (top + 1)
theorem opK.elim {op : VOp} {vals : List Value} {h : Hp} {top : Nat} {K : Option Value → Hp → Nat → Prop} (hk : opK op vals h top K) : ∃ v h' top', opRun op vals h top = some (v, h', top') ∧ K v h' top' := by
  unfold opK at hk
  split at hk
  · exact hk.elim
  · rename_i objs hobjs
    obtain ⟨v, os, fr, hc, hk⟩ := hk.good
    rw [aputsK_eq] at hk
    cases fr with
    | none => exact ⟨v, _, _, by simp only [opRun, hobjs, hc], hk⟩
    | some o => simp only [aputK_eq] at hk; exact ⟨v, _, _, by simp only [opRun, hobjs, hc], hk⟩
def putK (n : Nat) (e : Env) (d : Option Nat) (v : Value) (K : Env → Prop) : Prop :=
  match d with
  | some i => cond (Nat.blt i n) (aputK e i v K) (K e)
  | none => K e
theorem putK_eq (n : Nat) (e : Env) (d : Option Nat) (v : Value) (K : Env → Prop) : putK n e d v K = K (putD n e d v) := by
  cases d with
  | none => rfl
  | some i => simp only [putK, putD]; cases Nat.blt i n <;> simp [aputK_eq]
def enumK (i : Nat) (vs : List Value) (K : Env → Prop) : Prop :=
  match vs with
  | [] => K []
  | v :: vs => enumK (i + 1) vs fun e => K ((i, v) :: e)
theorem enumK_eq : ∀ (vs : List Value) (i : Nat) (K : Env → Prop), enumK i vs K = K (enumEnv i vs)
  | [], _, _ => rfl
  | v :: vs, i, K => by rw [enumK, enumK_eq vs]; rfl
def enterK (F : Fns) (f : Nat) (args : List Value) (K : VFrame → Prop) : Prop :=
  match F f with
  | some ⟨nt, body, _⟩ => cond (Nat.ble args.length nt) (enumK 0 args fun e => K ⟨f, nt, e, [.code body], [], false, none⟩) False
  | none => False
theorem enterK.elim {F : Fns} {f : Nat} {args : List Value} {K : VFrame → Prop} (h : enterK F f args K) : ∃ c, enterF F f args = some c ∧ K c := by
  unfold enterK at h
  split at h
  · rename_i nt body rs hf
    cases hb : Nat.ble args.length nt with
    | false => rw [hb] at h; exact h.elim
    | true =>
      rw [hb, cond_true, enumK_eq] at h
      exact ⟨_, by simp only [enterF, hf]; rw [if_pos (Nat.le_of_ble_eq_true hb)], h⟩
  · exact h.elim
def finishK (u : VFrame) (v : Value) (K : VFrame → Prop) : Prop :=
  match u with
  | ⟨fn, nt, env, .inReg (⟨dst, _, _⟩ :: rest) :: k, defers, ret, round⟩ => putK nt env dst v fun e => K ⟨fn, nt, e, .inReg rest :: k, defers, ret, round⟩
  | ⟨fn, nt, env, .inRangeFunc l :: k, defers, ret, round⟩ => K ⟨fn, nt, env, .endRangeFunc l :: k, defers, ret, round⟩
  | _ => False
theorem finishK.elim {u : VFrame} {v : Value} {K : VFrame → Prop} (h : finishK u v K) : ∃ u', finish u v = some u' ∧ K u' := by
  unfold finishK at h
  split at h
  · rw [putK_eq] at h; exact ⟨_, rfl, h⟩
  · exact ⟨_, rfl, h⟩
  · exact h.elim
def resK (e : Env) (h : Hp) (rs : List VRes) (K : List Value → Prop) : Prop :=
  match rs with
  | [] => K []
  | .tmp t :: rs => match aget e t with
    | some v => resK e h rs fun vs => K (v :: vs)
    | none => False
  | .cell t ks agg :: rs => match aget e t with
    | some (.pointer (some ⟨b, o, none⟩)) => match aget h b with
      | some ob => match ob.cs with
        | some cs => cond agg (req (decide (o + ks.length ≤ cs.length)) (rdN cs o ks.length fun l => resK e h rs fun vs => K (.agg ⟨l⟩ :: vs))) (rd cs o fun v => resK e h rs fun vs => K (v :: vs))
        | none => False
      | none => False
    | _ => False
theorem resK.elim {e : Env} {h : Hp} : ∀ {rs : List VRes} {K : List Value → Prop}, resK e h rs K → ∃ vs, resVs e h rs = some vs ∧ K vs
  | [], K, hk => ⟨[], rfl, hk⟩
  | .tmp t :: rs, K, hk => by
    simp only [resK] at hk
    split at hk
    · rename_i v hv
      obtain ⟨vs, h1, h2⟩ := resK.elim hk
      exact ⟨v :: vs, by simp only [resVs, resV, hv, h1], h2⟩
    · exact hk.elim
  | .cell t ks agg :: rs, K, hk => by
    simp only [resK] at hk
    split at hk
    · rename_i b o hp
      split at hk
      · rename_i ob hob
        split at hk
        · rename_i cs hcs
          cases agg with
          | true =>
            obtain ⟨h1, h2⟩ := req.elim hk
            obtain ⟨_, h3⟩ := rdN.elim h2
            obtain ⟨vs, h4, h5⟩ := resK.elim h3
            exact ⟨_, by simp only [resVs, resV, hp, hob, hcs, ↓reduceIte, if_pos (of_decide_eq_true h1), h4], h5⟩
          | false =>
            obtain ⟨v, h1, h2⟩ := rd.elim hk
            obtain ⟨vs, h4, h5⟩ := resK.elim h2
            exact ⟨_, by simp only [resVs, resV, hp, hob, hcs, Bool.false_eq_true, ↓reduceIte, h1, h4], h5⟩
        · exact hk.elim
      · exact hk.elim
    · exact hk.elim
def forceO (o : VObj) (K : VObj → Prop) : Prop :=
  match o with
  | .cells cs => K (.cells cs)
  | .row own cs => K (.row own cs)
  | .ty t cs => K (.ty t cs)
  | .siter s p => K (.siter s p)
  | .loop l => K (.loop l)
  | .marks => K .marks
theorem forceO_eq (o : VObj) (K : VObj → Prop) : forceO o K = K o := by cases o <;> rfl
def forceH (h : Hp) (K : Hp → Prop) : Prop :=
  match h with
  | [] => K []
  | (i, o) :: l => forceO o fun o => forceH l fun l => K ((i, o) :: l)
theorem forceH_eq : ∀ (h : Hp) (K : Hp → Prop), forceH h K = K h
  | [], K => rfl
  | (i, o) :: l, K => by rw [forceH, forceO_eq, forceH_eq l]
def sumK (s : Summ) (vals : List Value) (h : Hp) (top : Nat) (K : Value → Hp → Nat → Prop) : Prop :=
  match sumRun s vals h top with
  | some (v, h', top') => forceV v fun v => forceH h' fun h' => K v h' top'
  | none => False
theorem sumK.elim {s : Summ} {vals : List Value} {h : Hp} {top : Nat} {K : Value → Hp → Nat → Prop} (hk : sumK s vals h top K) : ∃ v h' top', sumRun s vals h top = some (v, h', top') ∧ K v h' top' := by
  unfold sumK at hk
  split at hk
  · rw [forceV_eq, forceH_eq] at hk; exact ⟨_, _, _, by assumption, hk⟩
  · exact hk.elim
def stepOpK (F : Fns) (S : Sums) (o : VOper) (rest : List VOper) (k : List VItem) (fn nt : Nat) (env : Env) (defers : List Nat) (round : Option Nat) (up : List VFrame) (h : Hp) (top : Nat) (K : VM → Prop) : Prop :=
  match o with
  | ⟨dst, op, g⟩ => match evalL env op.ops with
    | none => False
    | some vals => match op with
      | .callF f _ => match S f with
        | some s => sumK s vals h top fun v h' top' => putK nt env dst v fun e => K ⟨⟨fn, nt, e, .inReg rest :: k, defers, false, round⟩, up, h', top'⟩
        | none => enterK F f vals fun c => K ⟨c, ⟨fn, nt, env, .inReg (⟨dst, op, g⟩ :: rest) :: k, defers, false, round⟩ :: up, h, top⟩
      | .callV _ _ => match vals with
        | .func (.func f) ⟨first⟩ ⟨caps⟩ :: args => match S f with
          | some s => sumK s (first ++ args ++ caps) h top fun v h' top' => putK nt env dst v fun e => K ⟨⟨fn, nt, e, .inReg rest :: k, defers, false, round⟩, up, h', top'⟩
          | none => enterK F f (first ++ args ++ caps) fun c => K ⟨c, ⟨fn, nt, env, .inReg (⟨dst, op, g⟩ :: rest) :: k, defers, false, round⟩ :: up, h, top⟩
        | .func (.yield l) ⟨[]⟩ ⟨[]⟩ :: args => match callRound l args h with
          | some c => K ⟨c, ⟨fn, nt, env, .inReg (⟨dst, op, g⟩ :: rest) :: k, defers, false, round⟩ :: up, h, top⟩
          | none => False
        | _ => False
      | op => opK op vals h top fun v h' top' => match v with
        | some v => putK nt env dst v fun e => K ⟨⟨fn, nt, e, .inReg rest :: k, defers, false, round⟩, up, h', top'⟩
        | none => putK nt env dst undefV fun e => K ⟨⟨fn, nt, e, .inReg rest :: k, defers, false, round⟩, up, h', top'⟩
theorem stepOpK.elim {F : Fns} {S : Sums} {o : VOper} {rest : List VOper} {k : List VItem} {fn nt : Nat} {env : Env} {todo : List VItem} {defers : List Nat} {round : Option Nat} {up : List VFrame} {h : Hp} {top : Nat} {K : VM → Prop}
    (hk : stepOpK F S o rest k fn nt env defers round up h top K) : ∃ vm', stepOp F S o rest k ⟨fn, nt, env, todo, defers, false, round⟩ up h top = some vm' ∧ K vm' := by
  obtain ⟨dst, op, g⟩ := o
  unfold stepOpK at hk
  unfold stepOp
  simp only at hk ⊢
  split at hk
  · exact hk.elim
  · rename_i vals hv
    simp only [hv]
    split at hk
    · rename_i f xs
      split at hk
      · rename_i s hs
        obtain ⟨v, h', top', h1, h2⟩ := hk.elim
        rw [putK_eq] at h2
        exact ⟨_, by simp only [hs, h1], h2⟩
      · rename_i hs
        obtain ⟨c, h1, h2⟩ := hk.elim
        exact ⟨_, by simp only [hs, h1], h2⟩
    · split at hk
      · split at hk
        · rename_i s hs
          obtain ⟨v, h', top', h1, h2⟩ := hk.elim
          rw [putK_eq] at h2
          exact ⟨_, by simp only [hs, h1], h2⟩
        · rename_i hs
          obtain ⟨c, h1, h2⟩ := hk.elim
          exact ⟨_, by simp only [hs, h1], h2⟩
      · split at hk
        · rename_i c hc
          exact ⟨_, by simp only [hc], hk⟩
        · exact hk.elim
      · exact hk.elim
    · rename_i hne1 hne2
      obtain ⟨v, h', top', h1, h2⟩ := hk.elim
      refine ⟨⟨⟨fn, nt, putD nt env dst (v.getD undefV), .inReg rest :: k, defers, false, round⟩, up, h', top'⟩, ?_, ?_⟩
      · split
        · exact absurd rfl (hne1 _ _)
        · exact absurd rfl (hne2 _ _)
        · simp only [h1]
      · cases v with
        | none => simp only [putK_eq] at h2; exact h2
        | some v => simp only [putK_eq] at h2; exact h2
def setBK (e : Env) (d : Nat) (x : Bool) (K : Env → Prop) : Prop :=
  match e with
  | [] => K []
  | (i, v) :: l => cond (Nat.beq i d) (K ((i, .bool x) :: l)) (setBK l d x fun l' => K ((i, v) :: l'))
theorem setBK_eq : ∀ {e : Env} {d : Nat} {x : Bool} {K : Env → Prop}, aget e d = some (.bool x) → setBK e d x K = K e
  | [], d, x, K, h => rfl
  | (i, v) :: l, d, x, K, h => by
    simp only [aget] at h
    simp only [setBK]
    cases hb : Nat.beq i d with
    | true => rw [hb, cond_true, Option.some.injEq] at h; subst h; rfl
    | false => rw [hb, cond_false] at h; simp only [cond_false]; rw [setBK_eq h]
def leaveRoundK (l : Nat) (jump : Option VC) (up : List VFrame) (h : Hp) (top : Nat) (K : VM → Prop) : Prop :=
  match leaveRound l jump up h top with
  | some ⟨u, us, h', top'⟩ => K ⟨u, us, h', top'⟩
  | none => False
theorem leaveRoundK.elim {l : Nat} {jump : Option VC} {up : List VFrame} {h : Hp} {top : Nat} {K : VM → Prop} (hk : leaveRoundK l jump up h top K) : ∃ vm', leaveRound l jump up h top = some vm' ∧ K vm' := by
  unfold leaveRoundK at hk
  split at hk
  · exact ⟨_, by assumption, hk⟩
  · exact hk.elim
def forceNL (l : List Nat) (K : List Nat → Prop) : Prop :=
  match l with
  | [] => K []
  | n :: l => forceNL l (fun l' => K (n :: l'))
theorem forceNL_eq : ∀ (l : List Nat) (K : List Nat → Prop), forceNL l K = K l
  | [], _ => rfl
  | v :: l, K => by rw [forceNL, forceNL_eq l]
def stepDK (S : Sums) (nt : Nat) (o : VOper) (e : Env) (h : Hp) (m : Nat) (K : Env → Hp → Nat → List Nat → List Nat → Prop) : Prop :=
  match o with
  | ⟨dst, op, _⟩ => match evalL e op.ops with
    | none => False
    | some vals => match op with
      | .callF f _ => match S f with
        | some s => sumK s vals h m fun v h' m' => putK nt e dst v fun e => forceNL (winBlks (winL h s.modes vals)) fun r => forceNL (winWr (winL h s.modes vals)) fun w => K e h' m' r w
        | none => False
      | .callV _ _ => match vals with
        | .func (.func f) ⟨first⟩ ⟨caps⟩ :: args => match S f with
          | some s => sumK s (first ++ args ++ caps) h m fun v h' m' => putK nt e dst v fun e => forceNL (winBlks (winL h s.modes (first ++ args ++ caps))) fun r => forceNL (winWr (winL h s.modes (first ++ args ++ caps))) fun w => K e h' m' r w
          | none => False
        | _ => False
      | op => opK op vals h m fun v h' m' => match v with
        | some v => putK nt e dst v fun e => K e h' m' (needs op vals) (cond (wrOp op) (needs op vals) [])
        | none => putK nt e dst undefV fun e => K e h' m' (needs op vals) (cond (wrOp op) (needs op vals) [])
theorem stepDK.elim {S : Sums} {nt : Nat} {o : VOper} {e : Env} {h : Hp} {m : Nat} {K : Env → Hp → Nat → List Nat → List Nat → Prop} (hk : stepDK S nt o e h m K) (hw : wantedV e o.g = some true) :
    ∃ e' h' m' r w, stepD S nt o e h m = some (e', h', m', r, w) ∧ K e' h' m' r w := by
  obtain ⟨dst, op, g⟩ := o
  unfold stepDK at hk
  simp only at hk hw
  unfold stepD
  simp only [hw]
  split at hk
  · exact hk.elim
  · rename_i vals hv
    simp only [hv]
    split at hk
    · split at hk
      · rename_i s hs
        obtain ⟨v, h', m', h1, h2⟩ := hk.elim
        rw [putK_eq, forceNL_eq, forceNL_eq] at h2
        exact ⟨_, _, _, _, _, by simp only [hs, h1], h2⟩
      · exact hk.elim
    · split at hk
      · split at hk
        · rename_i s hs
          obtain ⟨v, h', m', h1, h2⟩ := hk.elim
          rw [putK_eq, forceNL_eq, forceNL_eq] at h2
          exact ⟨_, _, _, _, _, by simp only [hs, h1], h2⟩
        · exact hk.elim
      · exact hk.elim
    · rename_i hne1 hne2
      obtain ⟨v, h', m', h1, h2⟩ := hk.elim
      refine ⟨putD nt e dst (v.getD undefV), h', m', needs op vals, cond (wrOp op) (needs op vals) [], ?_, ?_⟩
      · split
        · exact absurd rfl (hne1 _ _)
        · exact absurd rfl (hne2 _ _)
        · simp only [h1]
      · cases v with
        | none => simp only [putK_eq] at h2; exact h2
        | some v => simp only [putK_eq] at h2; exact h2
def stepGK (S : Sums) (nt : Nat) (o : VOper) (e : Env) (h : Hp) (m : Nat) (K : Env → Hp → Nat → List Nat → List Nat → Prop) : Prop :=
  match o with
  | ⟨dst, op, none⟩ => stepDK S nt ⟨dst, op, none⟩ e h m K
  | ⟨dst, op, some (d, x)⟩ => match aget e d with
    | some (.bool b) => cond x
        (br b (setBK e d true fun e => stepDK S nt ⟨dst, op, some (d, x)⟩ e h m K) (setBK e d false fun e => putK nt e dst undefV fun e => K e h m [] []))
        (br b (setBK e d true fun e => putK nt e dst undefV fun e => K e h m [] []) (setBK e d false fun e => stepDK S nt ⟨dst, op, some (d, x)⟩ e h m K))
    | some (.tuple ⟨[]⟩) => putK nt e dst undefV fun e => K e h m [] []
    | _ => False
def regDK (S : Sums) (nt : Nat) (os : List VOper) (e : Env) (h : Hp) (m : Nat) (K : List Fp → Env → Hp → Nat → Prop) : Prop :=
  match os with
  | [] => K [] e h m
  | o :: os => stepGK S nt o e h m fun e1 h1 m1 r w => regDK S nt os e1 h1 (m1 + 1) fun fps e h m' => K ((r, w ++ List.range' m (m1 - m)) :: fps) e h m'
theorem br.cases {b : Bool} {p q : Prop} (h : br b p q) : (b = true ∧ p) ∨ (b = false ∧ q) := by cases b; exact .inr ⟨rfl, h⟩; exact .inl ⟨rfl, h⟩
theorem stepGK.elim {S : Sums} {nt : Nat} {o : VOper} {e : Env} {h : Hp} {m : Nat} {K : Env → Hp → Nat → List Nat → List Nat → Prop} (hk : stepGK S nt o e h m K) :
    ∃ e' h' m' r w, stepD S nt o e h m = some (e', h', m', r, w) ∧ K e' h' m' r w := by
  obtain ⟨dst, op, g⟩ := o
  cases g with
  | none => exact stepDK.elim (o := ⟨dst, op, none⟩) hk rfl
  | some p =>
    obtain ⟨d, x⟩ := p
    simp only [stepGK] at hk
    have skip : wantedV e (some (d, x)) = some false → (putK nt e dst undefV fun e => K e h m [] []) → ∃ e' h' m' r w, stepD S nt ⟨dst, op, some (d, x)⟩ e h m = some (e', h', m', r, w) ∧ K e' h' m' r w := fun hw hk => by
      rw [putK_eq] at hk
      exact ⟨_, _, _, _, _, by simp only [stepD, hw], hk⟩
    split at hk
    · rename_i b hb
      cases x with
      | true =>
        rw [cond_true] at hk
        rcases hk.cases with ⟨rfl, hk⟩ | ⟨rfl, hk⟩ <;> rw [setBK_eq hb] at hk
        · exact stepDK.elim (show stepDK S nt ⟨dst, op, some (d, true)⟩ e h m K from hk) (by simp [wantedV, hb])
        · exact skip (by simp [wantedV, hb]) hk
      | false =>
        rw [cond_false] at hk
        rcases hk.cases with ⟨rfl, hk⟩ | ⟨rfl, hk⟩ <;> rw [setBK_eq hb] at hk
        · exact skip (by simp [wantedV, hb]) hk
        · exact stepDK.elim (show stepDK S nt ⟨dst, op, some (d, false)⟩ e h m K from hk) (by simp [wantedV, hb])
    · rename_i hb
      exact skip (by simp [wantedV, hb]) hk
    · exact hk.elim
theorem regDK.elim {S : Sums} {nt : Nat} : ∀ {os : List VOper} {e : Env} {h : Hp} {m : Nat} {K : List Fp → Env → Hp → Nat → Prop}, regDK S nt os e h m K → ∃ fps e' h' m', runD S nt os e h m = some (fps, e', h', m') ∧ K fps e' h' m'
  | [], e, h, m, K, hk => ⟨_, _, _, _, rfl, hk⟩
  | o :: os, e, h, m, K, hk => by
    simp only [regDK] at hk
    obtain ⟨e1, h1, m1, r, w, g1, g2⟩ := hk.elim
    obtain ⟨fps, e', h', m', k1, k2⟩ := regDK.elim g2
    exact ⟨_, _, _, _, by simp only [runD, g1, k1], k2⟩
def evStep (F : Fns) (S : Sums) (f : Nat) (lp : Bool) (L : VM → Prop) (E : Value → Hp → Nat → Prop) (K : VM → Prop) : VM → Prop
  | ⟨⟨fn, nt, env, todo, defers, ret, round⟩, up, h, top⟩ =>
    match ret with
    | true => match defers with
      | r :: ds => match aget h r with
        | some .marks => adelK h r fun h' => K ⟨⟨fn, nt, env, todo, ds, true, round⟩, up, h', top⟩
        | _ => False
      | [] => match F fn with
        | some ⟨_, _, rs⟩ => resK env h rs fun vs => match up with
          | u :: us => forceV (tupV vs) fun v => finishK u v fun u' => K ⟨u', us, h, top⟩
          | [] => cond (Nat.beq fn f) (forceV (tupV vs) fun v => E v h top) False
        | none => False
    | false => match todo with
      | [] => match round with
        | none => K ⟨⟨fn, nt, env, [], defers, true, none⟩, up, h, top⟩
        | some l => leaveRoundK l none up h top K
      | .code .ret :: k => match round with
        | none => K ⟨⟨fn, nt, env, .code .ret :: k, defers, true, none⟩, up, h, top⟩
        | some l => leaveRoundK l (some .ret) up h top K
      | .code .skip :: k => K ⟨⟨fn, nt, env, k, defers, false, round⟩, up, h, top⟩
      | .inBlock _ :: k => K ⟨⟨fn, nt, env, k, defers, false, round⟩, up, h, top⟩
      | .code (.seq a b) :: k => K ⟨⟨fn, nt, env, .code a :: .code b :: k, defers, false, round⟩, up, h, top⟩
      | .code (.cond c a b) :: k => match evalO env c with
        | some (.bool x) => br x (K ⟨⟨fn, nt, env, .code a :: k, defers, false, round⟩, up, h, top⟩) (K ⟨⟨fn, nt, env, .code b :: k, defers, false, round⟩, up, h, top⟩)
        | _ => False
      | .code (.block id b) :: k => K ⟨⟨fn, nt, env, .code b :: .inBlock id :: k, defers, false, round⟩, up, h, top⟩
      | .code (.loop b) :: k => cond lp (L ⟨⟨fn, nt, env, .code b :: .inLoop b :: k, defers, false, round⟩, up, h, top⟩) (K ⟨⟨fn, nt, env, .code b :: .inLoop b :: k, defers, false, round⟩, up, h, top⟩)
      | .inLoop b :: k => cond lp (L ⟨⟨fn, nt, env, .code b :: .inLoop b :: k, defers, false, round⟩, up, h, top⟩) (K ⟨⟨fn, nt, env, .code b :: .inLoop b :: k, defers, false, round⟩, up, h, top⟩)
      | .code (.exit id) :: k => match exitTo id k with
        | some k' => K ⟨⟨fn, nt, env, k', defers, false, round⟩, up, h, top⟩
        | none => match round with
          | none => False
          | some l => leaveRoundK l (some (.exit id)) up h top K
      | .code (.reg ops) :: k => K ⟨⟨fn, nt, env, .inReg ops :: k, defers, false, round⟩, up, h, top⟩
      | .code .stuck :: _ => False
      | .code (.regD ops ord post) :: k => regDK S nt ops env h top fun fps e h m => req (okPairs fps ord) (K ⟨⟨fn, nt, e, .inReg post :: k, defers, false, round⟩, up, h, m⟩)
      | .inReg [] :: k => K ⟨⟨fn, nt, env, k, defers, false, round⟩, up, h, top⟩
      | .inReg (⟨dst, op, none⟩ :: rest) :: k => stepOpK F S ⟨dst, op, none⟩ rest k fn nt env defers round up h top K
      | .inReg (⟨dst, op, some (d, w)⟩ :: rest) :: k => match aget env d with
        | some (.bool b) => cond w
            (br b (setBK env d true fun env => stepOpK F S ⟨dst, op, some (d, w)⟩ rest k fn nt env defers round up h top K) (setBK env d false fun env => putK nt env dst undefV fun e => K ⟨⟨fn, nt, e, .inReg rest :: k, defers, false, round⟩, up, h, top⟩))
            (br b (setBK env d true fun env => putK nt env dst undefV fun e => K ⟨⟨fn, nt, e, .inReg rest :: k, defers, false, round⟩, up, h, top⟩) (setBK env d false fun env => stepOpK F S ⟨dst, op, some (d, w)⟩ rest k fn nt env defers round up h top K))
        | some (.tuple ⟨[]⟩) => putK nt env dst undefV fun e => K ⟨⟨fn, nt, e, .inReg rest :: k, defers, false, round⟩, up, h, top⟩
        | _ => False
      | .code (.rangeF f ps asg body) :: k => match evalO env f, round with
        | some (.func (.func g) ⟨first⟩ ⟨caps⟩), none =>
          enterK F g (first ++ [.func (.yield (top + 1)) #[] #[]] ++ caps) fun c => aputK h top .marks fun h1 => aputK h1 (top + 1) (.loop ⟨.ready, none, fn, nt, env, ps, asg, body, top⟩) fun h2 =>
            K ⟨c, ⟨fn, nt, env, .inRangeFunc (top + 1) :: k, top :: defers, false, none⟩ :: up, h2, top + 2⟩
        | some (.func (.func g) ⟨first⟩ ⟨caps⟩), some l0 => match aget h l0 with
          | some (.loop r0) => enterK F g (first ++ [.func (.yield top) #[] #[]] ++ caps) fun c => aputK h top (.loop ⟨.ready, none, fn, nt, env, ps, asg, body, r0.defers⟩) fun h2 =>
              K ⟨c, ⟨fn, nt, env, .inRangeFunc top :: k, defers, false, some l0⟩ :: up, h2, top + 1⟩
          | _ => False
        | _, _ => False
      | .inRangeFunc _ :: _ => False
      | .endRangeFunc l :: k => match aget h l with
        | some (.loop ⟨st, pend, fn', nt', env', ps, asg, body, ds⟩) => match st with
          | .busy => False
          | _ => aputK h l (.loop ⟨.exhausted, pend, fn', nt', env', ps, asg, body, ds⟩) fun h' => match pend with
            | some c => K ⟨⟨fn, nt, env, .code c :: k, defers, false, round⟩, up, h', top⟩
            | none => K ⟨⟨fn, nt, env, k, defers, false, round⟩, up, h', top⟩
        | _ => False
      | .beginRound :: k => match round with
        | some l => match aget h l with
          | some (.loop ⟨st, pend, fn', nt', env', ps, asg, body, ds⟩) => match st with
            | .ready => aputK h l (.loop ⟨.busy, pend, fn', nt', env', ps, asg, body, ds⟩) fun h' => K ⟨⟨fn, nt, env, k, defers, false, some l⟩, up, h', top⟩
            | _ => False
          | _ => False
        | none => False
section
variable {P : Program} {F : Fns} {S : Sums}
theorem evStep_ok (hF : FnsOK P F) (hS : SumsOK P S) {f base : Nat} {lp : Bool} {R : Value → Hp → Nat → Prop} {K : VM → Prop} (hK : ∀ vm, K vm → Leads P f base vm R) {vm : VM}
    (h : evStep F S f lp (fun vm => Leads P f base vm R) R K vm) : Leads P f base vm R := by
  obtain ⟨⟨fn, nt, env, todo, defers, ret, round⟩, up, H, top⟩ := vm
  unfold evStep at h
  simp only at h
  have go : ∀ vm', vstep F S ⟨⟨fn, nt, env, todo, defers, ret, round⟩, up, H, top⟩ = some vm' → K vm' → Leads P f base ⟨⟨fn, nt, env, todo, defers, ret, round⟩, up, H, top⟩ R :=
    fun vm' h1 h2 => Leads.next hF hS h1 (hK _ h2)
  split at h
  · split at h
    · split at h
      · rename_i hm
        rw [adelK_eq] at h
        exact go _ (by simp only [vstep, hm]) h
      · exact h.elim
    · split at h
      · rename_i nt' b' rs hf
        obtain ⟨vs, h1, h2⟩ := h.elim
        split at h2
        · rw [forceV_eq] at h2
          obtain ⟨u', h3, h4⟩ := h2.elim
          exact go _ (by simp only [vstep, hf, h1, h3]) h4
        · cases hb : Nat.beq fn f with
          | false => rw [hb] at h2; exact h2.elim
          | true =>
            rw [hb, cond_true, forceV_eq] at h2
            have := Nat.eq_of_beq_eq_true hb
            subst this
            exact Leads.stop hF hf h1 h2
      · exact h.elim
  · split at h
    · split at h
      · exact go _ (by simp only [vstep]) h
      · obtain ⟨vm', h1, h2⟩ := h.elim
        exact go _ (by simp only [vstep, h1]) h2
    · split at h
      · exact go _ (by simp only [vstep]) h
      · obtain ⟨vm', h1, h2⟩ := h.elim
        exact go _ (by simp only [vstep, h1]) h2
    · exact go _ (by simp only [vstep]) h
    · exact go _ (by simp only [vstep]) h
    · exact go _ (by simp only [vstep]) h
    · split at h
      · rename_i x hx
        rcases h.cases with ⟨rfl, h⟩ | ⟨rfl, h⟩
        · exact go _ (by simp only [vstep, hx]; rfl) h
        · exact go _ (by simp only [vstep, hx]; rfl) h
      · exact h.elim
    · exact go _ (by simp only [vstep]) h
    · cases lp
      · exact go _ (by simp only [vstep]) h
      · exact Leads.next hF hS (vm' := _) (by simp only [vstep]) h
    · cases lp
      · exact go _ (by simp only [vstep]) h
      · exact Leads.next hF hS (vm' := _) (by simp only [vstep]) h
    · split at h
      · rename_i k' hk'
        exact go _ (by simp only [vstep, hk']) h
      · rename_i hk'
        split at h
        · exact h.elim
        · obtain ⟨vm', h1, h2⟩ := h.elim
          exact go _ (by simp only [vstep, hk', h1]) h2
    · exact go _ (by simp only [vstep]) h
    · exact h.elim
    · obtain ⟨fps, e', h', m', g1, g2⟩ := h.elim
      obtain ⟨g3, g4⟩ := g2.elim
      exact go _ (by simp only [vstep, g1, g3]) g4
    · exact go _ (by simp only [vstep]) h
    · obtain ⟨vm', h1, h2⟩ := stepOpK.elim (todo := _) h
      exact go _ (by simp only [vstep, wantedV]; exact h1) h2
    · split at h
      · rename_i b hb
        rename_i w _ _ _
        cases w
        · rcases h.cases with ⟨rfl, h'⟩ | ⟨rfl, h'⟩ <;> rw [setBK_eq hb] at h'
          · rw [putK_eq] at h'
            replace h := h'
            exact go _ (by simp only [vstep, wantedV, hb]; rfl) h
          · obtain ⟨vm', h1, h2⟩ := stepOpK.elim (todo := _) h'
            exact go _ (by simp only [vstep, wantedV, hb]; exact h1) h2
        · rcases h.cases with ⟨rfl, h'⟩ | ⟨rfl, h'⟩ <;> rw [setBK_eq hb] at h'
          · obtain ⟨vm', h1, h2⟩ := stepOpK.elim (todo := _) h'
            exact go _ (by simp only [vstep, wantedV, hb]; exact h1) h2
          · rw [putK_eq] at h'
            replace h := h'
            exact go _ (by simp only [vstep, wantedV, hb]; rfl) h
      · rename_i hb
        rw [putK_eq] at h
        exact go _ (by simp only [vstep, wantedV, hb]) h
      · exact h.elim
    · split at h
      · rename_i hfv
        obtain ⟨c, h1, h2⟩ := h.elim
        rw [aputK_eq, aputK_eq] at h2
        exact go _ (by simp only [vstep, hfv, h1]) h2
      · rename_i hfv
        split at h
        · rename_i r0 hr0
          obtain ⟨c, h1, h2⟩ := h.elim
          rw [aputK_eq] at h2
          exact go _ (by simp only [vstep, hfv, hr0, h1]) h2
        · exact h.elim
      · exact h.elim
    · exact h.elim
    · split at h
      · rename_i hl
        split at h
        · exact h.elim
        · rename_i hb
          rw [aputK_eq] at h
          split at h
          · rename_i st _ _ _ _ _ _ _ _ _ _
            exact go _ (by simp only [vstep, hl]; cases st <;> first | exact absurd rfl hb | rfl) h
          · rename_i st _ _ _ _ _ _ _ _ _
            exact go _ (by simp only [vstep, hl]; cases st <;> first | exact absurd rfl hb | rfl) h
      · exact h.elim
    · split at h
      · split at h
        · rename_i hl
          split at h
          · rw [aputK_eq] at h
            exact go _ (by simp only [vstep, hl]) h
          · exact h.elim
        · exact h.elim
      · exact h.elim
def ev (F : Fns) (S : Sums) (f : Nat) (lp : Bool) (L : VM → Prop) (E : Value → Hp → Nat → Prop) : Nat → VM → Prop
  | 0, vm => L vm
  | n + 1, vm => evStep F S f lp L E (ev F S f lp L E n) vm
theorem ev_ok (hF : FnsOK P F) (hS : SumsOK P S) {f base : Nat} (lp : Bool) {R : Value → Hp → Nat → Prop} : ∀ (n : Nat) {vm : VM}, ev F S f lp (fun vm => Leads P f base vm R) R n vm → Leads P f base vm R
  | 0, _, h => h
  | n + 1, _, h => evStep_ok hF hS (fun _ h => ev_ok hF hS lp n h) h
end
end Go.Vm
namespace Go.Vm
open Go
def TabOK (P : Program) : List (Nat × VFn) → Prop
  | [] => True
  | (i, vf) :: l => (P.funcs[i]?).bind (compFn P) = some vf ∧ TabOK P l
theorem FnsOK.of_tab {P : Program} : ∀ {l : List (Nat × VFn)}, TabOK P l → FnsOK P (aget l)
  | [], _, f, vf, h => by simp [aget] at h
  | (i, v) :: l, hl, f, vf, h => by
    obtain ⟨h1, h2⟩ := hl
    simp only [aget] at h
    cases hb : Nat.beq i f with
    | true =>
      rw [hb, cond_true, Option.some.injEq] at h
      subst h
      have := Nat.eq_of_beq_eq_true hb
      subst this
      cases hf : P.funcs[i]? with
      | none => simp [hf] at h1
      | some fn => rw [hf, Option.bind_some] at h1; exact ⟨fn, rfl, h1⟩
    | false =>
      rw [hb, cond_false] at h
      exact FnsOK.of_tab h2 f vf h
theorem SumsOK.none {P : Program} : SumsOK P (fun _ => none) := fun _ _ h => by cases h
end Go.Vm
namespace Go.Vm
open Go
def subE (e : Env) : Env → Prop
  | [] => True
  | (i, v) :: l => aget e i = some v ∧ subE e l
theorem subE_get {e : Env} : ∀ {l : Env}, subE e l → ∀ i v, aget l i = some v → aget e i = some v
  | [], _, i, v, h => by simp [aget] at h
  | (j, u) :: l, h, i, v, hv => by
    obtain ⟨h1, h2⟩ := h
    simp only [aget] at hv
    cases hb : Nat.beq j i with
    | true =>
      rw [hb, cond_true, Option.some.injEq] at hv
      subst hv
      have := Nat.eq_of_beq_eq_true hb; subst this
      exact h1
    | false =>
      rw [hb, cond_false] at hv
      exact subE_get h2 i v hv
theorem Leads.env {P : Program} {f base fn nt : Nat} {e e' : Env} {todo : List VItem} {defers : List Nat} {ret : Bool} {round : Option Nat} {up : List VFrame} {H : Hp} {top : Nat} {R : Value → Hp → Nat → Prop}
    (h : Leads P f base ⟨⟨fn, nt, e', todo, defers, ret, round⟩, up, H, top⟩ R) (hs : subE e e') : Leads P f base ⟨⟨fn, nt, e, todo, defers, ret, round⟩, up, H, top⟩ R := by
  refine ⟨fun w0 U ρ rf rfs w cs hr => ?_⟩
  exact h.get w0 U ρ rf rfs w cs ⟨{ hr.cur with env := fun i v hv => hr.cur.env i v (subE_get hs i v hv) }, hr.up, hr.heap⟩
end Go.Vm
namespace Go.Vm
open Go Go.RowKit
inductive SArg where
  | v (x : Value)
  | sl (n : Nat) (cs : List Value)
def entry (k : Nat) : List Md → List SArg → List Value
  | .v :: ms, .v x :: aqs => x :: entry k ms aqs
  | .sl sz :: ms, .sl n _ :: aqs => .slice (some ⟨k, 0, none⟩) n sz :: entry (k + 1) ms aqs
  | _, _ => []
def rowsOf (k : Nat) : List SArg → Hp
  | .sl _ cs :: aqs => (k, .row false cs) :: rowsOf (k + 1) aqs
  | .v _ :: aqs => rowsOf k aqs
  | [] => []
def wins : List SArg → Nat
  | .sl _ _ :: aqs => wins aqs + 1
  | .v _ :: aqs => wins aqs
  | [] => 0
def ArgR (w : World) : Md → SArg → Value → Prop
  | .v, .v x, rv => flatV x = true ∧ rv = x
  | .sl sz, .sl n cs, rv => ((∃ a, rv = .slice a 0 0) ∧ n = 0 ∧ cs = []) ∨ ∃ b o c, rv = .slice (some ⟨b, o, none⟩) n c ∧ n ≤ c ∧ ∀ ρ, CellsR ρ w ⟨b, o, c * sz⟩ false cs
  | _, _, _ => False
inductive ArgsR (w : World) : List Md → List SArg → List Value → Prop
  | nil : ArgsR w [] [] []
  | cons {m ms a aqs v vs} (h : ArgR w m a v) (t : ArgsR w ms aqs vs) : ArgsR w (m :: ms) (a :: aqs) (v :: vs)
theorem add_win {k n : Nat} {ρc : Ren} {vs rvs : List Value} {Hr : Hp} {w : World} (c1 : ∀ i l, ρc i = some l → k + 1 ≤ i ∧ i < k + 1 + n) (c2 : VRL ρc vs rvs)
    (c3 : ∀ i o, aget Hr i = some o → ∃ cs l, o = .row false cs ∧ ρc i = some l ∧ ∀ ρ', CellsR ρ' w l false cs) (l : Loc) (cs : List Value) (hc : ∀ ρ', CellsR ρ' w l false cs) :
    (∀ i l', upd ρc k l i = some l' → k ≤ i ∧ i < k + 1 + n) ∧ VRL (upd ρc k l) vs rvs ∧
      (∀ i o, aget ((k, .row false cs) :: Hr) i = some o → ∃ cs l', o = .row false cs ∧ upd ρc k l i = some l' ∧ ∀ ρ', CellsR ρ' w l' false cs) ∧ upd ρc k l k = some l := by
  have hoff : ρc k = none := by
    cases e : ρc k with
    | none => rfl
    | some l => have := (c1 k l e).1; omega
  refine ⟨fun i l' e => ?_, c2.mono (Ext.upd hoff), fun i o e => ?_, upd_same _ _ _⟩
  · by_cases hi : k = i
    · subst hi; omega
    · rw [upd_ne _ _ hi] at e; have := c1 i l' e; omega
  · rw [aget_cons] at e
    split at e
    · rename_i hk
      cases e; subst hk
      exact ⟨cs, l, rfl, upd_same _ _ _, hc⟩
    · rename_i hk
      obtain ⟨cs', l', a, b, c⟩ := c3 i o e
      exact ⟨cs', l', a, by rw [upd_ne _ _ hk]; exact b, c⟩
theorem argsR_fit {w : World} : ∀ {ms : List Md} {aqs : List SArg} {rvals : List Value} (k : Nat), ArgsR w ms aqs rvals →
    ∃ ρc : Ren, (∀ i l, ρc i = some l → k ≤ i ∧ i < k + wins aqs) ∧ VRL ρc (entry k ms aqs) rvals ∧
      (∀ i o, aget (rowsOf k aqs) i = some o → ∃ cs l, o = .row false cs ∧ ρc i = some l ∧ ∀ ρ', CellsR ρ' w l false cs)
  | _, _, _, k, .nil => ⟨fun _ => none, fun i l e => by simp at e, .nil, fun i o e => by simp [rowsOf, aget] at e⟩
  | _, _, _, k, .cons (m := m) (a := a) (v := v) h t => by
    cases m with
    | v =>
      cases a with
      | v x =>
        obtain ⟨hf, rfl⟩ := h
        obtain ⟨ρc, c1, c2, c3⟩ := argsR_fit k t
        exact ⟨ρc, c1, .cons (VR.flat _ _ hf) c2, c3⟩
      | _ => exact h.elim
    | sl sz =>
      cases a with
      | sl n cs =>
        obtain ⟨ρc, c1, c2, c3⟩ := argsR_fit (k + 1) t
        rcases h with ⟨⟨a, rfl⟩, rfl, rfl⟩ | ⟨b, o, c, rfl, hn, hc⟩
        · obtain ⟨d1, d2, d3, d4⟩ := add_win c1 c2 c3 ⟨0, 0, 0⟩ [] (fun ρ' => ⟨Nat.zero_le _, fun i v e => by simp at e, fun i hi => absurd hi (Nat.not_lt_zero _)⟩)
          exact ⟨_, by simpa [wins, Nat.add_assoc, Nat.add_comm 1] using d1, .cons (.slice0 _) d2, d3⟩
        · obtain ⟨d1, d2, d3, d4⟩ := add_win c1 c2 c3 ⟨b, o, c * sz⟩ cs hc
          exact ⟨_, by simpa [wins, Nat.add_assoc, Nat.add_comm 1] using d1, .cons (.slice d4 hn (by simp)) d2, d3⟩
      | _ => exact h.elim
    | pt n => cases a <;> exact h.elim
    | tr ps => cases a <;> exact h.elim
theorem calls_of_leads {P : Program} {F : Fns} (hF : FnsOK P F) {f : Nat} {ms : List Md} {aqs : List SArg} {rvals : List Value} {w : World} {c : VFrame} {r : Bool}
    (ha : ArgsR w ms aqs rvals) (hc : enterF F f (entry 0 ms aqs) = some c) (hl : Leads P f (wins aqs) ⟨c, [], rowsOf 0 aqs, wins aqs⟩ (fun v _ _ => v = .bool r)) :
    Calls P f ⟨rvals⟩ w fun e w' => e = .returned (.bool r) ∧ Below w.heap.size w w' := by
  intro cs
  obtain ⟨ρc, c1, c2, c3⟩ := argsR_fit 0 ha
  have hpc : HpR P w UG.no ρc (rowsOf 0 aqs) (wins aqs) w :=
    { obj := fun i o e => by obtain ⟨cs', l, rfl, a, b⟩ := c3 i o e; exact ⟨l, a, b ρc, fun e => by cases e⟩
      dis := fun i j oi oj li lj _ hi _ _ _ hw => by obtain ⟨cs', l, rfl, a, b⟩ := c3 i oi hi; cases hw
      lt := fun i l e => by have := c1 i l e; exact .inr ⟨Nat.zero_le _, by omega⟩
      keep := Keep.refl _ _ }
  obtain ⟨ρ', rv, fr', w', v', Hc, tc, g1, g2, g3, g4, g5, g6, g7⟩ := hl.get w _ ρc _ [] w cs ⟨(enter_ok hF hc c2).1, .nil, hpc⟩
  subst g7
  obtain rfl := g4.boolInv
  exact ⟨.returned (.bool r), w', fr', ⟨rfl, g5.keep.toBelow⟩, g1, g2, g3⟩
end Go.Vm
namespace Go.Vm
open Go
def SumTab (P : Program) : List (Nat × Summ) → Prop
  | [] => True
  | (i, s) :: l => SumOK P i s ∧ SumTab P l
theorem SumsOK.of_tab {P : Program} : ∀ {l : List (Nat × Summ)}, SumTab P l → SumsOK P (aget l)
  | [], _, f, s, h => by simp [aget] at h
  | (i, v) :: l, hl, f, s, h => by
    obtain ⟨h1, h2⟩ := hl
    simp only [aget] at h
    cases hb : Nat.beq i f with
    | true =>
      rw [hb, cond_true, Option.some.injEq] at h
      subst h
      have := Nat.eq_of_beq_eq_true hb
      subst this
      exact h1
    | false =>
      rw [hb, cond_false] at h
      exact SumsOK.of_tab h2 f s h
theorem sumK.intro {s : Summ} {vals : List Value} {h : Hp} {top : Nat} {K : Value → Hp → Nat → Prop} {v : Value} {h' : Hp} {top' : Nat} (e : sumRun s vals h top = some (v, h', top')) (k : forceV v fun v => K v h' top') : sumK s vals h top K := by
  unfold sumK; rw [e]; simp only [forceV_eq, forceH_eq] at *; exact k
theorem flatL_map {α : Type} {g : α → Value} (h : ∀ x, flatV (g x) = true) : ∀ (xs : List α), flatV.flatL (xs.map g) = true
  | [] => rfl
  | x :: xs => by rw [List.map_cons, flatV.flatL, h, flatL_map h xs]; rfl
def asI (k : IntKind) : Value → Option Int | .int k' n => if k' = k then some n else none | _ => none
theorem asI_eq (k : IntKind) (v : Value) (x : Int) (h : asI k v = some x) : v = .int k x := by
  cases v <;> simp [asI] at h
  obtain ⟨rfl, rfl⟩ := h; rfl
def reE (m : Nat → Option Nat) (e : Env) : Env → Prop
  | [] => True
  | (i, v) :: l => (∃ v', renV m v = some v' ∧ aget e i = some v') ∧ reE m e l
theorem reE_ren {m : Nat → Option Nat} {e : Env} : ∀ {l : Env}, reE m e l → renE m e l
  | [], _ => trivial
  | (i, v) :: l, ⟨⟨v', h1, h2⟩, h3⟩ => ⟨by rw [h1]; exact h2, reE_ren h3⟩
def reH (m : Nat → Option Nat) (H : Hp) : Hp → Prop
  | [] => True
  | (i, o') :: l => (∃ j o, m i = some j ∧ aget H j = some o ∧ OSub m o o') ∧ reH m H l
theorem reH_sub {m : Nat → Option Nat} {H : Hp} : ∀ {l : Hp}, reH m H l → HSub m H l
  | [], _, i, o, h => by simp [aget] at h
  | (k, x) :: l, ⟨h1, h2⟩, i, o, h => by
    rw [aget_cons] at h
    split at h
    · rename_i e; cases h; subst e; exact h1
    · exact reH_sub h2 i o h
def reU (m : Nat → Option Nat) : List VFrame → List VFrame → Prop
  | [], [] => True
  | ⟨fn, nt, e, td, ds, ret, rd⟩ :: l, ⟨fn', nt', e', td', ds', ret', rd'⟩ :: l' => (fn' = fn ∧ nt' = nt ∧ ret' = ret ∧ rd = none ∧ rd' = none ∧ reE m e e' ∧ renT m td' = some td ∧ renN m ds' = some ds) ∧ reU m l l'
  | _, _ => False
theorem reU_sub {m : Nat → Option Nat} : ∀ {l l' : List VFrame}, reU m l l' → All2 (FSub m) l l'
  | [], [], _ => .nil
  | ⟨_, _, _, _, _, _, _⟩ :: l, ⟨_, _, _, _, _, _, _⟩ :: l', ⟨⟨h1, h2, h3, h4, h5, h6, h7, h8⟩, h9⟩ => .cons ⟨h1, h2, reE_ren h6, h7, h8, h3, by simp only; rw [h4, h5]; trivial⟩ (reU_sub h9)
  | [], _ :: _, h => h.elim
  | _ :: _, [], h => h.elim
def valsNot (j : Nat) : List (Nat × Nat) → Bool
  | [] => true
  | (_, k) :: l => cond (Nat.beq j k) false (valsNot j l)
def chkM (base top' : Nat) : List (Nat × Nat) → Bool
  | m => injM m && ltM m && fixM m base
where
  injM : List (Nat × Nat) → Bool
    | [] => true
    | (_, j) :: l => valsNot j l && injM l
  ltM : List (Nat × Nat) → Bool
    | [] => true
    | (i, _) :: l => Nat.blt i top' && ltM l
  fixM (m : List (Nat × Nat)) : Nat → Bool
    | 0 => true
    | n + 1 => (match aget m n with | some j => Nat.beq j n | none => false) && fixM m n
theorem valsNot_spec {j : Nat} : ∀ {l : List (Nat × Nat)}, valsNot j l = true → ∀ i, aget l i ≠ some j
  | [], _, i, h => by simp [aget] at h
  | (a, k) :: l, hv, i, h => by
    simp only [valsNot] at hv
    cases hb : Nat.beq j k with
    | true => rw [hb] at hv; cases hv
    | false =>
      rw [hb, cond_false] at hv
      rw [aget_cons] at h
      split at h
      · cases h; simp at hb
      · exact valsNot_spec hv i h
theorem injM_spec {top' : Nat} : ∀ {l : List (Nat × Nat)}, chkM.injM l = true → ∀ i j k, aget l i = some k → aget l j = some k → i = j
  | [], _, i, j, k, h, _ => by simp [aget] at h
  | (a, b) :: l, hv, i, j, k, h1, h2 => by
    simp only [chkM.injM, Bool.and_eq_true] at hv
    rw [aget_cons] at h1 h2
    split at h1 <;> split at h2
    · omega
    · cases h1; exact absurd h2 (valsNot_spec hv.1 j)
    · cases h2; exact absurd h1 (valsNot_spec hv.1 i)
    · exact injM_spec (top' := top') hv.2 i j k h1 h2
theorem ltM_spec {top' : Nat} : ∀ {l : List (Nat × Nat)}, chkM.ltM top' l = true → ∀ i j, aget l i = some j → i < top'
  | [], _, i, j, h => by simp [aget] at h
  | (a, b) :: l, hv, i, j, h => by
    simp only [chkM.ltM, Bool.and_eq_true] at hv
    rw [aget_cons] at h
    split at h
    · rename_i e; subst e; exact Nat.blt_eq.mp hv.1
    · exact ltM_spec hv.2 i j h
theorem fixM_spec {m : List (Nat × Nat)} : ∀ {n : Nat}, chkM.fixM m n = true → ∀ i, i < n → aget m i = some i
  | 0, _, i, h => absurd h (Nat.not_lt_zero _)
  | n + 1, hv, i, h => by
    simp only [chkM.fixM, Bool.and_eq_true] at hv
    by_cases hi : i = n
    · subst hi
      have := hv.1
      split at this
      · rename_i j hj; rw [hj, Nat.eq_of_beq_eq_true this]
      · cases this
    · exact fixM_spec hv.2 i (by omega)
theorem Leads.re {P : Program} {f base fn nt : Nat} {e e' : Env} {todo todo' : List VItem} {ds ds' : List Nat} {ret : Bool} {up up' : List VFrame} {H H' : Hp} {top top' : Nat} {R : Value → Hp → Nat → Prop}
    (h : Leads P f base ⟨⟨fn, nt, e', todo', ds', ret, none⟩, up', H', top'⟩ R) (m : List (Nat × Nat)) (hc : chkM base top' m = true) (he : reE (aget m) e e') (hH : reH (aget m) H H')
    (ht : renT (aget m) todo' = some todo := by rfl) (hd : renN (aget m) ds' = some ds := by rfl) (hu : reU (aget m) up up' := by trivial) :
    Leads P f base ⟨⟨fn, nt, e, todo, ds, ret, none⟩, up, H, top⟩ R := by
  simp only [chkM, Bool.and_eq_true] at hc
  refine Leads.sub (s := aget m) ?_ h
  exact ⟨⟨rfl, rfl, reE_ren he, ht, hd, rfl, trivial⟩, reU_sub hu, reH_sub hH, injM_spec (top' := top') hc.1.1, ltM_spec hc.1.2, fixM_spec hc.2⟩
end Go.Vm
namespace Go.Vm
open Go Go.RowKit Go.WideShapes
def structK (g : TypeId → Option (List SK)) (P : Program) (o : Nat) : List Field → Option (List SK)
  | [] => some []
  | f :: fs => if f.offset = o then match g f.type with
    | some a => if a.length = P.cellsOf f.type then match structK g P (o + a.length) fs with
      | some b => some (a ++ b)
      | none => none
      else none
    | none => none
    else none
def leafK (P : Program) : Nat → TypeId → Option (List SK)
  | 0, _ => none
  | n + 1, t => match P.underlying t with
    | some .bool => some [.bool]
    | some (.int k) => some [.int k]
    | some .string => some [.str]
    | some (.struct fs) => match structK (leafK P n) P 0 fs.toList with
      | some ks => if ks.length = P.cellsOf t then some ks else none
      | none => none
    | _ => none
def leafOK : SK → Value → Prop
  | .bool, v => ∃ b, v = .bool b
  | .int k, v => ∃ n, v = .int k n ∧ (Lit.int k n).wf = true
  | .str, v => ∃ s, v = .string s ∧ s.size ≤ maxLen
  | .oth, _ => False
def cellsOK : List SK → List Value → Prop
  | [], [] => True
  | k :: ks, v :: vs => leafOK k v ∧ cellsOK ks vs
  | _, _ => False
theorem cellsOK.append : ∀ {a b : List SK} {x y : List Value}, cellsOK a x → cellsOK b y → cellsOK (a ++ b) (x ++ y)
  | [], _, [], _, _, k => k
  | [], _, _ :: _, _, h, _ => h.elim
  | _ :: _, _, [], _, h, _ => h.elim
  | _ :: _, _, _ :: _, _, h, k => ⟨h.1, cellsOK.append h.2 k⟩
theorem cellsOK.length : ∀ {a : List SK} {x : List Value}, cellsOK a x → x.length = a.length
  | [], [], _ => rfl
  | [], _ :: _, h => h.elim
  | _ :: _, [], h => h.elim
  | _ :: _, _ :: _, h => by simp [cellsOK.length h.2]
theorem cellsOK.inv {k : SK} {ks : List SK} {cs : List Value} (h : cellsOK (k :: ks) cs) : ∃ v vs, cs = v :: vs ∧ leafOK k v ∧ cellsOK ks vs := by
  cases cs with
  | nil => exact h.elim
  | cons v vs => exact ⟨v, vs, rfl, h⟩
theorem cellsOK.inv0 {cs : List Value} (h : cellsOK [] cs) : cs = [] := by
  cases cs with
  | nil => rfl
  | cons => exact h.elim
section
variable {H : Type} {enc : TypeId × Value → H} {P : Program} {w : World} {base : Nat} {spare : Nat → Bool} {held : Bool}
theorem structK_ok {g : TypeId → Option (List SK)} {F : TypeId → List Value → Prop} (hg : ∀ t ks cs, g t = some ks → F t cs → cellsOK ks cs) {cs : List Value} :
    ∀ {fs : List Field} {o : Nat} {ks : List SK}, structK g P o fs = some ks → (∀ f ∈ fs, F f.type ((cs.drop f.offset).take (P.cellsOf f.type))) → cellsOK ks ((cs.drop o).take ks.length)
  | [], o, ks, h, _ => by simp only [structK, Option.some.injEq] at h; subst h; simp [cellsOK]
  | f :: fs, o, ks, h, hm => by
    simp only [structK] at h
    split at h <;> try (cases h; done)
    rename_i ho
    split at h <;> try (cases h; done)
    rename_i a ha
    split at h <;> try (cases h; done)
    rename_i hl
    split at h <;> cases h
    rename_i b hb
    have h1 := hg f.type a _ ha (hm f (by simp))
    have h2 := structK_ok hg hb (fun f' hf => hm f' (by simp [hf]))
    have h3 := h1.append h2
    rw [ho, ← hl] at h3
    rw [List.length_append, List.take_add, List.drop_drop]
    exact h3
theorem trod_flat : ∀ {n : Nat} {t : TypeId} {ks : List SK} {fuel : Nat} {cs : List Value} {x : DataW H × List MemPlace}, leafK P n t = some ks → DataW.trod enc P w base spare held fuel t cs = some x → cellsOK ks cs
  | 0, t, ks, fuel, cs, x, h, _ => by simp [leafK] at h
  | n + 1, t, ks, fuel, cs, x, h, hd => by
    simp only [leafK] at h
    split at h
    · rename_i ht
      cases h
      obtain ⟨b, rfl, _⟩ := DataW.trod_bool ht hd
      exact ⟨⟨_, rfl⟩, trivial⟩
    · rename_i k ht
      cases h
      obtain ⟨b, rfl, _, hw⟩ := DataW.trod_int ht hd
      exact ⟨⟨_, rfl, hw⟩, trivial⟩
    · rename_i ht
      cases h
      obtain ⟨b, rfl, _, hw⟩ := DataW.trod_string ht hd
      exact ⟨⟨_, rfl, hw⟩, trivial⟩
    · rename_i fs ht
      split at h <;> try (cases h; done)
      rename_i ks' hks
      split at h <;> cases h
      rename_i hlen
      obtain ⟨xs, m, _, _, hcl, hxl, hf⟩ := DataW.trod_struct ht hd
      have := structK_ok (P := P) (cs := cs) (F := fun t cs => ∃ x, DataW.trod enc P w base spare held m t cs = some x) (fun t ks cs h1 ⟨x, h2⟩ => trod_flat h1 h2) hks (fun f hfm => by
        obtain ⟨i, hi⟩ := List.getElem?_of_mem hfm
        rw [Array.getElem?_toList] at hi
        have hlt : i < xs.length := by rw [hxl]; exact (Array.getElem?_eq_some_iff.1 hi).1
        exact ⟨xs[i], by rw [hf i f hi, List.getElem?_eq_getElem hlt]⟩)
      rw [List.drop_zero, List.take_of_length_le (by omega)] at this
      exact this
    · cases h
theorem open_flat {r : Reach} {b0 n : Nat} {t : TypeId} {ks : List SK} {v : Value} {d : DataW H} {ps : List MemPlace} (hk : leafK P n t = some ks) (hval : Value.okWide P w r b0 t v) (hd : DataW.Trod enc P w base spare held t v d ps) :
    cellsOK ks (cellsL v) ∧ ((isAggB P t = true ∧ v = .agg ⟨cellsL v⟩) ∨ isAggB P t = false) := by
  obtain ⟨fuel, hf⟩ := hd
  refine ⟨trod_flat hk hf, ?_⟩
  unfold Value.okWide at hval
  unfold isAggB
  split at hval
  · rename_i hu; rw [hu]
    obtain ⟨cs, rfl, _⟩ := hval
    exact .inl ⟨rfl, rfl⟩
  · rename_i hu; rw [hu]
    obtain ⟨cs, rfl, _⟩ := hval
    exact .inl ⟨rfl, rfl⟩
  · rename_i h1 h2
    right
    split
    · rename_i hu; exact absurd hu (h1 _)
    · rename_i hu; exact absurd hu (h2 _ _)
    · rfl
def RowR (w : World) (k : SK) (a : Option Addr) (len cap : Nat) (zs : List Value) : Prop :=
  (a = none ∧ len = 0 ∧ cap = 0 ∧ zs = []) ∨ ∃ x, a = some x ∧ len ≤ cap ∧ cap ≤ maxLen ∧ zs.length = cap ∧ ∀ (i : Nat) v, zs[i]? = some v → w.cell? (x.add i) = some v ∧ leafOK k v
theorem leafOK.flat {k : SK} {v : Value} (h : leafOK k v) : flatV v = true := by
  cases k with
  | bool => obtain ⟨b, rfl⟩ := h; rfl
  | int k => obtain ⟨b, rfl, _⟩ := h; rfl
  | str => obtain ⟨b, rfl, _⟩ := h; rfl
  | oth => exact h.elim
theorem ArgR.row {k : SK} {w : World} {a : Option Addr} {len cap : Nat} {zs : List Value} (h : RowR w k a len cap zs) : ArgR w (.sl 1) (.sl len (zs.take len)) (.slice a len cap) ∧ (zs.take len).length = len ∧ (∀ v ∈ zs.take len, leafOK k v) ∧ len ≤ maxLen := by
  rcases h with ⟨rfl, rfl, rfl, rfl⟩ | ⟨x, rfl, hl, hm, hz, hc⟩
  · exact ⟨.inl ⟨⟨_, rfl⟩, rfl, rfl⟩, rfl, fun v hv => by simp at hv, by simp [maxLen]⟩
  · have hleaf : ∀ v ∈ zs.take len, leafOK k v := fun v hv => by
      obtain ⟨i, hi⟩ := List.getElem?_of_mem (List.mem_of_mem_take hv)
      exact (hc i v hi).2
    refine ⟨?_, by simp; omega, hleaf, by omega⟩
    rcases Nat.eq_zero_or_pos cap with h0 | h0
    · subst h0
      obtain rfl : len = 0 := by omega
      exact .inl ⟨⟨_, rfl⟩, rfl, by simp⟩
    · have hs : x.spot = none := by
        have := (hc 0 zs[0] (List.getElem?_eq_getElem (by omega))).1
        cases hx : x.spot with
        | none => rfl
        | some q =>
          simp only [Addr.add, ↓reduceIte, World.cell?] at this
          split at this
          · simp [hx] at this
          · cases this
      obtain ⟨b, o, q⟩ := x
      simp only at hs
      subst hs
      have hadd : ∀ i, (⟨b, o, none⟩ : Addr).add i = ⟨b, o + i, none⟩ := fun i => by
        unfold Addr.add; split
        · rename_i e; subst e; rfl
        · rfl
      refine .inr ⟨b, o, cap, rfl, hl, fun ρ => ⟨by simp; omega, fun i v e => ?_, fun i hi => ?_⟩⟩
      · have hi : i < len := by
          rcases Nat.lt_or_ge i len with h | h
          · exact h
          · rw [List.getElem?_eq_none (by simp; omega)] at e; cases e
        rw [List.getElem?_take_of_lt hi] at e
        obtain ⟨h1, h2⟩ := hc i v e
        rw [hadd] at h1
        exact ⟨v, h1, VR.flat ρ v h2.flat⟩
      · have hi' : i < zs.length := by simp at hi; omega
        obtain ⟨h1, _⟩ := hc i zs[i] (List.getElem?_eq_getElem hi')
        rw [hadd] at h1
        exact ⟨by simp [h1], fun e => by cases e⟩
end
end Go.Vm
namespace Go.Vm
open Go Go.RowKit
abbrev wI (k : IntKind) (n : Int) : Int := IntKind.wrap k n
abbrev andI (k : IntKind) (a b : Int) : Int := IntKind.wrap k (BitVec.ofInt k.bits a &&& BitVec.ofInt k.bits b).toNat
abbrev iorI (k : IntKind) (a b : Int) : Int := IntKind.wrap k (BitVec.ofInt k.bits a ||| BitVec.ofInt k.bits b).toNat
abbrev ixorI (k : IntKind) (a b : Int) : Int := IntKind.wrap k (BitVec.ofInt k.bits a ^^^ BitVec.ofInt k.bits b).toNat
def oreq {α : Type} (b : Bool) (x : Option α) : Option α := match b with | true => x | false => none
theorem oreq.elim {α : Type} {b : Bool} {x : Option α} {r : α} (h : oreq b x = some r) : b = true ∧ x = some r := by cases b; cases h; exact ⟨rfl, h⟩
theorem oreq.mk {α : Type} {b : Bool} {x : Option α} (h : b = true) : oreq b x = x := by subst h; rfl
theorem obind.elim {α β : Type} {x : Option α} {F : α → Option β} {r : β} (h : x.bind F = some r) : ∃ a, x = some a ∧ F a = some r := by cases x with | none => cases h | some a => exact ⟨a, rfl, h⟩
def FUEL : Nat := 2 ^ 64
def iter {σ ρ : Type} (f : σ → Option (Sum σ ρ)) : Nat → σ → Option ρ
  | 0, _ => none
  | n + 1, s => match f s with
    | none => none
    | some (.inl s') => iter f n s'
    | some (.inr r) => some r
theorem iter_leads {σ ρ : Type} {P : Program} {f base : Nat} {R : Value → Hp → Nat → Prop} {step : σ → Option (Sum σ ρ)} {head : σ → VM} {C : ρ → Prop}
    (h : ∀ s o, step s = some o → Sum.elim (fun s' => Leads P f base (head s') R) C o → Leads P f base (head s) R) :
    ∀ n s r, iter step n s = some r → C r → Leads P f base (head s) R
  | 0, _, _, e, _ => by cases e
  | n + 1, s, r, e, hc => by
    rw [iter] at e
    split at e
    · cases e
    · rename_i s' hs
      exact h s _ hs (iter_leads h n s' r e hc)
    · rename_i r' hs
      cases e
      exact h s _ hs hc
def vI (k : IntKind) (xs : List Int) : List Value := xs.map (Value.int k)
def vB (xs : List Bool) : List Value := xs.map Value.bool
def vS (xs : List (List UInt8)) : List Value := xs.map fun s => Value.string ⟨⟨s⟩⟩
def bI (l : List UInt8) : List Int := l.map fun b => (b.toNat : Int)
def iB (xs : List Int) : List UInt8 := xs.map fun n => UInt8.ofNat n.toNat
@[simp] theorem vI_len (k : IntKind) (xs : List Int) : (vI k xs).length = xs.length := List.length_map _
@[simp] theorem vB_len (xs : List Bool) : (vB xs).length = xs.length := List.length_map _
@[simp] theorem vS_len (xs : List (List UInt8)) : (vS xs).length = xs.length := List.length_map _
@[simp] theorem bI_len (l : List UInt8) : (bI l).length = l.length := List.length_map _
@[simp] theorem iB_len (l : List Int) : (iB l).length = l.length := List.length_map _
theorem vI_flat (k : IntKind) (xs : List Int) : flatV.flatL (vI k xs) = true := flatL_map (fun _ => rfl) xs
theorem vB_flat (xs : List Bool) : flatV.flatL (vB xs) = true := flatL_map (fun _ => rfl) xs
theorem vS_flat (xs : List (List UInt8)) : flatV.flatL (vS xs) = true := flatL_map (fun _ => rfl) xs
theorem vI_one (k : IntKind) : ∀ (xs : List Int), (vI k xs).all oneC = true
  | [] => rfl
  | _ :: xs => by simp only [vI, List.map_cons, List.all_cons, oneC, Bool.true_and]; exact vI_one k xs
theorem vB_one : ∀ (xs : List Bool), (vB xs).all oneC = true
  | [] => rfl
  | _ :: xs => by simp only [vB, List.map_cons, List.all_cons, oneC, Bool.true_and]; exact vB_one xs
theorem vS_one : ∀ (xs : List (List UInt8)), (vS xs).all oneC = true
  | [] => rfl
  | _ :: xs => by simp only [vS, List.map_cons, List.all_cons, oneC, Bool.true_and]; exact vS_one xs
theorem ofBytes_vI (l : List UInt8) : ofBytes l = vI .u8 (bI l) := by simp [ofBytes, vI, bI, List.map_map]
theorem toBytes_vI : ∀ (xs : List Int), toBytes (vI .u8 xs) = some (iB xs)
  | [] => rfl
  | x :: xs => by simp only [vI, List.map_cons, toBytes]; rw [show toBytes (xs.map (Value.int .u8)) = _ from toBytes_vI xs]; rfl
theorem vI_set (k : IntKind) (xs : List Int) (i : Nat) (x : Int) : (vI k xs).set i (.int k x) = vI k (xs.set i x) := by simp [vI, List.map_set]
theorem vI_drop (k : IntKind) (xs : List Int) (n : Nat) : (vI k xs).drop n = vI k (xs.drop n) := by simp [vI, List.map_drop]
theorem vI_take (k : IntKind) (xs : List Int) (n : Nat) : (vI k xs).take n = vI k (xs.take n) := by simp [vI, List.map_take]
theorem vS_drop (xs : List (List UInt8)) (n : Nat) : (vS xs).drop n = vS (xs.drop n) := by simp [vS, List.map_drop]
theorem vS_take (xs : List (List UInt8)) (n : Nat) : (vS xs).take n = vS (xs.take n) := by simp [vS, List.map_take]
theorem br.h {α : Type} {b b' : Bool} {X Y : Option α} {r : α} {p q : Prop} (h : cond b' X Y = some r) (e : b = b') (k1 : b' = true → X = some r → p) (k2 : b' = false → Y = some r → q) : br b p q := by
  subst e; cases b; exact k2 rfl h; exact k1 rfl h
theorem rd.I {k : IntKind} {xs : List Int} {o i : Nat} {x : Int} {K : Value → Prop} (hx : xs[i]? = some x) (e : o = i) (h : forceV (.int k x) K) : rd (vI k xs) o K := by
  subst e; exact rd.intro (v := .int k x) (by simp [vI, hx]) h
theorem rd.B {xs : List Bool} {o i : Nat} {x : Bool} {K : Value → Prop} (hx : xs[i]? = some x) (e : o = i) (h : forceV (.bool x) K) : rd (vB xs) o K := by
  subst e; exact rd.intro (v := .bool x) (by simp [vB, hx]) h
theorem rd.S {xs : List (List UInt8)} {o i : Nat} {x : List UInt8} {K : Value → Prop} (hx : xs[i]? = some x) (e : o = i) (h : forceV (.string ⟨⟨x⟩⟩) K) : rd (vS xs) o K := by
  subst e; exact rd.intro (v := .string ⟨⟨x⟩⟩) (by simp [vS, hx]) h
theorem req_stI {k : IntKind} {xs : List Int} {o i : Nat} {x : Int} (hb : decide (i < xs.length) = true) (e : o = i) : (decide ((cellsL (.int k x)).length = 1 ∧ o + 1 ≤ (vI k xs).length) && (cellsL (.int k x)).all oneC) = true := by
  subst e; have := of_decide_eq_true hb; simp [cellsL, Value.cells, oneC]; omega
theorem pk_stI {k : IntKind} {xs : List Int} {o i : Nat} {x : Int} {K : List Value → Prop} (e : o = i) (h : K (vI k (xs.set i x))) : ∃ cs', setAt (vI k xs) o (cellsL (.int k x)) = cs' ∧ K cs' :=
  ⟨_, by subst e; exact vI_set k xs o x, h⟩
theorem pk_mkI {k : IntKind} {n : Nat} {z : Int} {K : List Value → Prop} (h : K (vI k (List.replicate n z))) : ∃ cs', (List.replicate n [Value.int k z]).flatten = cs' ∧ K cs' :=
  ⟨_, by simp [vI, List.flatten_replicate_singleton], h⟩
theorem pk_s2b {l : List UInt8} {K : List Value → Prop} (h : K (vI .u8 (bI l))) : ∃ cs', ofBytes l = cs' ∧ K cs' := ⟨_, ofBytes_vI l, h⟩
theorem pk_b2s {xs : List Int} {o n : Nat} {K : List UInt8 → Prop} (h : K (iB ((xs.drop o).take n))) : ∃ bs, toBytes (((vI .u8 xs).drop o).take n) = some bs ∧ K bs :=
  ⟨_, by rw [vI_drop, vI_take]; exact toBytes_vI _, h⟩
theorem pk_b2sL {l : List Value} {bs : List UInt8} {K : List UInt8 → Prop} (e : toBytes l = some bs) (h : K bs) : ∃ bs, toBytes l = some bs ∧ K bs := ⟨_, e, h⟩
def vT {α : Type} (f : α → List Value) (xs : List α) : List Value := xs.flatMap f
section
variable {α : Type} {f : α → List Value} {c : Nat}
theorem vT_len (hf : ∀ x, (f x).length = c) (xs : List α) : (vT f xs).length = xs.length * c := by
  induction xs with
  | nil => simp [vT]
  | cons x xs ih =>
    have : vT f (x :: xs) = f x ++ vT f xs := rfl
    rw [this, List.length_append, hf, ih, List.length_cons, Nat.succ_mul]; omega
theorem vT_flat (hf : ∀ x, flatV.flatL (f x) = true) (xs : List α) : flatV.flatL (vT f xs) = true := by
  have app : ∀ a b : List Value, flatV.flatL a = true → flatV.flatL b = true → flatV.flatL (a ++ b) = true := by
    intro a b ha hb
    induction a with
    | nil => exact hb
    | cons v a ih => simp only [flatV.flatL, Bool.and_eq_true, List.cons_append] at ha ⊢; exact ⟨ha.1, ih ha.2⟩
  induction xs with
  | nil => rfl
  | cons x xs ih => exact app _ _ (hf x) ih
theorem vT_one (hf : ∀ x, (f x).all oneC = true) (xs : List α) : (vT f xs).all oneC = true := by
  induction xs with
  | nil => rfl
  | cons x xs ih => have : vT f (x :: xs) = f x ++ vT f xs := rfl; rw [this, List.all_append, hf, ih]; rfl
theorem vT_app (xs ys : List α) : vT f xs ++ vT f ys = vT f (xs ++ ys) := by simp [vT]
theorem vT_drop (hf : ∀ x, (f x).length = c) (xs : List α) (n : Nat) : (vT f xs).drop (n * c) = vT f (xs.drop n) := by
  induction xs generalizing n with
  | nil => simp [vT]
  | cons x xs ih =>
    cases n with
    | zero => simp
    | succ n =>
      have : vT f (x :: xs) = f x ++ vT f xs := rfl
      rw [this, List.drop_succ_cons, Nat.succ_mul, Nat.add_comm, List.drop_append, hf, List.drop_eq_nil_of_le (by rw [hf]; omega), List.nil_append, show c + n * c - c = n * c by omega, ih]
theorem vT_take (hf : ∀ x, (f x).length = c) (xs : List α) (n : Nat) : (vT f xs).take (n * c) = vT f (xs.take n) := by
  induction xs generalizing n with
  | nil => simp [vT]
  | cons x xs ih =>
    cases n with
    | zero => simp [vT]
    | succ n =>
      have : vT f (x :: xs) = f x ++ vT f xs := rfl
      have h2 : vT f ((x :: xs).take (n + 1)) = f x ++ vT f (xs.take n) := rfl
      rw [this, h2, Nat.succ_mul, Nat.add_comm, List.take_append, hf, List.take_of_length_le (by rw [hf]; omega), show c + n * c - c = n * c by omega, ih]
theorem vT_get (hf : ∀ x, (f x).length = c) {xs : List α} {i j : Nat} {x : α} (hx : xs[i]? = some x) (hj : j < c) : (vT f xs)[i * c + j]? = (f x)[j]? := by
  induction xs generalizing i with
  | nil => simp at hx
  | cons y xs ih =>
    have : vT f (y :: xs) = f y ++ vT f xs := rfl
    rw [this]
    cases i with
    | zero =>
      simp at hx; subst hx
      rw [Nat.zero_mul, Nat.zero_add, List.getElem?_append_left (by rw [hf]; exact hj)]
    | succ i =>
      rw [List.getElem?_append_right (by rw [hf, Nat.succ_mul]; omega), hf, show (i + 1) * c + j - c = i * c + j by rw [Nat.succ_mul]; omega]
      exact ih (by simpa using hx)
theorem rd.T (hf : ∀ x, (f x).length = c) {xs : List α} {o i j : Nat} {x : α} {v : Value} {K : Value → Prop} (hx : xs[i]? = some x) (e : o = i * c + j) (hj : j < c) (hv : (f x)[j]? = some v) (h : forceV v K) : rd (vT f xs) o K := by
  subst e; exact rd.intro (by rw [vT_get hf hx hj]; exact hv) h
theorem rdN_of {cs : List Value} : ∀ {l : List Value} {o : Nat} {K : List Value → Prop}, (∀ (j : Nat) v, l[j]? = some v → cs[o + j]? = some v) → K l → rdN cs o l.length K
  | [], o, K, _, h => h
  | v :: l, o, K, hc, h => by
    rw [List.length_cons, rdN]
    refine rd.intro (by simpa using hc 0 v rfl) ?_
    rw [forceV_eq]
    exact rdN_of (l := l) (fun j u hj => by rw [show o + 1 + j = o + (j + 1) by omega]; exact hc (j + 1) u (by simpa using hj)) h
theorem ld_T (hf : ∀ x, (f x).length = c) {xs : List α} {o i n : Nat} {x : α} {K : List Value → Prop} (hx : xs[i]? = some x) (e : o = i * c) (hn : n = c) (h : forceL (f x) K) : req (decide (o + n ≤ (vT f xs).length)) (rdN (vT f xs) o n K) := by
  subst e hn
  have hlt : i < xs.length := (List.getElem?_eq_some_iff.1 hx).1
  refine req.intro ?_ ?_
  · rw [vT_len hf, decide_eq_true_eq]
    have := Nat.mul_le_mul_right n (show i + 1 ≤ xs.length by omega)
    rw [Nat.succ_mul] at this; exact this
  · rw [forceL_eq] at h
    have := rdN_of (cs := vT f xs) (l := f x) (o := i * n) (K := K) (fun j v hj => by
      have hj' : j < n := by rw [← hf x]; exact (List.getElem?_eq_some_iff.1 hj).1
      rw [vT_get hf hx hj']; exact hj) h
    rwa [hf] at this
theorem pk_apT (hf : ∀ x, (f x).length = c) {new : List Value} {xs : List α} {o k n m : Nat} {ys : List α} {K : List Value → Nat → Prop} (e : new = vT f ys) (h0 : o = 0) (hc : k = xs.length * c) (hn : n + m = (xs ++ ys).length) (h : K (vT f (xs ++ ys)) (xs ++ ys).length) :
    ∃ cs' n', ((vT f xs).drop o).take k ++ new = cs' ∧ n + m = n' ∧ K cs' n' :=
  ⟨_, _, by subst h0; rw [List.drop_zero, List.take_of_length_le (by rw [vT_len hf, hc]; omega), e, vT_app], hn, h⟩
def unT (sz : Nat) (un : List Value → Option α) : Nat → List Value → Option (List α)
  | 0, [] => some []
  | 0, _ :: _ => none
  | _ + 1, [] => some []
  | n + 1, v :: cs => match un ((v :: cs).take sz) with
    | some x => match unT sz un n ((v :: cs).drop sz) with
      | some xs => some (x :: xs)
      | none => none
    | none => none
theorem unT_vT {un : List Value → Option α} (hf : ∀ x, (f x).length = c) (h0 : 0 < c) (hu : ∀ x, un (f x) = some x) : ∀ (xs : List α) (n : Nat), xs.length ≤ n → unT c un n (vT f xs) = some xs
  | [], 0, _ => rfl
  | [], n + 1, _ => rfl
  | x :: xs, 0, h => by simp at h
  | x :: xs, n + 1, h => by
    have e : vT f (x :: xs) = f x ++ vT f xs := rfl
    obtain ⟨v, l, hv⟩ : ∃ v l, vT f (x :: xs) = v :: l := by
      cases hx : f x with
      | nil => have := hf x; rw [hx] at this; simp at this; omega
      | cons v l => exact ⟨v, l ++ vT f xs, by rw [e, hx]; rfl⟩
    rw [hv, unT, ← hv, e, List.take_append_of_le_length (by rw [hf]; exact Nat.le_refl _), List.take_of_length_le (by rw [hf]; exact Nat.le_refl _), hu, List.drop_append, hf, List.drop_eq_nil_of_le (by rw [hf]; exact Nat.le_refl _), Nat.sub_self, List.drop_zero, List.nil_append, unT_vT hf h0 hu xs n (by simpa using h)]
theorem unT_eq {un : List Value → Option α} (hu : ∀ cs x, un cs = some x → cs = f x) : ∀ {n : Nat} {cs : List Value} {xs : List α}, unT c un n cs = some xs → cs = vT f xs
  | 0, [], xs, h => by simp only [unT, Option.some.injEq] at h; subst h; rfl
  | 0, _ :: _, xs, h => by simp [unT] at h
  | n + 1, [], xs, h => by simp only [unT, Option.some.injEq] at h; subst h; rfl
  | n + 1, v :: cs, xs, h => by
    simp only [unT] at h
    split at h <;> try (cases h; done)
    rename_i x hx
    split at h <;> cases h
    rename_i ys hys
    have e1 := hu _ _ hx
    have e2 := unT_eq hu hys
    have : vT f (x :: ys) = f x ++ vT f ys := rfl
    rw [this, ← e1, ← e2, List.take_append_drop]
def unR (sz : Nat) (un : List Value → Option α) (cs : List Value) : Option (List α) := unT sz un cs.length cs
theorem unR_vT {un : List Value → Option α} (hf : ∀ x, (f x).length = c) (h0 : 0 < c) (hu : ∀ x, un (f x) = some x) (xs : List α) : unR c un (vT f xs) = some xs :=
  unT_vT hf h0 hu xs _ (by rw [vT_len hf]; exact Nat.le_mul_of_pos_right _ h0)
end
theorem sumRun_of {s : Summ} {vals aqs : List Value} {os : List (Option VObj)} {h h1 h2 : Hp} {top n m t' : Nat} {ws : List Wd} {r : SRes} {v' : Value} (e1 : readArgs h 0 s.modes vals = some (aqs, os)) (ew : winL h s.modes vals = ws) {cw : List (Option (List Value))} (ec : conts os = cw) (e2 : s.run aqs cw = some r) (e3 : apartB ws = true)
    (hn : r.new.length = n) (hm : emps ws = m) (ht : top + n + m = t') (e4 : wback h (numR top n ws) ws r.wr = some h1) (e5 : addNew h1 (numR top n ws) top r.new = some h2) (e6 : renV (numR top n ws) r.v = some v') : sumRun s vals h top = some (v', addEmp h2 (top + n) m, t') := by
  subst hn hm ht ec
  simp only [sumRun, e1, e2, ew, e3, e4, e5, e6]
theorem ra_nil {h : Hp} {k : Nat} : readArgs h k [] [] = some ([], []) := rfl
theorem ra_cons {h : Hp} {k k' : Nat} {m : Md} {ms : List Md} {v a : Value} {vs aqs : List Value} {os os' : List (Option VObj)} (e : readArg h k m v = some (a, os)) (hk : k + os.length = k') (t : readArgs h k' ms vs = some (aqs, os')) : readArgs h k (m :: ms) (v :: vs) = some (a :: aqs, os ++ os') := by
  subst hk
  simp only [readArgs, e, t]
theorem ra_sl {h : Hp} {k b o n m sz sz' : Nat} {ob : VObj} {cs cs' : List Value} (ho : aget h b = some ob) (hc : ob.cs = some cs) (hs : sz = sz') (en : n = m) (hle : o + n * sz ≤ cs.length) (e : (cs.drop o).take (n * sz) = cs') (hf : flatV.flatL cs' = true) :
    readArg h k (.sl sz) (.slice (some ⟨b, o, none⟩) n sz') = some (.slice (some ⟨k, 0, none⟩) m sz, [some (.row false cs')]) := by
  subst hs en e
  simp only [readArg, ho, hc, hle, hf, ↓reduceIte]
theorem ra_slT {α : Type} {f : α → List Value} {c : Nat} (hf : ∀ x, (f x).length = c) (hfl : ∀ x, flatV.flatL (f x) = true) {h : Hp} {b o n i m sz kk : Nat} {own : Bool} {xs : List α} (ho : aget h b = some (.row own (vT f xs))) (hs : sz = c) (e0 : o = i * c) (en : n = m) (hle : i + m ≤ xs.length) : readArg h kk (.sl c) (.slice (some ⟨b, o, none⟩) n sz) = some (.slice (some ⟨kk, 0, none⟩) m c, [some (.row false (vT f ((xs.drop i).take m)))]) := by
  subst hs e0 en
  refine ra_sl ho rfl rfl rfl ?_ (by rw [vT_drop hf, vT_take hf]) (vT_flat hfl _)
  rw [vT_len hf, ← Nat.add_mul]; exact Nat.mul_le_mul_right _ hle
theorem ra_allT {α : Type} {f : α → List Value} {c : Nat} (hf : ∀ x, (f x).length = c) (hfl : ∀ x, flatV.flatL (f x) = true) {h : Hp} {b o n sz kk : Nat} {own : Bool} {xs : List α} (ho : aget h b = some (.row own (vT f xs))) (hs : sz = c) (e0 : o = 0) (en : n = xs.length) : readArg h kk (.sl c) (.slice (some ⟨b, o, none⟩) n sz) = some (.slice (some ⟨kk, 0, none⟩) xs.length c, [some (.row false (vT f xs))]) := by
  have := ra_slT hf hfl (kk := kk) (i := 0) (m := xs.length) ho hs (by simpa using e0) en (by omega)
  simpa using this
theorem ra_tr {h : Hp} {k : Nat} {ps : List Path} {bs : List PR} {v v' w : Value} {l : List (Option VObj)} (e0 : walkP h v ps [] = bs) (e1 : renV (numB k bs) v = some v') (e2 : viewP h (numB k bs) (fun s => patsP k s ps bs) 0 ps bs = some l) (e3 : patchV v' (patsP k none ps bs) = w) : readArg h k (.tr ps) v = some (w, l) := by
  subst e0 e3
  simp only [readArg, e1, e2]
theorem vp_nil {h : Hp} {s : Nat → Option Nat} {pat : Option Nat → List (Nat × Value)} {i : Nat} : viewP h s pat i [] [] = some [] := rfl
theorem vp_emp {h : Hp} {s : Nat → Option Nat} {pat : Option Nat → List (Nat × Value)} {i z : Nat} {p : Path} {ps : List Path} {bs : List PR} {l : List (Option VObj)} (t : viewP h s pat (i + 1) ps bs = some l) : viewP h s pat i (p :: ps) (.nil z :: bs) = some (some (mkObj p.kind []) :: l) := by
  simp only [viewP, t]
theorem vp_at {h : Hp} {s : Nat → Option Nat} {pat : Option Nat → List (Nat × Value)} {i b : Nat} {p : Path} {ps : List Path} {bs : List PR} {l : List (Option VObj)} {ob : VObj} {cs cs' cs'' : List Value} (e1 : aget h b = some ob) (e2 : (cond (isW p.kind) ob.wcs ob.cs) = some cs) (e3 : renV.renL s cs = some cs') (e4 : setsL cs' (pat (some i)) = cs'')
    (t : viewP h s pat (i + 1) ps bs = some l) : viewP h s pat i (p :: ps) (.hit b :: bs) = some (some (mkObj p.kind cs'') :: l) := by
  subst e4
  simp only [viewP, e1, e2, e3, t]
def skipW : Wd → Bool
  | .no | .emp _ | .win _ _ _ false | .blk _ false => true
  | _ => false
theorem wb_nil {h : Hp} {s : Nat → Option Nat} : wback h s [] [] = some h := rfl
theorem wb_skip {h h' : Hp} {s : Nat → Option Nat} {x : Wd} {ws : List Wd} {c : Option (List Value)} {cs : List (Option (List Value))} (hx : skipW x = true) (t : wback h s ws cs = some h') : wback h s (x :: ws) (c :: cs) = some h' := by
  cases x with
  | win b o n w => cases w <;> first | (simp only [wback]; exact t) | cases hx
  | blk b w => cases w <;> first | (simp only [wback]; exact t) | cases hx
  | _ => simp only [wback]; exact t
theorem wb_win {h h' : Hp} {s : Nat → Option Nat} {b off n : Nat} {ws : List Wd} {c c' x y : List Value} {cs : List (Option (List Value))} {ob ob' : VObj} (e1 : aget h b = some ob) (e2 : ob.wcs = some x) (e3 : renV.renL s c = some c') (e4 : c'.length = n ∧ off + n ≤ x.length) (e5 : setAt x off c' = y) (e6 : ob.wr y = some ob') (t : wback (aput h b ob') s ws cs = some h') :
    wback h s (.win b off n true :: ws) (some c :: cs) = some h' := by
  subst e5
  simp only [wback, e1, e2, e3, e6, if_pos e4]; exact t
theorem an_nil {h : Hp} {s : Nat → Option Nat} {top : Nat} : addNew h s top [] = some h := rfl
theorem an_cons {h h' : Hp} {s : Nat → Option Nat} {top : Nat} {c c' : List Value} {cs : List (List Value)} (e : renV.renL s c = some c') (t : addNew (aput h top (.row true c')) s (top + 1) cs = some h') : addNew h s top (c :: cs) = some h' := by
  simp only [addNew, e]; exact t
theorem rn_T {s : Nat → Option Nat} {α : Type} {f : α → List Value} (hfl : ∀ x, flatV.flatL (f x) = true) {xs : List α} : renV.renL s (vT f xs) = some (vT f xs) := renL_flat _ _ (vT_flat hfl _)
def jsOK (n : Nat) (wr : List (Option (List Value))) : List Nat → Prop
  | [] => True
  | j :: js => (n ≤ j ∨ wr[j]? = some none) ∧ jsOK n wr js
theorem jsOK_mem {n : Nat} {wr : List (Option (List Value))} : ∀ {js : List Nat}, jsOK n wr js → ∀ j ∈ js, n ≤ j ∨ wr[j]? = some none
  | [], _, j, h => by cases h
  | k :: js, h, j, hj => by
    rcases List.mem_cons.1 hj with rfl | hj
    · exact h.1
    · exact jsOK_mem h.2 j hj
theorem Res.of {n : Nat} {r : SRes} {v' : Value} {H' : Hp} (js : List Nat) (e1 : renV (resR js n) r.v = some v') (e2 : newOK H' (resR js n) js r.new) (e3 : js.Nodup) (e4 : jsOK n r.wr js) (e5 : wrOK H' (resR js n) 0 r.wr) : Res n r v' H' :=
  ⟨⟨js, e1, e2, e3, jsOK_mem e4, e5⟩⟩
theorem hs_row {H : Hp} {j : Nat} {c : List Value} (h : aget H j = some (.row true c)) : Has H j c := .inl h
theorem hs_cells {H : Hp} {j : Nat} {c : List Value} (h : aget H j = some (.cells c)) : Has H j c := .inr (.inl h)
abbrev Dec := List Value → List (Option (List Value)) → Option SRes
def dV {α : Type} (un : Value → Option α) (K : α → Dec) : Dec := fun vs cs => match vs with
  | v :: vs' => match un v with
    | some x => K x vs' cs
    | none => none
  | [] => none
theorem dV_eq {α : Type} {un : Value → Option α} {K : α → Dec} {v : Value} {vs : List Value} {cs : List (Option (List Value))} {x : α} (h : un v = some x) : dV un K (v :: vs) cs = K x vs cs := by simp only [dV, h]
theorem dV.elim {α : Type} {un : Value → Option α} {K : α → Dec} {vs : List Value} {cs : List (Option (List Value))} {r : SRes} (h : dV un K vs cs = some r) : ∃ v vs' x, vs = v :: vs' ∧ un v = some x ∧ K x vs' cs = some r := by
  unfold dV at h
  split at h <;> try (cases h; done)
  split at h <;> try (cases h; done)
  exact ⟨_, _, _, rfl, by assumption, h⟩
def dSl {α : Type} (k sz : Nat) (un : List Value → Option (List α)) (K : List α → Dec) : Dec := fun vs cs => match vs, cs with
  | .slice (some ⟨k', 0, none⟩) n sz' :: vs', some c :: cs' => match un c with
    | some xs => if k' = k ∧ sz' = sz ∧ n = xs.length then K xs vs' cs' else none
    | none => none
  | _, _ => none
theorem dSl_eq {α : Type} {k sz : Nat} {un : List Value → Option (List α)} {K : List α → Dec} {vs : List Value} {c : List Value} {cs : List (Option (List Value))} {xs : List α} (h : un c = some xs) : dSl k sz un K (.slice (some ⟨k, 0, none⟩) xs.length sz :: vs) (some c :: cs) = K xs vs cs := by simp [dSl, h]
theorem dSl.elim {α : Type} {k sz : Nat} {un : List Value → Option (List α)} {K : List α → Dec} {vs : List Value} {cs : List (Option (List Value))} {r : SRes} (h : dSl k sz un K vs cs = some r) : ∃ c vs' cs' xs, vs = .slice (some ⟨k, 0, none⟩) xs.length sz :: vs' ∧ cs = some c :: cs' ∧ un c = some xs ∧ K xs vs' cs' = some r := by
  unfold dSl at h
  split at h <;> try (cases h; done)
  split at h <;> try (cases h; done)
  split at h <;> try (cases h; done)
  rename_i hc
  obtain ⟨rfl, rfl, rfl⟩ := hc
  exact ⟨_, _, _, _, rfl, rfl, by assumption, h⟩
def dTr {α : Type} (n : Nat) (un : Value → List (Option (List Value)) → Option α) (K : α → Dec) : Dec := fun vs cs => match vs with
  | v :: vs' => match un v (cs.take n) with
    | some x => K x vs' (cs.drop n)
    | none => none
  | [] => none
theorem dTr_eq {α : Type} {n : Nat} {un : Value → List (Option (List Value)) → Option α} {K : α → Dec} {v : Value} {vs : List Value} {cs cs1 cs2 : List (Option (List Value))} {x : α} (h1 : cs.take n = cs1) (h2 : cs.drop n = cs2) (h : un v cs1 = some x) : dTr n un K (v :: vs) cs = K x vs cs2 := by
  subst h1 h2; simp only [dTr, h]
theorem dTr.elim {α : Type} {n : Nat} {un : Value → List (Option (List Value)) → Option α} {K : α → Dec} {vs : List Value} {cs : List (Option (List Value))} {r : SRes} (h : dTr n un K vs cs = some r) : ∃ v vs' cs1 cs2 x, vs = v :: vs' ∧ cs = cs1 ++ cs2 ∧ un v cs1 = some x ∧ K x vs' cs2 = some r := by
  unfold dTr at h
  split at h <;> try (cases h; done)
  split at h <;> try (cases h; done)
  exact ⟨_, _, _, _, _, rfl, (List.take_append_drop n cs).symm, by assumption, h⟩
def dPt {α : Type} (k : Nat) (un : List Value → Option α) (K : α → Dec) : Dec := fun vs cs => match vs, cs with
  | .pointer (some ⟨k', 0, none⟩) :: vs', some c :: cs' => match un c with
    | some x => if k' = k then K x vs' cs' else none
    | none => none
  | _, _ => none
theorem dPt_eq {α : Type} {k : Nat} {un : List Value → Option α} {K : α → Dec} {vs : List Value} {c : List Value} {cs : List (Option (List Value))} {x : α} (h : un c = some x) : dPt k un K (.pointer (some ⟨k, 0, none⟩) :: vs) (some c :: cs) = K x vs cs := by simp [dPt, h]
theorem dPt.elim {α : Type} {k : Nat} {un : List Value → Option α} {K : α → Dec} {vs : List Value} {cs : List (Option (List Value))} {r : SRes} (h : dPt k un K vs cs = some r) : ∃ c vs' cs' x, vs = .pointer (some ⟨k, 0, none⟩) :: vs' ∧ cs = some c :: cs' ∧ un c = some x ∧ K x vs' cs' = some r := by
  unfold dPt at h
  split at h <;> try (cases h; done)
  split at h <;> try (cases h; done)
  split at h <;> try (cases h; done)
  rename_i hc
  subst hc
  exact ⟨_, _, _, _, rfl, rfl, by assumption, h⟩
def dNo : Nat → Dec → Dec
  | 0, K => K
  | n + 1, K => fun vs cs => match cs with
    | none :: cs' => dNo n K vs cs'
    | _ => none
theorem dNo.elim {K : Dec} {vs : List Value} {r : SRes} : ∀ {n : Nat} {cs : List (Option (List Value))}, dNo n K vs cs = some r → ∃ cs', cs = List.replicate n none ++ cs' ∧ K vs cs' = some r
  | 0, cs, h => ⟨cs, rfl, h⟩
  | n + 1, cs, h => by
    simp only [dNo] at h
    split at h <;> try (cases h; done)
    obtain ⟨cs', rfl, h2⟩ := dNo.elim h
    exact ⟨cs', rfl, h2⟩
def dNl (n : Nat) (K : Dec) : Dec := fun vs cs => match vs with
  | .pointer none :: vs' => dNo n K vs' cs
  | _ => none
theorem dNl.elim {n : Nat} {K : Dec} {vs : List Value} {cs : List (Option (List Value))} {r : SRes} (h : dNl n K vs cs = some r) : ∃ vs' cs', vs = .pointer none :: vs' ∧ cs = List.replicate n none ++ cs' ∧ K vs' cs' = some r := by
  unfold dNl at h
  split at h <;> try (cases h; done)
  obtain ⟨cs', rfl, h2⟩ := dNo.elim h
  exact ⟨_, cs', rfl, rfl, h2⟩
def dEnd (r : Option SRes) : Dec := fun vs cs => match vs, cs with
  | [], [] => r
  | _, _ => none
theorem dEnd.elim {o : Option SRes} {vs : List Value} {cs : List (Option (List Value))} {r : SRes} (h : dEnd o vs cs = some r) : vs = [] ∧ cs = [] ∧ o = some r := by
  unfold dEnd at h
  split at h <;> try (cases h; done)
  exact ⟨rfl, rfl, h⟩
def orD (a b : Dec) : Dec := fun vs cs => match a vs cs with
  | some r => some r
  | none => b vs cs
theorem orD.elim {a b : Dec} {vs : List Value} {cs : List (Option (List Value))} {r : SRes} (h : orD a b vs cs = some r) : a vs cs = some r ∨ b vs cs = some r := by
  unfold orD at h
  split at h
  · cases h; left; assumption
  · exact .inr h
def ofG {α : Type} (o : Option α) (f : α → SRes) : Option SRes := match o with
  | some x => some (f x)
  | none => none
theorem ofG_eq {α : Type} {o : Option α} {f : α → SRes} {x : α} (h : o = some x) : ofG o f = some (f x) := by subst h; rfl
theorem ofG.elim {α : Type} {o : Option α} {f : α → SRes} {r : SRes} (h : ofG o f = some r) : ∃ x, o = some x ∧ f x = r := by
  cases o with
  | none => cases h
  | some x => exact ⟨x, rfl, by cases h; rfl⟩
def asS : Value → Option (List UInt8) | .string s => some s.data.toList | _ => none
theorem asS_eq (v : Value) (x : List UInt8) (h : asS v = some x) : v = .string ⟨⟨x⟩⟩ := by cases v <;> simp [asS] at h; subst h; rfl
end Go.Vm
namespace Go.Vm
open Go Go.RowKit
def opsD (c : VC) (n : Nat) : List VOper := match c with | .reg ops => ops.drop n | .regD _ _ post => post.drop n | _ => []
end Go.Vm
namespace Go.Vm
open Go Go.RowKit
theorem st_I {k : IntKind} {xs : List Int} {o i : Nat} {x : Int} {K : List Value → Prop} (hb : decide (i < xs.length) = true) (e : o = i) (h : K (vI k (xs.set i x))) :
    req (decide ((cellsL (.int k x)).length = 1 ∧ o + 1 ≤ (vI k xs).length) && (cellsL (.int k x)).all oneC) (∃ cs', setAt (vI k xs) o (cellsL (.int k x)) = cs' ∧ K cs') := req.intro (req_stI hb e) (pk_stI e h)
end Go.Vm
namespace Go.Vm
theorem br.h2 {α : Type} {b b' : Bool} {X Y : Option α} {r : α} {p q : Prop} (h : cond b' X Y = some r) (e : b = b') (k2 : b' = false → Y = some r → q) (k1 : b' = true → X = some r → p) : br b p q := br.h h e k1 k2
end Go.Vm
namespace Go.Vm
open Go Go.RowKit
theorem VR.ofNil {ρ : Ren} {s : Nat} {rv : Value} (h : VR ρ (.slice none 0 s) rv) (j sz : Nat) : VR ρ (.slice (some ⟨j, 0, none⟩) 0 sz) rv := by
  cases h; exact .slice0 none
theorem Leads.nilC {P : Program} {f base s : Nat} {fr : VFrame} {up : List VFrame} {H : Hp} {top : Nat} {R : Value → Hp → Nat → Prop} (b i sz : Nat) {cs : List Value}
    (h : Leads P f base ⟨fr, up, aput (aput H b (.cells (cs.set i (.slice (some ⟨top, 0, none⟩) 0 sz)))) top (.row true []), top + 1⟩ R) (hb : aget H b = some (.cells cs) := by rfl) (hi : cs[i]? = some (.slice none 0 s) := by rfl) :
    Leads P f base ⟨fr, up, H, top⟩ R := by
  refine ⟨fun w0 U ρ rf rfs w cs' hr => ?_⟩
  have hx := Ext.upd (l := ⟨0, 0, 0⟩) hr.heap.off0
  have hp : HpR P w0 (.of U) ρ (aput H b (.cells (cs.set i (.slice (some ⟨top, 0, none⟩) 0 sz)))) top w :=
    { hr.heap with
      obj := fun j o ho => by
        rw [aget_aput] at ho
        split at ho
        · rename_i hj; subst hj; cases ho
          obtain ⟨l, hl, hc, hw⟩ := hr.heap.obj b _ hb
          refine ⟨l, hl, ?_, fun _ => hw rfl⟩
          obtain ⟨g1, g2, g3⟩ := (hc : CellsR ρ w l true cs)
          refine ⟨by simpa using g1, fun k v hv => ?_, g3⟩
          rw [List.getElem?_set] at hv
          split at hv
          · rename_i hk; subst hk
            split at hv
            · cases hv
              obtain ⟨v', a, b'⟩ := g2 i _ hi
              exact ⟨v', a, VR.ofNil b' _ _⟩
            · cases hv
          · exact g2 k v hv
        · exact hr.heap.obj j o ho
      dis := fun j k oj ok lj lk hjk hj hk hlj hlk hw => by
        have key : ∀ j o, aget (aput H b (.cells (cs.set i (.slice (some ⟨top, 0, none⟩) 0 sz)))) j = some o → ∃ o', aget H j = some o' ∧ (writable o = true → writable o' = true) := fun j o ho => by
          rw [aget_aput] at ho
          split at ho
          · rename_i hj; subst hj; exact ⟨_, hb, fun _ => rfl⟩
          · exact ⟨o, ho, id⟩
        obtain ⟨oj', a1, a2⟩ := key j oj hj
        obtain ⟨ok', b1, _⟩ := key k ok hk
        exact hr.heap.dis j k oj' ok' lj lk hjk a1 b1 hlj hlk (a2 hw) }
  obtain ⟨ρ', rv, fr', w', v, H', top', h1, h2, h3, h4, h5, h6, h7⟩ := h.get w0 U _ rf rfs w cs' ⟨hr.cur.mono hx, hr.up.mono (fun _ _ x => x.mono hx), empty_row hp⟩
  exact ⟨ρ', rv, fr', w', v, H', top', h1, h2, h3, h4, h5, fun i l hi hl => h6 i l hi (hx _ _ hl), h7⟩
mutual
inductive Nv (j : Nat) : Value → Value → Prop
  | same (v) : Nv j v v
  | nil (s sz) : Nv j (.slice none 0 s) (.slice (some ⟨j, 0, none⟩) 0 sz)
  | tup {a b : List Value} (h : NvL j a b) : Nv j (.tuple ⟨a⟩) (.tuple ⟨b⟩)
  | agg {a b : List Value} (h : NvL j a b) : Nv j (.agg ⟨a⟩) (.agg ⟨b⟩)
inductive NvL (j : Nat) : List Value → List Value → Prop
  | nil : NvL j [] []
  | cons {v v' : Value} {l l' : List Value} (h : Nv j v v') (t : NvL j l l') : NvL j (v :: l) (v' :: l')
end
mutual
theorem Nv.vr {j : Nat} {ρ : Ren} : ∀ {v v' : Value}, Nv j v v' → ∀ {rv : Value}, VR ρ v rv → VR ρ v' rv
  | _, _, .same v, _, h => h
  | _, _, .nil s sz, _, h => VR.ofNil h _ _
  | _, _, .tup hl, _, h => by cases h with | tuple ht => exact .tuple (NvL.vr hl ht)
  | _, _, .agg hl, _, h => by cases h with | agg ht => exact .agg (NvL.vr hl ht)
theorem NvL.vr {j : Nat} {ρ : Ren} : ∀ {l l' : List Value}, NvL j l l' → ∀ {rl : List Value}, VRL ρ l rl → VRL ρ l' rl
  | _, _, .nil, _, h => h
  | _, _, .cons hv ht, _, h => by cases h with | cons a b => exact .cons (Nv.vr hv a) (NvL.vr ht b)
end
end Go.Vm
namespace Go.Vm
theorem ap_req {A B C D : Prop} [Decidable (A ∧ B ∧ C ∧ D)] {p q : Bool} (a : A) (b : B) (c : C) (d : D) (e : p = true) (g : q = true) : (decide (A ∧ B ∧ C ∧ D) && p && q) = true := by
  rw [decide_eq_true ⟨a, b, c, d⟩, e, g]; rfl
end Go.Vm
namespace Go.Vm
open Go Go.RowKit
def forceOL (o : VObj) (K : VObj → Prop) : Prop :=
  match o with
  | .cells cs => forceL cs fun cs => K (.cells cs)
  | .row own cs => forceL cs fun cs => K (.row own cs)
  | .ty t cs => K (.ty t cs)
  | .siter s p => K (.siter s p)
  | .loop l => K (.loop l)
  | .marks => K .marks
theorem forceOL_eq (o : VObj) (K : VObj → Prop) : forceOL o K = K o := by
  cases o <;> simp only [forceOL, forceL_eq]
def forceH2 (bs : List Nat) (h : Hp) (K : Hp → Prop) : Prop :=
  match h with
  | [] => K []
  | (i, o) :: l => cond (memB i bs) (forceOL o fun o => forceH2 bs l fun l => K ((i, o) :: l)) (forceO o fun o => forceH2 bs l fun l => K ((i, o) :: l))
theorem forceH2_eq (bs : List Nat) : ∀ (h : Hp) (K : Hp → Prop), forceH2 bs h K = K h
  | [], K => rfl
  | (i, o) :: l, K => by
    rw [forceH2]
    cases memB i bs
    · rw [cond_false, forceO_eq, forceH2_eq bs l]
    · rw [cond_true, forceOL_eq, forceH2_eq bs l]
theorem sumK.introF {s : Summ} {vals : List Value} {h : Hp} {top : Nat} {K : Value → Hp → Nat → Prop} {v : Value} {h' : Hp} {top' : Nat} (bs : List Nat) (e : sumRun s vals h top = some (v, h', top')) (k : forceV v fun v => forceH2 bs h' fun h' => K v h' top') : sumK s vals h top K :=
  sumK.intro e (by simpa only [forceV_eq, forceH2_eq] using k)
end Go.Vm
namespace Go.Vm
open Go Go.RowKit
inductive NilW : Value → Hp → Nat → Value → Hp → Nat → Prop
  | refl (v : Value) (H : Hp) (t : Nat) : NilW v H t v H t
  | val {v v' v2 : Value} {H H2 : Hp} {t t2 : Nat} (h : Nv t v v') (k : NilW v' (aput H t (.row true [])) (t + 1) v2 H2 t2) : NilW v H t v2 H2 t2
  | cell {v v2 : Value} {H H2 : Hp} {t t2 s : Nat} (b i sz : Nat) {cs : List Value} (hb : aget H b = some (.cells cs)) (hi : cs[i]? = some (.slice none 0 s)) (k : NilW v (aput (aput H b (.cells (cs.set i (.slice (some ⟨t, 0, none⟩) 0 sz)))) t (.row true [])) (t + 1) v2 H2 t2) : NilW v H t v2 H2 t2
theorem nilC_hp {P : Program} {w0 : World} {U : UG} {ρ : Ren} {H : Hp} {top s : Nat} {w : World} (h : HpR P w0 U ρ H top w) {b i : Nat} (sz : Nat) {cs : List Value} (hb : aget H b = some (.cells cs)) (hi : cs[i]? = some (.slice none 0 s)) : HpR P w0 U ρ (aput H b (.cells (cs.set i (.slice (some ⟨top, 0, none⟩) 0 sz)))) top w :=
  { h with
    obj := fun j o ho => by
      rw [aget_aput] at ho
      split at ho
      · rename_i hj; subst hj; cases ho
        obtain ⟨l, hl, hc, hw⟩ := h.obj b _ hb
        refine ⟨l, hl, ?_, fun _ => hw rfl⟩
        obtain ⟨g1, g2, g3⟩ := (hc : CellsR ρ w l true cs)
        refine ⟨by simpa using g1, fun k v hv => ?_, g3⟩
        rw [List.getElem?_set] at hv
        split at hv
        · rename_i hk; subst hk
          split at hv
          · cases hv
            obtain ⟨v', a, b'⟩ := g2 i _ hi
            exact ⟨v', a, VR.ofNil b' _ _⟩
          · cases hv
        · exact g2 k v hv
      · exact h.obj j o ho
    dis := fun j k oj ok lj lk hjk hj hk hlj hlk hw => by
      have key : ∀ j o, aget (aput H b (.cells (cs.set i (.slice (some ⟨top, 0, none⟩) 0 sz)))) j = some o → ∃ o', aget H j = some o' ∧ (writable o = true → writable o' = true) := fun j o ho => by
        rw [aget_aput] at ho
        split at ho
        · rename_i hj; subst hj; exact ⟨_, hb, fun _ => rfl⟩
        · exact ⟨o, ho, id⟩
      obtain ⟨oj', a1, a2⟩ := key j oj hj
      obtain ⟨ok', b1, _⟩ := key k ok hk
      exact h.dis j k oj' ok' lj lk hjk a1 b1 hlj hlk (a2 hw) }
theorem NilW.ok {P : Program} {w0 : World} {U : Nat → Nat → Prop} {v v2 rv : Value} {H H2 : Hp} {t t2 : Nat} (k : NilW v H t v2 H2 t2) : ∀ {ρ : Ren} {w : World}, VR ρ v rv → HpR P w0 (.of U) ρ H t w → ∃ ρ', Ext ρ ρ' ∧ VR ρ' v2 rv ∧ HpR P w0 (.of U) ρ' H2 t2 w := by
  induction k with
  | refl => intro ρ w h1 h2; exact ⟨ρ, Ext.refl ρ, h1, h2⟩
  | val h k ih =>
    intro ρ w h1 h2
    have hx := Ext.upd (l := ⟨0, 0, 0⟩) h2.off0
    obtain ⟨ρ', e1, e2, e3⟩ := ih ((h.vr h1).mono hx) (empty_row h2)
    exact ⟨ρ', hx.trans e1, e2, e3⟩
  | cell b i sz hb hi k ih =>
    intro ρ w h1 h2
    have hx := Ext.upd (l := ⟨0, 0, 0⟩) h2.off0
    obtain ⟨ρ', e1, e2, e3⟩ := ih (h1.mono hx) (empty_row (nilC_hp h2 sz hb hi))
    exact ⟨ρ', hx.trans e1, e2, e3⟩
theorem Leads.nilW {P : Program} {f base : Nat} {vm : VM} {R : Value → Hp → Prop} (h : Leads P f base vm (fun v H t => ∃ v' H' t', NilW v H t v' H' t' ∧ R v' H')) : Leads P f base vm (fun v H _ => R v H) := by
  refine ⟨fun w0 U ρ rf rfs w cs hr => ?_⟩
  obtain ⟨ρ', rv, fr', w', v, H', top', h1, h2, h3, h4, h5, h6, v2, H2, t2, hk, h7⟩ := h.get w0 U ρ rf rfs w cs hr
  obtain ⟨ρ2, e1, e2, e3⟩ := hk.ok h4 h5
  exact ⟨ρ2, rv, fr', w', v2, H2, t2, h1, h2, h3, e2, e3, fun i l hi hl => e1 _ _ (h6 i l hi hl), h7⟩
end Go.Vm
namespace Go.Vm
end Go.Vm
namespace Go.Vm
open Go Go.RowKit
@[simp] theorem ofBytes_len (l : List UInt8) : (ofBytes l).length = l.length := by simp [ofBytes]
theorem asI_c (k : IntKind) {n : Int} : asI k (.int k n) = some n := by simp [asI]
theorem asS_c {s : List UInt8} : asS (.string ⟨⟨s⟩⟩) = some s := rfl
def pickN (i : Nat) (a b : Dec) : Dec := fun vs cs => match vs[i]? with
  | some (.pointer none) => b vs cs
  | _ => a vs cs
theorem pickN.elim {i : Nat} {a b : Dec} {vs : List Value} {cs : List (Option (List Value))} {r : SRes} (h : pickN i a b vs cs = some r) : a vs cs = some r ∨ b vs cs = some r := by
  unfold pickN at h
  split at h
  · exact .inr h
  · exact .inl h
theorem nw_0 {H : Hp} {s : Nat → Option Nat} : newOK H s [] [] := trivial
theorem nw_s {H : Hp} {s : Nat → Option Nat} {j : Nat} {js : List Nat} {c c' : List Value} {cs : List (List Value)} (e : renV.renL s c = some c') (h : Has H j c') (t : newOK H s js cs) : newOK H s (j :: js) (c :: cs) := ⟨⟨_, e, h⟩, t⟩
theorem js_0 {n : Nat} {wr : List (Option (List Value))} : jsOK n wr [] := trivial
theorem js_l {n j : Nat} {wr : List (Option (List Value))} {js : List Nat} (h : n ≤ j) (t : jsOK n wr js) : jsOK n wr (j :: js) := ⟨.inl h, t⟩
theorem wr_0 {H : Hp} {s : Nat → Option Nat} {k : Nat} : wrOK H s k [] := trivial
theorem wr_n {H : Hp} {s : Nat → Option Nat} {k : Nat} {l : List (Option (List Value))} (t : wrOK H s (k + 1) l) : wrOK H s k (none :: l) := t
theorem wr_s {H : Hp} {s : Nat → Option Nat} {k : Nat} {c c' : List Value} {l : List (Option (List Value))} (e : renV.renL s c = some c') (h : Has H k c') (t : wrOK H s (k + 1) l) : wrOK H s k (some c :: l) := ⟨⟨_, e, h⟩, t⟩
theorem Res.flat {n : Nat} {r : SRes} {v' : Value} {H' : Hp} {b : Bool} (e : r.v = .bool b) (_ : r.new = []) (h : Res n r v' H') : v' = .bool b := by
  obtain ⟨js, h1, h2, -⟩ := h.ex
  rw [e] at h1
  cases h1; rfl
theorem sumK.q {s : Summ} {vals : List Value} {h : Hp} {top : Nat} {K : Value → Hp → Nat → Prop} {r : SRes} {v' : Value} (e1 : readArgs h 0 s.modes vals = some (vals, [])) (ew : winL h s.modes vals = []) (e2 : s.run vals [] = some r) (hn : r.new = []) (hw : r.wr = []) (e6 : renV (numR top 0 []) r.v = some v')
    (k : forceV v' fun v => forceH2 [] h fun h' => K v h' top) : sumK s vals h top K := by
  refine sumK.introF [] (sumRun_of (n := 0) (m := 0) (t' := top) e1 ew rfl e2 rfl (by rw [hn]; rfl) rfl rfl (by rw [hw]; exact wb_nil) (by rw [hn]; exact an_nil) e6) k
theorem dFin {α : Type} {o : Option α} {f : α → SRes} {vs : List Value} {cs : List (Option (List Value))} {r : SRes} (h : dEnd (ofG o f) vs cs = some r) : vs = [] ∧ cs = [] ∧ ∃ x, o = some x ∧ f x = r := by
  obtain ⟨a, b, c⟩ := dEnd.elim h
  exact ⟨a, b, ofG.elim c⟩
theorem Res.z {n : Nat} {r : SRes} {v' : Value} {H' : Hp} (e1 : renV (resR [] n) r.v = some v') (e2 : r.new = []) (e3 : r.wr = []) : Res n r v' H' :=
  Res.of [] e1 (by rw [e2]; exact nw_0) (by decide) js_0 (by rw [e3]; exact wr_0)
end Go.Vm
namespace Go.Vm
open Go Go.RowKit
section
variable {α : Type} {f : α → List Value} {c : Nat}
end
end Go.Vm
namespace Go.Vm
end Go.Vm
namespace Go.Vm
open Go
theorem wI64 {n : Int} (h1 : -9223372036854775808 ≤ n) (h2 : n < 9223372036854775808) : wI .i64 n = n := by
  show IntKind.wrap .i64 n = n; rw [IntKind.wrap_i64]; omega
theorem wU64 {n : Int} (h1 : 0 ≤ n) (h2 : n < 18446744073709551616) : wI .u64 n = n := by
  show IntKind.wrap .u64 n = n
  simp only [IntKind.wrap, IntKind.bits, IntKind.signed]; simp; omega
theorem wU8 {n : Int} (h1 : 0 ≤ n) (h2 : n < 256) : wI .u8 n = n := by
  show IntKind.wrap .u8 n = n
  simp only [IntKind.wrap, IntKind.bits, IntKind.signed]; simp; omega
theorem wU64m (n : Int) : wI .u64 n = n % 18446744073709551616 := by
  show IntKind.wrap .u64 n = _
  simp only [IntKind.wrap, IntKind.bits, IntKind.signed]; simp
theorem wU8m (n : Int) : wI .u8 n = n % 256 := by
  show IntKind.wrap .u8 n = _
  simp only [IntKind.wrap, IntKind.bits, IntKind.signed]; simp
theorem bv64 {n : Nat} (h : n < 18446744073709551616) : (BitVec.ofInt 64 (n : Int)).toNat = n := by
  rw [BitVec.toNat_ofInt]; omega
theorem iorU64 {a b : Nat} (ha : a < 18446744073709551616) (hb : b < 18446744073709551616) : iorI .u64 (a : Int) (b : Int) = ((a ||| b : Nat) : Int) := by
  have h : a ||| b < 2 ^ 64 := Nat.or_lt_two_pow (by omega) (by omega)
  show IntKind.wrap .u64 _ = _
  rw [show IntKind.bits .u64 = 64 from rfl, BitVec.toNat_or, bv64 (by omega), bv64 (by omega)]
  exact wU64 (by omega) (by omega)
theorem or_low {a b k : Nat} (hb : b < 2 ^ k) : (a * 2 ^ k) ||| b = a * 2 ^ k + b := by
  rw [Nat.mul_comm]; exact (Nat.two_pow_add_eq_or_of_lt hb a).symm
theorem iorU64_low (k : Nat) {a b : Int} (h0 : 0 ≤ a) (h1 : a * 2 ^ k < 18446744073709551616) (hb0 : 0 ≤ b) (hb : b < 2 ^ k) (hb1 : b < 18446744073709551616) : iorI .u64 (a * 2 ^ k) b = a * 2 ^ k + b := by
  obtain ⟨n, rfl⟩ := Int.eq_ofNat_of_zero_le h0
  obtain ⟨m, rfl⟩ := Int.eq_ofNat_of_zero_le hb0
  have e : ((n : Int) * 2 ^ k) = ((n * 2 ^ k : Nat) : Int) := by push_cast; rfl
  rw [e] at h1 ⊢
  rw [iorU64 (by omega) (by omega), or_low (by exact_mod_cast hb)]; push_cast; rfl
theorem fdivP (a : Int) (k : Nat) : a.fdiv (2 ^ k) = a / 2 ^ k := Int.fdiv_eq_ediv_of_nonneg a (Int.le_of_lt (Int.pow_pos (by decide)))
theorem oreq_p {α : Type} {p : Prop} [Decidable p] {x : Option α} (h : p) : oreq (decide p) x = x := oreq.mk (decide_eq_true h)
theorem cond_p {α : Type} {p : Prop} [Decidable p] {x y : α} (h : p) : cond (decide p) x y = x := by rw [decide_eq_true h, cond_true]
theorem cond_n {α : Type} {p : Prop} [Decidable p] {x y : α} (h : ¬ p) : cond (decide p) x y = y := by rw [decide_eq_false h, cond_false]
theorem cond_dec {α : Type} {p : Prop} [Decidable p] {x y : α} : cond (decide p) x y = if p then x else y := by
  by_cases h : p <;> simp [h]
theorem iter_eq {σ ρ : Type} {step : σ → Option (Sum σ ρ)} (F : σ → ρ) (P : σ → Prop) (μ : σ → Nat)
    (h : ∀ s, P s → step s = some (.inr (F s)) ∨ ∃ s', step s = some (.inl s') ∧ P s' ∧ μ s' < μ s ∧ F s' = F s) : ∀ n s, P s → μ s < n → iter step n s = some (F s)
  | 0, s, hp, hn => by omega
  | n + 1, s, hp, hn => by
    rw [iter]
    rcases h s hp with e | ⟨s', e, hp', hm, hf⟩
    · rw [e]
    · rw [e]; exact hf ▸ iter_eq F P μ h n s' hp' (by omega)
theorem FUEL_eq : FUEL = 18446744073709551616 := rfl
def be (n : Nat) : Nat → List UInt8
  | 0 => []
  | r + 1 => UInt8.ofNat (n / 256 ^ r) :: be n r
def valL (l : List UInt8) : Nat := l.foldl (fun n b => n * 256 + b.toNat) 0
@[simp] theorem be_len (n : Nat) : ∀ k, (be n k).length = k
  | 0 => rfl
  | k + 1 => by simp [be, be_len n k]
theorem be_snoc (n : Nat) : ∀ k, be n (k + 1) = be (n / 256) k ++ [UInt8.ofNat n]
  | 0 => by simp [be]
  | k + 1 => by
    rw [be, be_snoc n k, be, Nat.div_div_eq_div_mul, Nat.pow_succ, Nat.mul_comm 256]; rfl
theorem val_foldl (l : List UInt8) : ∀ n : Nat, l.foldl (fun n b => n * 256 + b.toNat) n = n * 256 ^ l.length + valL l := by
  induction l with
  | nil => intro n; simp [valL]
  | cons b l ih =>
    intro n
    rw [valL, List.foldl_cons, ih, List.foldl_cons, ih, List.length_cons, Nat.pow_succ]
    rw [Nat.zero_mul, Nat.zero_add, Nat.add_mul, Nat.mul_assoc, Nat.mul_comm (256 ^ _) 256, Nat.add_assoc]
@[simp] theorem val_nil : valL [] = 0 := rfl
theorem val_cons (b : UInt8) (l : List UInt8) : valL (b :: l) = b.toNat * 256 ^ l.length + valL l := by
  rw [valL, List.foldl_cons, val_foldl]; simp
theorem val_lt : ∀ l : List UInt8, valL l < 256 ^ l.length
  | [] => by simp
  | b :: l => by
    have h := val_lt l
    have hb := b.toNat_lt
    rw [val_cons, List.length_cons, Nat.pow_succ]
    have : b.toNat * 256 ^ l.length + 256 ^ l.length ≤ 256 * 256 ^ l.length := by
      rw [← Nat.succ_mul]; exact Nat.mul_le_mul_right _ (by omega)
    rw [Nat.mul_comm (256 ^ l.length)]; omega
theorem val_take_lt {l : List UInt8} {k : Nat} (n : Nat) (h : 256 ^ k ≤ n) : valL (l.take k) < n := by
  have h1 := val_lt (l.take k)
  have h2 : (l.take k).length ≤ k := List.length_take_le _ _
  exact Nat.lt_of_lt_of_le h1 (Nat.le_trans (Nat.pow_le_pow_right (by decide) h2) h)
end Go.Vm
namespace Go.Vm.Code
open Go Go.Vm Go.Proofs
def τ0:Operand:=.tmp 0
def τ1:Operand:=.tmp 1
def τ2:Operand:=.tmp 2
def τ3:Operand:=.tmp 3
def τ4:Operand:=.tmp 4
def τ5:Operand:=.tmp 5
def τ6:Operand:=.tmp 6
def τ7:Operand:=.tmp 7
def τ8:Operand:=.tmp 8
def τ9:Operand:=.tmp 9
def τ10:Operand:=.tmp 10
def τ11:Operand:=.tmp 11
def τ12:Operand:=.tmp 12
def τ13:Operand:=.tmp 13
def τ14:Operand:=.tmp 14
def τ15:Operand:=.tmp 15
def τ16:Operand:=.tmp 16
def τ17:Operand:=.tmp 17
def τ18:Operand:=.tmp 18
def τ19:Operand:=.tmp 19
def τ20:Operand:=.tmp 20
def τ21:Operand:=.tmp 21
def τ22:Operand:=.tmp 22
def τ23:Operand:=.tmp 23
def τ24:Operand:=.tmp 24
def τ25:Operand:=.tmp 25
def τ26:Operand:=.tmp 26
def τ27:Operand:=.tmp 27
def τ28:Operand:=.tmp 28
def τ29:Operand:=.tmp 29
def τ30:Operand:=.tmp 30
def τ31:Operand:=.tmp 31
def τ32:Operand:=.tmp 32
def τ33:Operand:=.tmp 33
def τ34:Operand:=.tmp 34
def τ35:Operand:=.tmp 35
def τ36:Operand:=.tmp 36
def τ37:Operand:=.tmp 37
def τ38:Operand:=.tmp 38
def τ39:Operand:=.tmp 39
def τ40:Operand:=.tmp 40
def τ41:Operand:=.tmp 41
def τ42:Operand:=.tmp 42
def τ43:Operand:=.tmp 43
def τ44:Operand:=.tmp 44
def τ45:Operand:=.tmp 45
def τ46:Operand:=.tmp 46
def τ47:Operand:=.tmp 47
def τ48:Operand:=.tmp 48
def τ49:Operand:=.tmp 49
def τ50:Operand:=.tmp 50
def τ51:Operand:=.tmp 51
def τ52:Operand:=.tmp 52
def τ53:Operand:=.tmp 53
def τ54:Operand:=.tmp 54
def τ55:Operand:=.tmp 55
def τ56:Operand:=.tmp 56
def τ57:Operand:=.tmp 57
def τ58:Operand:=.tmp 58
def τ59:Operand:=.tmp 59
def τ60:Operand:=.tmp 60
def τ61:Operand:=.tmp 61
def τ62:Operand:=.tmp 62
def τ63:Operand:=.tmp 63
def τ64:Operand:=.tmp 64
def τ65:Operand:=.tmp 65
def τ66:Operand:=.tmp 66
def τ67:Operand:=.tmp 67
def τ68:Operand:=.tmp 68
def τ69:Operand:=.tmp 69
def τ70:Operand:=.tmp 70
def τ71:Operand:=.tmp 71
def τ72:Operand:=.tmp 72
def τ73:Operand:=.tmp 73
def τ74:Operand:=.tmp 74
def τ75:Operand:=.tmp 75
def τ76:Operand:=.tmp 76
def τ77:Operand:=.tmp 77
def τ78:Operand:=.tmp 78
def τ79:Operand:=.tmp 79
def τ80:Operand:=.tmp 80
def τ81:Operand:=.tmp 81
def τ82:Operand:=.tmp 82
def τ83:Operand:=.tmp 83
def τ84:Operand:=.tmp 84
def τ85:Operand:=.tmp 85
def τ86:Operand:=.tmp 86
def τ87:Operand:=.tmp 87
def τ88:Operand:=.tmp 88
def τ89:Operand:=.tmp 89
def τ90:Operand:=.tmp 90
def τ91:Operand:=.tmp 91
def τ92:Operand:=.tmp 92
def τ93:Operand:=.tmp 93
def τ94:Operand:=.tmp 94
def τ95:Operand:=.tmp 95
def τ96:Operand:=.tmp 96
def τ97:Operand:=.tmp 97
def τ98:Operand:=.tmp 98
def τ99:Operand:=.tmp 99
def τ100:Operand:=.tmp 100
def τ101:Operand:=.tmp 101
def τ102:Operand:=.tmp 102
def τ103:Operand:=.tmp 103
def τ104:Operand:=.tmp 104
def τ105:Operand:=.tmp 105
def τ106:Operand:=.tmp 106
def τ107:Operand:=.tmp 107
def τ108:Operand:=.tmp 108
def τ109:Operand:=.tmp 109
def τ110:Operand:=.tmp 110
def τ111:Operand:=.tmp 111
def τ112:Operand:=.tmp 112
def τ113:Operand:=.tmp 113
def τ114:Operand:=.tmp 114
def τ115:Operand:=.tmp 115
def τ116:Operand:=.tmp 116
def τ117:Operand:=.tmp 117
def τ118:Operand:=.tmp 118
def τ119:Operand:=.tmp 119
def τ120:Operand:=.tmp 120
def τ121:Operand:=.tmp 121
def τ122:Operand:=.tmp 122
def τ123:Operand:=.tmp 123
def τ124:Operand:=.tmp 124
def τ125:Operand:=.tmp 125
def τ126:Operand:=.tmp 126
def τ127:Operand:=.tmp 127
def τ128:Operand:=.tmp 128
def τ129:Operand:=.tmp 129
def τ130:Operand:=.tmp 130
def τ131:Operand:=.tmp 131
def τ132:Operand:=.tmp 132
def τ133:Operand:=.tmp 133
def τ134:Operand:=.tmp 134
def τ135:Operand:=.tmp 135
def τ136:Operand:=.tmp 136
def τ137:Operand:=.tmp 137
def τ138:Operand:=.tmp 138
def τ139:Operand:=.tmp 139
def τ140:Operand:=.tmp 140
def τ141:Operand:=.tmp 141
def τ142:Operand:=.tmp 142
def τ143:Operand:=.tmp 143
def τ144:Operand:=.tmp 144
def τ145:Operand:=.tmp 145
def τ146:Operand:=.tmp 146
def τ147:Operand:=.tmp 147
def τ148:Operand:=.tmp 148
def τ149:Operand:=.tmp 149
def τ150:Operand:=.tmp 150
def τ151:Operand:=.tmp 151
def τ152:Operand:=.tmp 152
def τ153:Operand:=.tmp 153
def τ154:Operand:=.tmp 154
def τ155:Operand:=.tmp 155
def τ156:Operand:=.tmp 156
def τ157:Operand:=.tmp 157
def τ158:Operand:=.tmp 158
def τ159:Operand:=.tmp 159
def τ160:Operand:=.tmp 160
def τ161:Operand:=.tmp 161
def τ162:Operand:=.tmp 162
def τ163:Operand:=.tmp 163
def τ164:Operand:=.tmp 164
def τ165:Operand:=.tmp 165
def τ166:Operand:=.tmp 166
def τ167:Operand:=.tmp 167
def τ168:Operand:=.tmp 168
def τ169:Operand:=.tmp 169
def τ170:Operand:=.tmp 170
def τ171:Operand:=.tmp 171
def τ172:Operand:=.tmp 172
def τ173:Operand:=.tmp 173
def τ174:Operand:=.tmp 174
def τ175:Operand:=.tmp 175
def τ176:Operand:=.tmp 176
def τ177:Operand:=.tmp 177
def τ178:Operand:=.tmp 178
def τ179:Operand:=.tmp 179
def τ180:Operand:=.tmp 180
def τ181:Operand:=.tmp 181
def τ182:Operand:=.tmp 182
def τ183:Operand:=.tmp 183
def τ184:Operand:=.tmp 184
def τ185:Operand:=.tmp 185
def τ186:Operand:=.tmp 186
def τ187:Operand:=.tmp 187
def τ188:Operand:=.tmp 188
def τ189:Operand:=.tmp 189
def τ190:Operand:=.tmp 190
def τ191:Operand:=.tmp 191
def τ192:Operand:=.tmp 192
def τ193:Operand:=.tmp 193
def τ194:Operand:=.tmp 194
def τ195:Operand:=.tmp 195
def τ196:Operand:=.tmp 196
def τ197:Operand:=.tmp 197
def oD (n:Nat) (o:VOp):VOper:=⟨some n,o,none⟩
def oN (o:VOp):VOper:=⟨none,o,none⟩
def oM (n:Nat) (x:Operand):VOper:=⟨some n,.mv x,none⟩
def oG (n:Nat) (o:VOp) (j:Nat) (b:Bool):VOper:=⟨some n,o,some (j,b)⟩
def oE (n i:Nat) (x:Operand):VOper:=⟨some n,.extract i x,none⟩
def k9_0 : VC := .reg [oD 3 (.box τ0),oD 4 (.box τ1),oD 6 (.mv (.const (.bool false)))]
def k9_1 : VC := .reg [oD 15 (.fieldA 3 τ3),oD 16 (.load1 .oth τ15),oD 17 (.lenL τ16),oD 18 (.bin .gtr τ17 (.const (.int .i64 70))),oM 19 τ18,oG 20 (.fieldA 3 τ4) 19 false,oG 21 (.load1 .oth τ20) 19 false,oG 22 (.lenL τ21) 19 false,oG 23 (.bin .gtr τ22 (.const (.int .i64 70))) 19 false,oD 24 (.pick τ19 (.const (.bool true)) τ23),oM 25 τ24,oG 26 (.mv τ2) 25 false,oG 27 (.lenS τ26) 25 false,oG 28 (.bin .gtr τ27 (.const (.int .i64 800))) 25 false,oD 29 (.pick τ25 (.const (.bool true)) τ28)]
def k9_2 : VC := .reg [oD 30 (.callF 47 []),oM 6 τ30]
def k9_3 : VC := .seq k9_2 .ret
def k9_4 : VC := .cond τ29 k9_3 .skip
def k9_5 : VC := .seq k9_1 k9_4
def k9_6 : VC := .reg [oD 32 (.loadN [(.int .u64), (.int .u64), (.int .i64), .oth] τ3),oD 33 (.callF 54 [τ32]),oD 34 (.callF 53 [τ33]),oM 31 τ34,oE 35 0 τ31,oE 36 1 τ31,oM 7 τ35,oM 8 τ36]
def k9_7 : VC := .reg [oD 38 (.loadN [(.int .u64), (.int .u64), (.int .i64), .oth] τ3),oD 39 (.callF 55 [τ38]),oM 37 τ39,oE 40 0 τ37,oE 41 1 τ37,oM 9 τ40,oM 10 τ41]
def k9_8 : VC := .reg [oM 43 τ2,oD 44 (.callF 48 [τ43]),oM 42 τ44,oE 45 0 τ42,oE 46 1 τ42,oD 11 (.alloc [(.int .u64 0), (.int .u64 0), (.int .i64 0), (.slice none 0 0)]),oN (.store 4 τ11 τ45),oM 12 τ46]
def k9_9 : VC := .reg [oM 48 τ2,oD 49 (.callF 50 [τ48]),oM 47 τ49,oE 50 0 τ47,oE 51 1 τ47,oD 13 (.alloc [(.int .u64 0), (.int .u64 0), (.int .i64 0), (.slice none 0 0)]),oN (.store 4 τ13 τ50),oM 14 τ51]
def k9_10 : VC := .regD [oD 52 (.loadN [(.int .u64), (.int .u64), (.int .i64), .oth] τ3),oD 53 (.callF 54 [τ52]),oD 54 (.callF 56 [τ53]),oD 55 (.loadN [(.int .u64), (.int .u64), (.int .i64), .oth] τ3),oD 56 (.callF 57 [τ55]),oD 57 (.eqB false τ54 τ56),oM 58 τ57,oG 59 (.mv τ7) 58 true,oG 60 (.mv τ9) 58 true,oG 61 (.bin .eql τ59 τ60) 58 true,oD 62 (.pick τ58 τ61 (.const (.bool false))),oM 63 τ62,oG 64 (.mv τ8) 63 true,oG 65 (.mv τ10) 63 true,oG 66 (.bin .eql τ64 τ65) 63 true,oD 67 (.pick τ63 τ66 (.const (.bool false))),oM 68 τ67,oG 69 (.loadN [(.int .u64), (.int .u64), (.int .i64), .oth] τ11) 68 true,oG 70 (.callF 52 [τ69]) 68 true,oG 71 (.loadN [(.int .u64), (.int .u64), (.int .i64), .oth] τ13) 68 true,oG 72 (.callF 51 [τ70, τ71]) 68 true,oD 73 (.pick τ68 τ72 (.const (.bool false))),oM 74 τ73,oG 75 (.mv τ12) 74 true,oG 76 (.mv τ14) 74 true,oG 77 (.bin .eql τ75 τ76) 74 true,oD 78 (.pick τ74 τ77 (.const (.bool false))),oM 79 τ78,oG 80 (.fieldA 0 τ3) 79 true,oG 81 (.loadN [(.int .u64), (.int .u64)] τ80) 79 true,oG 82 (.fieldA 2 τ3) 79 true,oG 83 (.load1 (.int .i64) τ82) 79 true,oG 84 (.fieldA 3 τ3) 79 true,oG 85 (.load1 .oth τ84) 79 true,oG 86 (.callF 58 [τ81, τ83, τ85]) 79 true,oG 87 (.callF 52 [τ86]) 79 true,oG 88 (.fieldA 0 τ3) 79 true,oG 89 (.loadN [(.int .u64), (.int .u64)] τ88) 79 true,oG 90 (.fieldA 2 τ3) 79 true,oG 91 (.load1 (.int .i64) τ90) 79 true,oG 92 (.fieldA 3 τ3) 79 true,oG 93 (.load1 .oth τ92) 79 true,oG 94 (.callF 59 [τ89, τ91, τ93]) 79 true,oG 95 (.callF 51 [τ87, τ94]) 79 true,oD 96 (.pick τ79 τ95 (.const (.bool false))),oM 97 τ96,oG 98 (.loadN [(.int .u64), (.int .u64), (.int .i64), .oth] τ3) 97 true,oG 99 (.callF 54 [τ98]) 97 true,oG 100 (.loadN [(.int .u64), (.int .u64), (.int .i64), .oth] τ4) 97 true,oG 101 (.callF 54 [τ100]) 97 true,oG 102 (.callF 60 [τ99, τ101]) 97 true,oG 103 (.loadN [(.int .u64), (.int .u64), (.int .i64), .oth] τ3) 97 true,oG 104 (.loadN [(.int .u64), (.int .u64), (.int .i64), .oth] τ4) 97 true] [(1, 3), (2, 3), (18, 19), (34, 37), (34, 39), (34, 41), (35, 37), (35, 39), (35, 41), (47, 48), (47, 51), (47, 52), (49, 51), (49, 52), (50, 51), (50, 52)] [oG 105 (.callF 51 [τ103, τ104]) 97 true,oG 106 (.eqB false τ102 τ105) 97 true,oD 107 (.pick τ97 τ106 (.const (.bool false))),oM 108 τ107,oG 109 (.callF 47 []) 108 true,oD 110 (.pick τ108 τ109 (.const (.bool false))),oM 6 τ110]
def k9_11 : VC := .seq k9_10 .ret
def k9_12 : VC := .seq k9_9 k9_11
def k9_13 : VC := .seq k9_8 k9_12
def k9_14 : VC := .seq k9_7 k9_13
def k9_15 : VC := .seq k9_6 k9_14
def k9_16 : VC := .seq k9_5 k9_15
def k9_17 : VC := .seq k9_0 k9_16
def fn9 : VFn := ⟨111, k9_17, [.tmp 6]⟩
def k47_0 : VC := .reg [oD 0 (.mv (.const (.bool false)))]
def k47_1 : VC := .reg [oD 7 (.build [(.int .u64 0), (.int .u64 0), (.int .i64 0), (.slice none 0 0)] []),oD 8 (.callF 53 [τ7]),oM 6 τ8,oE 9 0 τ6,oE 10 1 τ6,oM 1 τ9,oM 2 τ10]
def k47_2 : VC := .reg [oD 12 (.callF 48 [(.const (.string ⟨⟨[]⟩⟩))]),oM 11 τ12,oE 13 0 τ11,oE 14 1 τ11,oD 3 (.alloc [(.int .u64 0), (.int .u64 0), (.int .i64 0), (.slice none 0 0)]),oN (.store 4 τ3 τ13),oM 4 τ14]
def k47_3 : VC := .reg [oD 15 (.build [(.int .u64 0), (.int .u64 0)] []),oD 16 (.build [(.int .i64 0), (.int .i64 0), (.int .i64 0), (.bool false), (.int .u64 0), (.int .u64 0)] [(0, 1, (.const (.int .i64 1))), (2, 1, (.const (.int .i64 2)))]),oD 17 (.build [(.int .i64 0), (.int .i64 0), (.int .i64 0), (.bool false), (.int .u64 0), (.int .u64 0)] [(0, 1, (.const (.int .i64 2))), (2, 1, (.const (.int .i64 4)))]),oD 18 (.build [(.int .i64 0), (.int .i64 0), (.int .i64 0), (.bool false), (.int .u64 0), (.int .u64 0)] [(0, 1, (.const (.int .i64 3))), (2, 1, (.const (.int .i64 3)))]),oD 19 (.buildSl 3 6 [(.int .i64 0), (.int .i64 0), (.int .i64 0), (.bool false), (.int .u64 0), (.int .u64 0), (.int .i64 0), (.int .i64 0), (.int .i64 0), (.bool false), (.int .u64 0), (.int .u64 0), (.int .i64 0), (.int .i64 0), (.int .i64 0), (.bool false), (.int .u64 0), (.int .u64 0)] [(0, 6, τ16), (6, 6, τ17), (12, 6, τ18)]),oD 20 (.callF 58 [τ15, (.const (.int .i64 3)), τ19]),oD 5 (.alloc [(.int .u64 0), (.int .u64 0), (.int .i64 0), (.slice none 0 0)]),oN (.store 4 τ5 τ20)]
def k47_4 : VC := .reg [oM 21 τ2,oD 22 (.bin .eql τ21 (.const (.int .i64 0))),oM 23 τ22,oG 24 (.mv τ1) 23 true,oG 25 (.lenS τ24) 23 true,oG 26 (.bin .eql τ25 (.const (.int .i64 31))) 23 true,oD 27 (.pick τ23 τ26 (.const (.bool false))),oM 28 τ27,oG 29 (.mv τ4) 28 true,oG 30 (.bin .eql τ29 (.const (.int .i64 2))) 28 true,oD 31 (.pick τ28 τ30 (.const (.bool false))),oM 32 τ31,oG 33 (.fieldA 3 τ5) 32 true,oG 34 (.load1 .oth τ33) 32 true,oG 35 (.lenL τ34) 32 true,oG 36 (.bin .eql τ35 (.const (.int .i64 2))) 32 true,oD 37 (.pick τ32 τ36 (.const (.bool false))),oM 38 τ37,oG 39 (.fieldA 3 τ5) 38 true,oG 40 (.load1 .oth τ39) 38 true,oG 41 (.idxAL 6 τ40 (.const (.int .i64 0))) 38 true,oG 42 (.fieldA 2 τ41) 38 true,oG 43 (.load1 (.int .i64) τ42) 38 true,oG 44 (.bin .eql τ43 (.const (.int .i64 1))) 38 true,oD 45 (.pick τ38 τ44 (.const (.bool false))),oM 46 τ45,oG 47 (.loadN [(.int .u64), (.int .u64), (.int .i64), .oth] τ5) 46 true,oG 48 (.callF 56 [τ47]) 46 true,oD 49 (.pick τ46 τ48 (.const (.bool false))),oM 0 τ49]
def k47_5 : VC := .seq k47_4 .ret
def k47_6 : VC := .seq k47_3 k47_5
def k47_7 : VC := .seq k47_2 k47_6
def k47_8 : VC := .seq k47_1 k47_7
def k47_9 : VC := .seq k47_0 k47_8
def fn47 : VFn := ⟨50, k47_9, [.tmp 0]⟩
def k53_0 : VC := .reg [oD 1 (.box τ0),oD 2 (.mv (.const (.string ⟨⟨[]⟩⟩))),oD 3 (.mv (.const (.int .i64 0)))]
def k53_1 : VC := .reg [oD 9 (.loadN [(.int .u64), (.int .u64), (.int .i64), .oth] τ1),oD 10 (.callF 56 [τ9]),oD 11 (.not τ10)]
def k53_2 : VC := .reg [oD 2 (.mv (.const (.string ⟨⟨[]⟩⟩))),oD 3 (.mv (.const (.int .i64 1)))]
def k53_3 : VC := .seq k53_2 .ret
def k53_4 : VC := .cond τ11 k53_3 .skip
def k53_5 : VC := .seq k53_1 k53_4
def k53_6 : VC := .reg [oD 4 (.alloc [(.string ⟨⟨[]⟩⟩)]),oN (.store 1 τ4 (.const (.string ⟨⟨[67, 76, 75, 49]⟩⟩)))]
def k53_7 : VC := .reg [oD 12 (.mkFunc 108 [] [τ4]),oM 5 τ12]
def k53_8 : VC := .reg [oM 13 τ5,oD 14 (.fieldA 0 τ1),oD 15 (.fieldA 0 τ14),oD 16 (.load1 (.int .u64) τ15),oD 17 (.callV τ13 [τ16, (.const (.int .i64 8))])]
def k53_9 : VC := .reg [oM 18 τ5,oD 19 (.fieldA 0 τ1),oD 20 (.fieldA 1 τ19),oD 21 (.load1 (.int .u64) τ20),oD 22 (.callV τ18 [τ21, (.const (.int .i64 8))])]
def k53_10 : VC := .reg [oM 23 τ5,oD 24 (.fieldA 2 τ1),oD 25 (.load1 (.int .i64) τ24),oD 26 (.conv .u64 τ25),oD 27 (.callV τ23 [τ26, (.const (.int .i64 2))])]
def k53_11 : VC := .reg [oM 28 τ5,oD 29 (.fieldA 3 τ1),oD 30 (.load1 .oth τ29),oD 31 (.lenL τ30),oD 32 (.conv .u64 τ31),oD 33 (.callV τ28 [τ32, (.const (.int .i64 1))])]
def k53_12 : VC := .reg [oD 34 (.fieldA 3 τ1),oD 35 (.load1 .oth τ34),oD 36 (.lenL τ35),oD 37 (.mv (.const (.int .i64 0)))]
def k53_13 : VC := .reg [oD 38 (.bin .lss τ37 τ36)]
def k53_14 : VC := .cond τ38 .skip (.exit 0)
def k53_15 : VC := .reg [oD 39 (.idxAL 6 τ35 τ37),oD 40 (.loadN [(.int .i64), (.int .i64), (.int .i64), .bool, (.int .u64), (.int .u64)] τ39),oD 7 (.alloc [(.int .i64 0), (.int .i64 0), (.int .i64 0), (.bool false), (.int .u64 0), (.int .u64 0)]),oN (.store 6 τ7 τ40)]
def k53_16 : VC := .reg [oD 41 (.fieldA 3 τ7),oD 42 (.loadN [.bool, (.int .u64), (.int .u64)] τ41),oD 43 (.callF 110 [τ42]),oM 8 τ43]
def k53_17 : VC := .reg [oM 44 τ5,oD 45 (.fieldA 0 τ7),oD 46 (.load1 (.int .i64) τ45),oD 47 (.conv .u64 τ46),oD 48 (.bin .shl τ47 (.const (.int .u64 16))),oD 49 (.fieldA 1 τ7),oD 50 (.load1 (.int .i64) τ49),oD 51 (.conv .u64 τ50),oD 52 (.bin .or τ48 τ51),oD 53 (.callV τ44 [τ52, (.const (.int .i64 4))])]
def k53_18 : VC := .reg [oM 54 τ5,oD 55 (.fieldA 2 τ7),oD 56 (.load1 (.int .i64) τ55),oD 57 (.conv .u64 τ56),oD 58 (.bin .shl τ57 (.const (.int .u64 8))),oM 59 τ8,oD 60 (.lenS τ59),oD 61 (.conv .u64 τ60),oD 62 (.bin .or τ58 τ61),oD 63 (.callV τ54 [τ62, (.const (.int .i64 2))])]
def k53_19 : VC := .reg [oD 64 (.load1 .str τ4),oM 65 τ8,oD 66 (.bin .add τ64 τ65),oN (.store 1 τ4 τ66)]
def k53_20 : VC := .seq k53_18 k53_19
def k53_21 : VC := .seq k53_17 k53_20
def k53_22 : VC := .seq k53_16 k53_21
def k53_23 : VC := .seq k53_15 k53_22
def k53_24 : VC := .block 1 k53_23
def k53_25 : VC := .reg [oD 67 (.bin .add τ37 (.const (.int .i64 1))),oM 37 τ67]
def k53_26 : VC := .seq k53_24 k53_25
def k53_27 : VC := .seq k53_14 k53_26
def k53_28 : VC := .seq k53_13 k53_27
def k53_29 : VC := .loop k53_28
def k53_30 : VC := .block 0 k53_29
def k53_31 : VC := .seq k53_12 k53_30
def k53_32 : VC := .regD [oD 68 (.load1 .str τ4),oD 69 (.load1 .str τ4),oD 70 (.callF 98 [τ69])] [(0, 2)] [oD 71 (.bin .add τ68 τ70),oM 2 τ71,oD 3 (.mv (.const (.int .i64 0)))]
def k53_33 : VC := .seq k53_32 .ret
def k53_34 : VC := .seq k53_31 k53_33
def k53_35 : VC := .seq k53_11 k53_34
def k53_36 : VC := .seq k53_10 k53_35
def k53_37 : VC := .seq k53_9 k53_36
def k53_38 : VC := .seq k53_8 k53_37
def k53_39 : VC := .seq k53_7 k53_38
def k53_40 : VC := .seq k53_6 k53_39
def k53_41 : VC := .seq k53_5 k53_40
def k53_42 : VC := .seq k53_0 k53_41
def fn53 : VFn := ⟨72, k53_42, [.tmp 2, .tmp 3]⟩
def k56_0 : VC := .reg [oD 1 (.box τ0),oD 2 (.mv (.const (.bool false)))]
def k56_1 : VC := .reg [oD 3 (.alloc [(.int .i64 0)]),oN (.store 1 τ3 (.const (.int .i64 0)))]
def k56_2 : VC := .reg [oD 5 (.mkFunc 113 [] [τ3, τ1]),oM 4 τ5]
def k56_3 : VC := .reg [oD 6 (.fieldA 2 τ1),oD 7 (.load1 (.int .i64) τ6),oD 8 (.bin .geq τ7 (.const (.int .i64 0))),oM 9 τ8,oG 10 (.fieldA 2 τ1) 9 true,oG 11 (.load1 (.int .i64) τ10) 9 true,oG 12 (.bin .leq τ11 (.const (.int .i64 65535))) 9 true,oD 13 (.pick τ9 τ12 (.const (.bool false))),oM 14 τ13,oG 15 (.fieldA 3 τ1) 14 true,oG 16 (.load1 .oth τ15) 14 true,oG 17 (.lenL τ16) 14 true,oG 18 (.bin .leq τ17 (.const (.int .i64 64))) 14 true,oD 19 (.pick τ14 τ18 (.const (.bool false))),oM 20 τ19,oG 21 (.fieldA 3 τ1) 20 true,oG 22 (.load1 .oth τ21) 20 true,oG 23 (.mv τ4) 20 true,oG 24 (.callF 114 [τ22, τ23]) 20 true,oG 25 (.not τ24) 20 true,oD 26 (.pick τ20 τ25 (.const (.bool false))),oM 2 τ26]
def k56_4 : VC := .seq k56_3 .ret
def k56_5 : VC := .seq k56_2 k56_4
def k56_6 : VC := .seq k56_1 k56_5
def k56_7 : VC := .seq k56_0 k56_6
def fn56 : VFn := ⟨27, k56_7, [.tmp 2]⟩
def k113_0 : VC := .reg [oD 3 (.box τ0),oD 4 (.mv (.const (.bool false)))]
def k113_1 : VC := .reg [oD 7 (.load1 (.int .i64) τ1),oM 5 τ7]
def k113_2 : VC := .reg [oD 8 (.fieldA 0 τ3),oD 9 (.load1 (.int .i64) τ8),oN (.store 1 τ1 τ9)]
def k113_3 : VC := .reg [oD 10 (.fieldA 2 τ3),oD 11 (.load1 (.int .i64) τ10),oD 12 (.bin .eql τ11 (.const (.int .i64 1))),oM 13 τ12,oG 14 (.fieldA 2 τ3) 13 false,oG 15 (.load1 (.int .i64) τ14) 13 false,oG 16 (.bin .eql τ15 (.const (.int .i64 3))) 13 false,oD 17 (.pick τ13 (.const (.bool true)) τ16),oM 6 τ17]
def k113_4 : VC := .reg [oD 18 (.fieldA 0 τ3),oD 19 (.load1 (.int .i64) τ18),oM 20 τ5,oD 21 (.bin .leq τ19 τ20),oM 22 τ21,oG 23 (.fieldA 0 τ3) 22 false,oG 24 (.load1 (.int .i64) τ23) 22 false,oG 25 (.fieldA 2 τ2) 22 false,oG 26 (.load1 (.int .i64) τ25) 22 false,oG 27 (.bin .gtr τ24 τ26) 22 false,oD 28 (.pick τ22 (.const (.bool true)) τ27),oM 29 τ28,oG 30 (.fieldA 1 τ3) 29 false,oG 31 (.load1 (.int .i64) τ30) 29 false,oG 32 (.bin .lss τ31 (.const (.int .i64 0))) 29 false,oD 33 (.pick τ29 (.const (.bool true)) τ32),oM 34 τ33,oG 35 (.fieldA 1 τ3) 34 false,oG 36 (.load1 (.int .i64) τ35) 34 false,oG 37 (.bin .gtr τ36 (.const (.int .i64 1000))) 34 false,oD 38 (.pick τ34 (.const (.bool true)) τ37),oM 39 τ38,oG 40 (.mv τ6) 39 false,oG 41 (.not τ40) 39 false,oD 42 (.pick τ39 (.const (.bool true)) τ41),oM 43 τ42,oG 44 (.fieldA 3 τ3) 43 false,oG 45 (.loadN [.bool, (.int .u64), (.int .u64)] τ44) 43 false,oG 46 (.callF 82 [τ45]) 43 false,oG 47 (.not τ46) 43 false,oD 48 (.pick τ43 (.const (.bool true)) τ47),oM 4 τ48]
def k113_5 : VC := .seq k113_4 .ret
def k113_6 : VC := .seq k113_3 k113_5
def k113_7 : VC := .seq k113_2 k113_6
def k113_8 : VC := .seq k113_1 k113_7
def k113_9 : VC := .seq k113_0 k113_8
def fn113 : VFn := ⟨49, k113_9, [.tmp 4]⟩
def k82_0 : VC := .reg [oD 1 (.box τ0),oD 2 (.mv (.const (.bool false)))]
def k82_1 : VC := .reg [oD 3 (.fieldA 0 τ1),oD 4 (.load1 .bool τ3),oM 5 τ4,oG 6 (.fieldA 1 τ1) 5 false,oG 7 (.load1 (.int .u64) τ6) 5 false,oG 8 (.bin .eql τ7 (.const (.int .u64 0))) 5 false,oG 9 (.mv τ8) 5 false,oG 10 (.fieldA 2 τ1) 9 true,oG 11 (.load1 (.int .u64) τ10) 9 true,oG 12 (.bin .lss τ11 (.const (.int .u64 4294967296))) 9 true,oG 13 (.pick τ9 τ12 (.const (.bool false))) 5 false,oD 14 (.pick τ5 (.const (.bool true)) τ13),oM 2 τ14]
def k82_2 : VC := .seq k82_1 .ret
def k82_3 : VC := .seq k82_0 k82_2
def fn82 : VFn := ⟨15, k82_3, [.tmp 2]⟩
def k114_0 : VC := .reg [oD 4 (.mv (.const (.bool false)))]
def k114_1 : VC := .reg [oM 5 τ0,oM 6 τ1,oD 7 (.callF 139 [τ5, τ6]),oD 8 (.bin .geq τ7 (.const (.int .i64 0))),oM 4 τ8]
def k114_2 : VC := .seq k114_1 .ret
def k114_3 : VC := .seq k114_0 k114_2
def fn114 : VFn := ⟨9, k114_3, [.tmp 4]⟩
def k139_0 : VC := .reg [oD 4 (.mv (.const (.int .i64 0)))]
def k139_1 : VC := .reg [oM 6 τ0,oD 7 (.lenL τ6),oD 8 (.mv (.const (.int .i64 0)))]
def k139_2 : VC := .reg [oD 9 (.bin .lss τ8 τ7)]
def k139_3 : VC := .cond τ9 .skip (.exit 0)
def k139_4 : VC := .reg [oM 10 τ8,oM 5 τ10]
def k139_5 : VC := .reg [oM 11 τ1,oM 12 τ0,oM 13 τ5,oD 14 (.idxAL 6 τ12 τ13),oD 15 (.loadN [(.int .i64), (.int .i64), (.int .i64), .bool, (.int .u64), (.int .u64)] τ14),oD 16 (.callV τ11 [τ15])]
def k139_6 : VC := .reg [oM 17 τ5,oM 4 τ17]
def k139_7 : VC := .seq k139_6 .ret
def k139_8 : VC := .cond τ16 k139_7 .skip
def k139_9 : VC := .seq k139_5 k139_8
def k139_10 : VC := .seq k139_4 k139_9
def k139_11 : VC := .block 1 k139_10
def k139_12 : VC := .reg [oD 18 (.bin .add τ8 (.const (.int .i64 1))),oM 8 τ18]
def k139_13 : VC := .seq k139_11 k139_12
def k139_14 : VC := .seq k139_3 k139_13
def k139_15 : VC := .seq k139_2 k139_14
def k139_16 : VC := .loop k139_15
def k139_17 : VC := .block 0 k139_16
def k139_18 : VC := .seq k139_1 k139_17
def k139_19 : VC := .reg [oD 4 (.mv (.const (.int .i64 (-1))))]
def k139_20 : VC := .seq k139_19 .ret
def k139_21 : VC := .seq k139_18 k139_20
def k139_22 : VC := .seq k139_0 k139_21
def fn139 : VFn := ⟨19, k139_22, [.tmp 4]⟩
def k108_0 : VC := .regD [oD 5 (.load1 .str τ2),oM 6 τ0,oM 7 τ1,oD 8 (.callF 109 [τ6, τ7])] [(0, 3)] [oD 9 (.bin .add τ5 τ8),oN (.store 1 τ2 τ9)]
def fn108 : VFn := ⟨10, k108_0, []⟩
def k109_0 : VC := .reg [oD 4 (.mv (.const (.string ⟨⟨[]⟩⟩)))]
def k109_1 : VC := .reg [oM 7 τ1,oD 8 (.bin .lss τ7 (.const (.int .i64 1))),oM 9 τ8,oG 10 (.mv τ1) 9 false,oG 11 (.bin .gtr τ10 (.const (.int .i64 8))) 9 false,oD 12 (.pick τ9 (.const (.bool true)) τ11)]
def k109_2 : VC := .reg [oD 4 (.mv (.const (.string ⟨⟨[]⟩⟩)))]
def k109_3 : VC := .seq k109_2 .ret
def k109_4 : VC := .cond τ12 k109_3 .skip
def k109_5 : VC := .seq k109_1 k109_4
def k109_6 : VC := .reg [oM 13 τ1,oD 14 (.mkSl 1 1 [(.int .u8 0)] τ13 τ13),oM 5 τ14]
def k109_7 : VC := .reg [oM 15 τ5,oD 16 (.lenL τ15),oD 17 (.mv (.const (.int .i64 0)))]
def k109_8 : VC := .reg [oD 18 (.bin .lss τ17 τ16)]
def k109_9 : VC := .cond τ18 .skip (.exit 0)
def k109_10 : VC := .reg [oM 19 τ17,oM 6 τ19]
def k109_11 : VC := .reg [oM 20 τ5,oM 21 τ6,oM 22 τ0,oM 23 τ1,oD 24 (.bin .sub τ23 (.const (.int .i64 1))),oM 25 τ6,oD 26 (.bin .sub τ24 τ25),oD 27 (.bin .mul (.const (.int .i64 8)) τ26),oD 28 (.bin .shr τ22 τ27),oD 29 (.conv .u8 τ28),oD 30 (.idxAL 1 τ20 τ21),oN (.store 1 τ30 τ29)]
def k109_12 : VC := .seq k109_10 k109_11
def k109_13 : VC := .block 1 k109_12
def k109_14 : VC := .reg [oD 31 (.bin .add τ17 (.const (.int .i64 1))),oM 17 τ31]
def k109_15 : VC := .seq k109_13 k109_14
def k109_16 : VC := .seq k109_9 k109_15
def k109_17 : VC := .seq k109_8 k109_16
def k109_18 : VC := .loop k109_17
def k109_19 : VC := .block 0 k109_18
def k109_20 : VC := .seq k109_7 k109_19
def k109_21 : VC := .reg [oM 32 τ5,oD 33 (.b2s τ32),oM 4 τ33]
def k109_22 : VC := .seq k109_21 .ret
def k109_23 : VC := .seq k109_20 k109_22
def k109_24 : VC := .seq k109_6 k109_23
def k109_25 : VC := .seq k109_5 k109_24
def k109_26 : VC := .seq k109_0 k109_25
def fn109 : VFn := ⟨34, k109_26, [.tmp 4]⟩
def k110_0 : VC := .reg [oD 1 (.box τ0),oD 2 (.mv (.const (.string ⟨⟨[]⟩⟩)))]
def k110_1 : VC := .reg [oD 4 (.loadN [.bool, (.int .u64), (.int .u64)] τ1),oD 5 (.callF 82 [τ4]),oD 6 (.not τ5),oM 3 τ6]
def k110_2 : VC := .reg [oD 2 (.mv (.const (.string ⟨⟨[]⟩⟩)))]
def k110_3 : VC := .seq k110_2 .ret
def k110_4 : VC := .reg [oD 8 (.fieldA 0 τ1),oD 9 (.load1 .bool τ8),oM 7 τ9]
def k110_5 : VC := .regD [oD 10 (.fieldA 1 τ1),oD 11 (.load1 (.int .u64) τ10),oD 12 (.callF 109 [τ11, (.const (.int .i64 8))]),oD 13 (.fieldA 2 τ1),oD 14 (.load1 (.int .u64) τ13)] [(2, 4)] [oD 15 (.callF 109 [τ14, (.const (.int .i64 8))]),oD 16 (.bin .add τ12 τ15),oM 2 τ16]
def k110_6 : VC := .seq k110_5 .ret
def k110_7 : VC := .cond τ7 k110_6 .skip
def k110_8 : VC := .seq k110_4 k110_7
def k110_9 : VC := .cond τ3 k110_3 k110_8
def k110_10 : VC := .seq k110_1 k110_9
def k110_11 : VC := .block 0 k110_10
def k110_12 : VC := .reg [oD 17 (.fieldA 2 τ1),oD 18 (.load1 (.int .u64) τ17),oD 19 (.callF 109 [τ18, (.const (.int .i64 4))]),oM 2 τ19]
def k110_13 : VC := .seq k110_12 .ret
def k110_14 : VC := .seq k110_11 k110_13
def k110_15 : VC := .seq k110_0 k110_14
def fn110 : VFn := ⟨20, k110_15, [.tmp 2]⟩
def k98_0 : VC := .reg [oD 2 (.mv (.const (.string ⟨⟨[]⟩⟩)))]
def k98_1 : VC := .reg [oD 3 (.build [(.int .u64 0), (.int .u64 0)] [(0, 1, (.const (.int .u64 1))), (1, 1, (.const (.int .u64 2)))]),oM 4 τ0,oD 5 (.callF 94 [τ3, τ4]),oD 6 (.callF 109 [τ5, (.const (.int .i64 8))]),oM 2 τ6]
def k98_2 : VC := .seq k98_1 .ret
def k98_3 : VC := .seq k98_0 k98_2
def fn98 : VFn := ⟨7, k98_3, [.tmp 2]⟩
def k94_0 : VC := .reg [oD 2 (.box τ0),oD 4 (.mv (.const (.int .u64 0)))]
def k94_1 : VC := .reg [oD 6 (.loadN [(.int .u64), (.int .u64)] τ2),oD 7 (.callF 132 [τ6]),oM 5 τ7]
def k94_2 : VC := .reg [oM 8 τ5,oM 9 τ1,oD 10 (.callF 133 [τ8, τ9])]
def k94_3 : VC := .reg [oM 11 τ5,oD 12 (.callF 134 [τ11]),oM 4 τ12]
def k94_4 : VC := .seq k94_3 .ret
def k94_5 : VC := .seq k94_2 k94_4
def k94_6 : VC := .seq k94_1 k94_5
def k94_7 : VC := .seq k94_0 k94_6
def fn94 : VFn := ⟨13, k94_7, [.tmp 4]⟩
def k132_0 : VC := .reg [oD 1 (.box τ0),oD 2 (.mv (.const (.pointer none)))]
def k132_1 : VC := .reg [oD 3 (.fieldA 0 τ1),oD 4 (.load1 (.int .u64) τ3),oD 5 (.bin .xor (.const (.int .u64 8317987319222330741)) τ4),oD 6 (.fieldA 1 τ1),oD 7 (.load1 (.int .u64) τ6),oD 8 (.bin .xor (.const (.int .u64 7237128888997146477)) τ7),oD 9 (.fieldA 0 τ1),oD 10 (.load1 (.int .u64) τ9),oD 11 (.bin .xor (.const (.int .u64 7816392313619706465)) τ10),oD 12 (.fieldA 1 τ1),oD 13 (.load1 (.int .u64) τ12),oD 14 (.bin .xor (.const (.int .u64 8387220255154660723)) τ13),oD 15 (.build [(.int .u64 0), (.int .u64 0), (.int .u64 0), (.int .u64 0)] [(0, 1, τ5), (1, 1, τ8), (2, 1, τ11), (3, 1, τ14)]),oD 16 (.build [(.bool false), (.int .u64 0), (.int .u64 0), (.int .u64 0), (.int .u64 0), (.int .u64 0), (.int .i64 0)] [(0, 1, (.const (.bool true))), (1, 4, τ15)]),oD 17 (.box τ16),oM 2 τ17]
def k132_2 : VC := .seq k132_1 .ret
def k132_3 : VC := .seq k132_0 k132_2
def fn132 : VFn := ⟨18, k132_3, [.tmp 2]⟩
def k133_0 : VC := .reg [oM 6 τ0,oD 7 (.isNil 0 false τ6),oM 8 τ7,oG 9 (.mv τ0) 8 false,oG 10 (.nilCheck τ9) 8 false,oG 11 (.fieldA 0 τ10) 8 false,oG 12 (.load1 .bool τ11) 8 false,oG 13 (.not τ12) 8 false,oD 14 (.pick τ8 (.const (.bool true)) τ13)]
def k133_1 : VC := .cond τ14 .ret .skip
def k133_2 : VC := .seq k133_0 k133_1
def k133_3 : VC := .reg [oM 15 τ1,oD 16 (.s2b τ15),oD 17 (.lenL τ16),oD 18 (.mv (.const (.int .i64 0)))]
def k133_4 : VC := .reg [oD 19 (.bin .lss τ18 τ17)]
def k133_5 : VC := .cond τ19 .skip (.exit 0)
def k133_6 : VC := .reg [oD 20 (.idxAL 1 τ16 τ18),oD 21 (.load1 (.int .u8) τ20),oM 5 τ21]
def k133_7 : VC := .regD [oM 22 τ0,oD 23 (.nilCheck τ22),oD 24 (.fieldA 5 τ23),oD 25 (.load1 (.int .u64) τ24),oM 26 τ5,oD 27 (.conv .u64 τ26),oM 28 τ0,oD 29 (.nilCheck τ28),oD 30 (.fieldA 6 τ29),oD 31 (.load1 (.int .i64) τ30),oD 32 (.bin .rem τ31 (.const (.int .i64 8))),oD 33 (.bin .mul (.const (.int .i64 8)) τ32),oD 34 (.bin .shl τ27 τ33)] [] [oD 35 (.bin .or τ25 τ34),oD 36 (.nilCheck τ22),oD 37 (.fieldA 5 τ36),oN (.store 1 τ37 τ35)]
def k133_8 : VC := .reg [oM 38 τ0,oD 39 (.nilCheck τ38),oD 40 (.fieldA 6 τ39),oD 41 (.load1 (.int .i64) τ40),oD 42 (.bin .add τ41 (.const (.int .i64 1))),oD 43 (.nilCheck τ38),oD 44 (.fieldA 6 τ43),oN (.store 1 τ44 τ42)]
def k133_9 : VC := .reg [oM 45 τ0,oD 46 (.nilCheck τ45),oD 47 (.fieldA 6 τ46),oD 48 (.load1 (.int .i64) τ47),oD 49 (.bin .rem τ48 (.const (.int .i64 8))),oD 50 (.bin .eql τ49 (.const (.int .i64 0)))]
def k133_10 : VC := .regD [oM 51 τ0,oD 52 (.nilCheck τ51),oD 53 (.fieldA 1 τ52),oM 54 τ0,oD 55 (.nilCheck τ54),oD 56 (.fieldA 5 τ55),oD 57 (.load1 (.int .u64) τ56)] [] [oD 58 (.callF 147 [τ53, τ57])]
def k133_11 : VC := .reg [oM 59 τ0,oD 60 (.nilCheck τ59),oD 61 (.fieldA 5 τ60),oN (.store 1 τ61 (.const (.int .u64 0)))]
def k133_12 : VC := .seq k133_10 k133_11
def k133_13 : VC := .cond τ50 k133_12 .skip
def k133_14 : VC := .seq k133_9 k133_13
def k133_15 : VC := .seq k133_8 k133_14
def k133_16 : VC := .seq k133_7 k133_15
def k133_17 : VC := .seq k133_6 k133_16
def k133_18 : VC := .block 1 k133_17
def k133_19 : VC := .reg [oD 62 (.bin .add τ18 (.const (.int .i64 1))),oM 18 τ62]
def k133_20 : VC := .seq k133_18 k133_19
def k133_21 : VC := .seq k133_5 k133_20
def k133_22 : VC := .seq k133_4 k133_21
def k133_23 : VC := .loop k133_22
def k133_24 : VC := .block 0 k133_23
def k133_25 : VC := .seq k133_3 k133_24
def k133_26 : VC := .seq k133_2 k133_25
def fn133 : VFn := ⟨63, k133_26, []⟩
def k147_0 : VC := .regD [oM 4 τ0,oD 5 (.nilCheck τ4),oD 6 (.idxAA 4 1 τ5 (.const (.int .i64 3))),oD 7 (.load1 (.int .u64) τ6),oM 8 τ1,oD 9 (.bin .xor τ7 τ8),oD 10 (.nilCheck τ4)] [] [oD 11 (.idxAA 4 1 τ10 (.const (.int .i64 3))),oN (.store 1 τ11 τ9)]
def k147_1 : VC := .reg [oM 12 τ0,oD 13 (.callF 148 [τ12, (.const (.int .i64 2))])]
def k147_2 : VC := .regD [oM 14 τ0,oD 15 (.nilCheck τ14),oD 16 (.idxAA 4 1 τ15 (.const (.int .i64 0))),oD 17 (.load1 (.int .u64) τ16),oM 18 τ1,oD 19 (.bin .xor τ17 τ18),oD 20 (.nilCheck τ14)] [] [oD 21 (.idxAA 4 1 τ20 (.const (.int .i64 0))),oN (.store 1 τ21 τ19)]
def k147_3 : VC := .seq k147_1 k147_2
def k147_4 : VC := .seq k147_0 k147_3
def fn147 : VFn := ⟨22, k147_4, []⟩
def k148_0 : VC := .reg [oM 4 τ1,oD 5 (.minmax false [τ4, (.const (.int .i64 64))]),oD 6 (.minmax true [(.const (.int .i64 0)), τ5]),oD 7 (.mv (.const (.int .i64 0)))]
def k148_1 : VC := .reg [oD 8 (.bin .lss τ7 τ6)]
def k148_2 : VC := .cond τ8 .skip (.exit 0)
def k148_3 : VC := .reg [oM 9 τ0,oD 10 (.callF 154 [τ9])]
def k148_4 : VC := .block 1 k148_3
def k148_5 : VC := .reg [oD 11 (.bin .add τ7 (.const (.int .i64 1))),oM 7 τ11]
def k148_6 : VC := .seq k148_4 k148_5
def k148_7 : VC := .seq k148_2 k148_6
def k148_8 : VC := .seq k148_1 k148_7
def k148_9 : VC := .loop k148_8
def k148_10 : VC := .block 0 k148_9
def k148_11 : VC := .seq k148_0 k148_10
def fn148 : VFn := ⟨12, k148_11, []⟩
def k154_0 : VC := .regD [oM 2 τ0,oD 3 (.nilCheck τ2),oD 4 (.idxAA 4 1 τ3 (.const (.int .i64 0))),oD 5 (.load1 (.int .u64) τ4),oM 6 τ0,oD 7 (.nilCheck τ6),oD 8 (.idxAA 4 1 τ7 (.const (.int .i64 1))),oD 9 (.load1 (.int .u64) τ8),oD 10 (.bin .add τ5 τ9),oD 11 (.nilCheck τ2)] [] [oD 12 (.idxAA 4 1 τ11 (.const (.int .i64 0))),oN (.store 1 τ12 τ10)]
def k154_1 : VC := .regD [oM 13 τ0,oM 14 τ0,oD 15 (.nilCheck τ14),oD 16 (.idxAA 4 1 τ15 (.const (.int .i64 1))),oD 17 (.load1 (.int .u64) τ16),oD 18 (.callF 159 [τ17, (.const (.int .i64 13))]),oM 19 τ0,oD 20 (.nilCheck τ19),oD 21 (.idxAA 4 1 τ20 (.const (.int .i64 0))),oD 22 (.load1 (.int .u64) τ21),oD 23 (.bin .xor τ18 τ22),oD 24 (.nilCheck τ13)] [(5, 9)] [oD 25 (.idxAA 4 1 τ24 (.const (.int .i64 1))),oN (.store 1 τ25 τ23)]
def k154_2 : VC := .regD [oM 26 τ0,oM 27 τ0,oD 28 (.nilCheck τ27),oD 29 (.idxAA 4 1 τ28 (.const (.int .i64 0))),oD 30 (.load1 (.int .u64) τ29),oD 31 (.callF 159 [τ30, (.const (.int .i64 32))]),oD 32 (.nilCheck τ26)] [] [oD 33 (.idxAA 4 1 τ32 (.const (.int .i64 0))),oN (.store 1 τ33 τ31)]
def k154_3 : VC := .regD [oM 34 τ0,oD 35 (.nilCheck τ34),oD 36 (.idxAA 4 1 τ35 (.const (.int .i64 2))),oD 37 (.load1 (.int .u64) τ36),oM 38 τ0,oD 39 (.nilCheck τ38),oD 40 (.idxAA 4 1 τ39 (.const (.int .i64 3))),oD 41 (.load1 (.int .u64) τ40),oD 42 (.bin .add τ37 τ41),oD 43 (.nilCheck τ34)] [] [oD 44 (.idxAA 4 1 τ43 (.const (.int .i64 2))),oN (.store 1 τ44 τ42)]
def k154_4 : VC := .regD [oM 45 τ0,oM 46 τ0,oD 47 (.nilCheck τ46),oD 48 (.idxAA 4 1 τ47 (.const (.int .i64 3))),oD 49 (.load1 (.int .u64) τ48),oD 50 (.callF 159 [τ49, (.const (.int .i64 16))]),oM 51 τ0,oD 52 (.nilCheck τ51),oD 53 (.idxAA 4 1 τ52 (.const (.int .i64 2))),oD 54 (.load1 (.int .u64) τ53),oD 55 (.bin .xor τ50 τ54),oD 56 (.nilCheck τ45)] [(5, 9)] [oD 57 (.idxAA 4 1 τ56 (.const (.int .i64 3))),oN (.store 1 τ57 τ55)]
def k154_5 : VC := .regD [oM 58 τ0,oD 59 (.nilCheck τ58),oD 60 (.idxAA 4 1 τ59 (.const (.int .i64 0))),oD 61 (.load1 (.int .u64) τ60),oM 62 τ0,oD 63 (.nilCheck τ62),oD 64 (.idxAA 4 1 τ63 (.const (.int .i64 3))),oD 65 (.load1 (.int .u64) τ64),oD 66 (.bin .add τ61 τ65),oD 67 (.nilCheck τ58)] [] [oD 68 (.idxAA 4 1 τ67 (.const (.int .i64 0))),oN (.store 1 τ68 τ66)]
def k154_6 : VC := .regD [oM 69 τ0,oM 70 τ0,oD 71 (.nilCheck τ70),oD 72 (.idxAA 4 1 τ71 (.const (.int .i64 3))),oD 73 (.load1 (.int .u64) τ72),oD 74 (.callF 159 [τ73, (.const (.int .i64 21))]),oM 75 τ0,oD 76 (.nilCheck τ75),oD 77 (.idxAA 4 1 τ76 (.const (.int .i64 0))),oD 78 (.load1 (.int .u64) τ77),oD 79 (.bin .xor τ74 τ78),oD 80 (.nilCheck τ69)] [(5, 9)] [oD 81 (.idxAA 4 1 τ80 (.const (.int .i64 3))),oN (.store 1 τ81 τ79)]
def k154_7 : VC := .regD [oM 82 τ0,oD 83 (.nilCheck τ82),oD 84 (.idxAA 4 1 τ83 (.const (.int .i64 2))),oD 85 (.load1 (.int .u64) τ84),oM 86 τ0,oD 87 (.nilCheck τ86),oD 88 (.idxAA 4 1 τ87 (.const (.int .i64 1))),oD 89 (.load1 (.int .u64) τ88),oD 90 (.bin .add τ85 τ89),oD 91 (.nilCheck τ82)] [] [oD 92 (.idxAA 4 1 τ91 (.const (.int .i64 2))),oN (.store 1 τ92 τ90)]
def k154_8 : VC := .regD [oM 93 τ0,oM 94 τ0,oD 95 (.nilCheck τ94),oD 96 (.idxAA 4 1 τ95 (.const (.int .i64 1))),oD 97 (.load1 (.int .u64) τ96),oD 98 (.callF 159 [τ97, (.const (.int .i64 17))]),oM 99 τ0,oD 100 (.nilCheck τ99),oD 101 (.idxAA 4 1 τ100 (.const (.int .i64 2))),oD 102 (.load1 (.int .u64) τ101),oD 103 (.bin .xor τ98 τ102),oD 104 (.nilCheck τ93)] [(5, 9)] [oD 105 (.idxAA 4 1 τ104 (.const (.int .i64 1))),oN (.store 1 τ105 τ103)]
def k154_9 : VC := .regD [oM 106 τ0,oM 107 τ0,oD 108 (.nilCheck τ107),oD 109 (.idxAA 4 1 τ108 (.const (.int .i64 2))),oD 110 (.load1 (.int .u64) τ109),oD 111 (.callF 159 [τ110, (.const (.int .i64 32))]),oD 112 (.nilCheck τ106)] [] [oD 113 (.idxAA 4 1 τ112 (.const (.int .i64 2))),oN (.store 1 τ113 τ111)]
def k154_10 : VC := .seq k154_8 k154_9
def k154_11 : VC := .seq k154_7 k154_10
def k154_12 : VC := .seq k154_6 k154_11
def k154_13 : VC := .seq k154_5 k154_12
def k154_14 : VC := .seq k154_4 k154_13
def k154_15 : VC := .seq k154_3 k154_14
def k154_16 : VC := .seq k154_2 k154_15
def k154_17 : VC := .seq k154_1 k154_16
def k154_18 : VC := .seq k154_0 k154_17
def fn154 : VFn := ⟨114, k154_18, []⟩
def k159_0 : VC := .reg [oD 4 (.mv (.const (.int .u64 0)))]
def k159_1 : VC := .reg [oM 6 τ1,oD 7 (.conv .u64 τ6),oD 8 (.bin .and τ7 (.const (.int .u64 63))),oM 5 τ8]
def k159_2 : VC := .reg [oM 9 τ0,oM 10 τ5,oD 11 (.bin .shl τ9 τ10),oM 12 τ0,oM 13 τ5,oD 14 (.bin .sub (.const (.int .u64 64)) τ13),oD 15 (.bin .shr τ12 τ14),oD 16 (.bin .or τ11 τ15),oM 4 τ16]
def k159_3 : VC := .seq k159_2 .ret
def k159_4 : VC := .seq k159_1 k159_3
def k159_5 : VC := .seq k159_0 k159_4
def fn159 : VFn := ⟨17, k159_5, [.tmp 4]⟩
def k134_0 : VC := .reg [oD 2 (.mv (.const (.int .u64 0)))]
def k134_1 : VC := .reg [oM 4 τ0,oD 5 (.isNil 0 false τ4),oM 6 τ5,oG 7 (.mv τ0) 6 false,oG 8 (.nilCheck τ7) 6 false,oG 9 (.fieldA 0 τ8) 6 false,oG 10 (.load1 .bool τ9) 6 false,oG 11 (.not τ10) 6 false,oD 12 (.pick τ6 (.const (.bool true)) τ11)]
def k134_2 : VC := .reg [oD 2 (.mv (.const (.int .u64 0)))]
def k134_3 : VC := .seq k134_2 .ret
def k134_4 : VC := .cond τ12 k134_3 .skip
def k134_5 : VC := .seq k134_1 k134_4
def k134_6 : VC := .reg [oM 13 τ0,oD 14 (.nilCheck τ13),oD 15 (.fieldA 1 τ14),oD 16 (.loadN [(.int .u64), (.int .u64), (.int .u64), (.int .u64)] τ15),oD 3 (.alloc [(.int .u64 0), (.int .u64 0), (.int .u64 0), (.int .u64 0)]),oN (.store 4 τ3 τ16)]
def k134_7 : VC := .regD [oM 17 τ0,oD 18 (.nilCheck τ17),oD 19 (.fieldA 5 τ18),oD 20 (.load1 (.int .u64) τ19),oM 21 τ0,oD 22 (.nilCheck τ21),oD 23 (.fieldA 6 τ22),oD 24 (.load1 (.int .i64) τ23),oD 25 (.conv .u64 τ24),oD 26 (.bin .shl τ25 (.const (.int .u64 56)))] [] [oD 27 (.bin .or τ20 τ26),oD 28 (.callF 147 [τ3, τ27])]
def k134_8 : VC := .reg [oD 29 (.idxAA 4 1 τ3 (.const (.int .i64 2))),oD 30 (.load1 (.int .u64) τ29),oD 31 (.bin .xor τ30 (.const (.int .u64 255))),oD 32 (.idxAA 4 1 τ3 (.const (.int .i64 2))),oN (.store 1 τ32 τ31)]
def k134_9 : VC := .reg [oD 33 (.callF 148 [τ3, (.const (.int .i64 4))])]
def k134_10 : VC := .reg [oD 34 (.idxAA 4 1 τ3 (.const (.int .i64 0))),oD 35 (.load1 (.int .u64) τ34),oD 36 (.idxAA 4 1 τ3 (.const (.int .i64 1))),oD 37 (.load1 (.int .u64) τ36),oD 38 (.bin .xor τ35 τ37),oD 39 (.idxAA 4 1 τ3 (.const (.int .i64 2))),oD 40 (.load1 (.int .u64) τ39),oD 41 (.bin .xor τ38 τ40),oD 42 (.idxAA 4 1 τ3 (.const (.int .i64 3))),oD 43 (.load1 (.int .u64) τ42),oD 44 (.bin .xor τ41 τ43),oM 2 τ44]
def k134_11 : VC := .seq k134_10 .ret
def k134_12 : VC := .seq k134_9 k134_11
def k134_13 : VC := .seq k134_8 k134_12
def k134_14 : VC := .seq k134_7 k134_13
def k134_15 : VC := .seq k134_6 k134_14
def k134_16 : VC := .seq k134_5 k134_15
def k134_17 : VC := .seq k134_0 k134_16
def fn134 : VFn := ⟨45, k134_17, [.tmp 2]⟩
def k48_0 : VC := .reg [oD 2 (.alloc [(.int .u64 0), (.int .u64 0), (.int .i64 0), (.slice none 0 0)]),oD 3 (.mv (.const (.int .i64 0)))]
def k48_1 : VC := .reg [oM 11 τ0,oD 12 (.lenS τ11),oD 13 (.bin .lss τ12 (.const (.int .i64 31)))]
def k48_2 : VC := .reg [oD 14 (.build [(.int .u64 0), (.int .u64 0), (.int .i64 0), (.slice none 0 0)] []),oN (.store 4 τ2 τ14),oD 3 (.mv (.const (.int .i64 2)))]
def k48_3 : VC := .seq k48_2 .ret
def k48_4 : VC := .cond τ13 k48_3 .skip
def k48_5 : VC := .seq k48_1 k48_4
def k48_6 : VC := .regD [oM 15 τ0,oM 16 τ0,oD 17 (.lenS τ16),oD 18 (.bin .sub τ17 (.const (.int .i64 8))),oD 19 (.sliceS τ15 none (some τ18)),oM 20 τ0,oM 21 τ0,oD 22 (.lenS τ21),oD 23 (.bin .sub τ22 (.const (.int .i64 8))),oD 24 (.sliceS τ20 (some τ23) none),oM 4 τ19] [] [oM 5 τ24]
def k48_7 : VC := .reg [oM 25 τ4,oD 26 (.callF 96 [τ25]),oM 6 τ26]
def k48_8 : VC := .reg [oM 28 τ6,oD 29 (.callF 97 [τ28, (.const (.int .i64 4))]),oD 30 (.bin .neq τ29 (.const (.string ⟨⟨[67, 76, 75, 49]⟩⟩))),oM 27 τ30]
def k48_9 : VC := .reg [oD 31 (.build [(.int .u64 0), (.int .u64 0), (.int .i64 0), (.slice none 0 0)] []),oN (.store 4 τ2 τ31),oD 3 (.mv (.const (.int .i64 3)))]
def k48_10 : VC := .seq k48_9 .ret
def k48_11 : VC := .reg [oM 33 τ4,oD 34 (.callF 98 [τ33]),oM 35 τ5,oD 36 (.bin .neq τ34 τ35),oM 32 τ36]
def k48_12 : VC := .reg [oD 37 (.build [(.int .u64 0), (.int .u64 0), (.int .i64 0), (.slice none 0 0)] []),oN (.store 4 τ2 τ37),oD 3 (.mv (.const (.int .i64 4)))]
def k48_13 : VC := .seq k48_12 .ret
def k48_14 : VC := .cond τ32 k48_13 .skip
def k48_15 : VC := .seq k48_11 k48_14
def k48_16 : VC := .cond τ27 k48_10 k48_15
def k48_17 : VC := .seq k48_8 k48_16
def k48_18 : VC := .block 0 k48_17
def k48_19 : VC := .reg [oD 38 (.build [(.int .u64 0), (.int .u64 0), (.int .i64 0), (.slice none 0 0)] []),oD 7 (.alloc [(.int .u64 0), (.int .u64 0), (.int .i64 0), (.slice none 0 0)]),oN (.store 4 τ7 τ38)]
def k48_20 : VC := .reg [oM 40 τ6,oD 41 (.callF 97 [τ40, (.const (.int .i64 8))]),oD 42 (.callF 99 [τ41, (.const (.int .i64 0)), (.const (.int .i64 8))]),oM 39 τ42,oE 43 0 τ39,oE 44 1 τ39,oD 45 (.fieldA 0 τ7),oD 46 (.fieldA 0 τ45),oN (.store 1 τ46 τ43)]
def k48_21 : VC := .reg [oM 48 τ6,oD 49 (.callF 97 [τ48, (.const (.int .i64 8))]),oD 50 (.callF 99 [τ49, (.const (.int .i64 0)), (.const (.int .i64 8))]),oM 47 τ50,oE 51 0 τ47,oE 52 1 τ47,oD 53 (.fieldA 0 τ7),oD 54 (.fieldA 1 τ53),oN (.store 1 τ54 τ51)]
def k48_22 : VC := .reg [oM 55 τ6,oD 56 (.callF 100 [τ55, (.const (.int .i64 2))]),oD 57 (.fieldA 2 τ7),oN (.store 1 τ57 τ56)]
def k48_23 : VC := .reg [oD 8 (.mv (.const (.bool true)))]
def k48_24 : VC := .reg [oM 58 τ6,oD 59 (.callF 100 [τ58, (.const (.int .i64 1))]),oD 60 (.mv (.const (.int .i64 0)))]
def k48_25 : VC := .reg [oD 61 (.bin .lss τ60 τ59)]
def k48_26 : VC := .cond τ61 .skip (.exit 1)
def k48_27 : VC := .reg [oM 63 τ6,oD 64 (.callF 101 [τ63]),oM 62 τ64,oE 65 0 τ62,oE 66 1 τ62,oD 9 (.alloc [(.int .i64 0), (.int .i64 0), (.int .i64 0), (.bool false), (.int .u64 0), (.int .u64 0)]),oN (.store 6 τ9 τ65),oM 10 τ66]
def k48_28 : VC := .reg [oM 67 τ8,oM 68 τ67,oG 69 (.mv τ10) 68 true,oD 70 (.pick τ68 τ69 (.const (.bool false))),oM 8 τ70]
def k48_29 : VC := .reg [oD 71 (.fieldA 3 τ7),oD 72 (.load1 .oth τ71),oD 73 (.loadN [(.int .i64), (.int .i64), (.int .i64), .bool, (.int .u64), (.int .u64)] τ9),oD 74 (.buildSl 1 6 [(.int .i64 0), (.int .i64 0), (.int .i64 0), (.bool false), (.int .u64 0), (.int .u64 0)] [(0, 6, τ73)]),oD 75 (.app 37 6 48 τ72 τ74),oD 76 (.fieldA 3 τ7),oN (.store 1 τ76 τ75)]
def k48_30 : VC := .seq k48_28 k48_29
def k48_31 : VC := .seq k48_27 k48_30
def k48_32 : VC := .block 2 k48_31
def k48_33 : VC := .reg [oD 77 (.bin .add τ60 (.const (.int .i64 1))),oM 60 τ77]
def k48_34 : VC := .seq k48_32 k48_33
def k48_35 : VC := .seq k48_26 k48_34
def k48_36 : VC := .seq k48_25 k48_35
def k48_37 : VC := .loop k48_36
def k48_38 : VC := .block 1 k48_37
def k48_39 : VC := .seq k48_24 k48_38
def k48_40 : VC := .reg [oM 79 τ6,oD 80 (.callF 102 [τ79]),oM 78 τ80]
def k48_41 : VC := .reg [oD 81 (.build [(.int .u64 0), (.int .u64 0), (.int .i64 0), (.slice none 0 0)] []),oN (.store 4 τ2 τ81),oD 3 (.mv (.const (.int .i64 2)))]
def k48_42 : VC := .seq k48_41 .ret
def k48_43 : VC := .reg [oM 83 τ6,oD 84 (.callF 103 [τ83]),oD 85 (.bin .neq τ84 (.const (.string ⟨⟨[]⟩⟩))),oM 86 τ85,oG 87 (.mv τ8) 86 false,oG 88 (.not τ87) 86 false,oD 89 (.pick τ86 (.const (.bool true)) τ88),oM 82 τ89]
def k48_44 : VC := .reg [oD 90 (.build [(.int .u64 0), (.int .u64 0), (.int .i64 0), (.slice none 0 0)] []),oN (.store 4 τ2 τ90),oD 3 (.mv (.const (.int .i64 3)))]
def k48_45 : VC := .seq k48_44 .ret
def k48_46 : VC := .reg [oD 92 (.loadN [(.int .u64), (.int .u64), (.int .i64), .oth] τ7),oD 93 (.callF 56 [τ92]),oD 94 (.not τ93),oM 91 τ94]
def k48_47 : VC := .reg [oD 95 (.build [(.int .u64 0), (.int .u64 0), (.int .i64 0), (.slice none 0 0)] []),oN (.store 4 τ2 τ95),oD 3 (.mv (.const (.int .i64 1)))]
def k48_48 : VC := .seq k48_47 .ret
def k48_49 : VC := .cond τ91 k48_48 .skip
def k48_50 : VC := .seq k48_46 k48_49
def k48_51 : VC := .cond τ82 k48_45 k48_50
def k48_52 : VC := .seq k48_43 k48_51
def k48_53 : VC := .cond τ78 k48_42 k48_52
def k48_54 : VC := .seq k48_40 k48_53
def k48_55 : VC := .block 3 k48_54
def k48_56 : VC := .reg [oD 96 (.loadN [(.int .u64), (.int .u64), (.int .i64), .oth] τ7),oN (.store 4 τ2 τ96),oD 3 (.mv (.const (.int .i64 0)))]
def k48_57 : VC := .seq k48_56 .ret
def k48_58 : VC := .seq k48_55 k48_57
def k48_59 : VC := .seq k48_39 k48_58
def k48_60 : VC := .seq k48_23 k48_59
def k48_61 : VC := .seq k48_22 k48_60
def k48_62 : VC := .seq k48_21 k48_61
def k48_63 : VC := .seq k48_20 k48_62
def k48_64 : VC := .seq k48_19 k48_63
def k48_65 : VC := .seq k48_18 k48_64
def k48_66 : VC := .seq k48_7 k48_65
def k48_67 : VC := .seq k48_6 k48_66
def k48_68 : VC := .seq k48_5 k48_67
def k48_69 : VC := .seq k48_0 k48_68
def fn48 : VFn := ⟨97, k48_69, [.cell 2 [(.int .u64), (.int .u64), (.int .i64), .oth] true, .tmp 3]⟩
def k96_0 : VC := .reg [oD 2 (.mv (.const (.pointer none)))]
def k96_1 : VC := .reg [oM 3 τ0,oD 4 (.build [(.string ⟨⟨[]⟩⟩), (.bool false), (.bool false)] [(0, 1, τ3), (1, 1, (.const (.bool true)))]),oD 5 (.box τ4),oM 2 τ5]
def k96_2 : VC := .seq k96_1 .ret
def k96_3 : VC := .seq k96_0 k96_2
def fn96 : VFn := ⟨6, k96_3, [.tmp 2]⟩
def k97_0 : VC := .reg [oD 4 (.mv (.const (.string ⟨⟨[]⟩⟩)))]
def k97_1 : VC := .reg [oM 6 τ0,oD 7 (.callF 102 [τ6])]
def k97_2 : VC := .reg [oD 4 (.mv (.const (.string ⟨⟨[]⟩⟩)))]
def k97_3 : VC := .seq k97_2 .ret
def k97_4 : VC := .cond τ7 k97_3 .skip
def k97_5 : VC := .seq k97_1 k97_4
def k97_6 : VC := .reg [oM 8 τ1,oD 9 (.bin .lss τ8 (.const (.int .i64 0))),oM 10 τ9,oG 11 (.mv τ1) 10 false,oG 12 (.mv τ0) 10 false,oG 13 (.nilCheck τ12) 10 false,oG 14 (.fieldA 0 τ13) 10 false,oG 15 (.load1 .str τ14) 10 false,oG 16 (.lenS τ15) 10 false,oG 17 (.bin .gtr τ11 τ16) 10 false,oD 18 (.pick τ10 (.const (.bool true)) τ17)]
def k97_7 : VC := .reg [oM 19 τ0,oD 20 (.nilCheck τ19),oD 21 (.fieldA 2 τ20),oN (.store 1 τ21 (.const (.bool true)))]
def k97_8 : VC := .reg [oD 4 (.mv (.const (.string ⟨⟨[]⟩⟩)))]
def k97_9 : VC := .seq k97_8 .ret
def k97_10 : VC := .seq k97_7 k97_9
def k97_11 : VC := .cond τ18 k97_10 .skip
def k97_12 : VC := .seq k97_6 k97_11
def k97_13 : VC := .reg [oM 22 τ0,oD 23 (.nilCheck τ22),oD 24 (.fieldA 0 τ23),oD 25 (.load1 .str τ24),oM 26 τ1,oD 27 (.sliceS τ25 none (some τ26)),oM 5 τ27]
def k97_14 : VC := .reg [oM 28 τ0,oM 29 τ0,oD 30 (.nilCheck τ29),oD 31 (.fieldA 0 τ30),oD 32 (.load1 .str τ31),oM 33 τ1,oD 34 (.sliceS τ32 (some τ33) none),oD 35 (.nilCheck τ28),oD 36 (.fieldA 0 τ35),oN (.store 1 τ36 τ34)]
def k97_15 : VC := .reg [oM 37 τ5,oM 4 τ37]
def k97_16 : VC := .seq k97_15 .ret
def k97_17 : VC := .seq k97_14 k97_16
def k97_18 : VC := .seq k97_13 k97_17
def k97_19 : VC := .seq k97_12 k97_18
def k97_20 : VC := .seq k97_5 k97_19
def k97_21 : VC := .seq k97_0 k97_20
def fn97 : VFn := ⟨38, k97_21, [.tmp 4]⟩
def k102_0 : VC := .reg [oD 2 (.mv (.const (.bool false)))]
def k102_1 : VC := .reg [oM 3 τ0,oD 4 (.isNil 0 false τ3),oM 5 τ4,oG 6 (.mv τ0) 5 false,oG 7 (.nilCheck τ6) 5 false,oG 8 (.fieldA 1 τ7) 5 false,oG 9 (.load1 .bool τ8) 5 false,oG 10 (.not τ9) 5 false,oD 11 (.pick τ5 (.const (.bool true)) τ10),oM 12 τ11,oG 13 (.mv τ0) 12 false,oG 14 (.nilCheck τ13) 12 false,oG 15 (.fieldA 2 τ14) 12 false,oG 16 (.load1 .bool τ15) 12 false,oD 17 (.pick τ12 (.const (.bool true)) τ16),oM 2 τ17]
def k102_2 : VC := .seq k102_1 .ret
def k102_3 : VC := .seq k102_0 k102_2
def fn102 : VFn := ⟨18, k102_3, [.tmp 2]⟩
def k99_0 : VC := .reg [oD 6 (.mv (.const (.int .u64 0))),oD 7 (.mv (.const (.bool false)))]
def k99_1 : VC := .reg [oM 11 τ2,oD 12 (.bin .lss τ11 (.const (.int .i64 1))),oM 13 τ12,oG 14 (.mv τ2) 13 false,oG 15 (.bin .gtr τ14 (.const (.int .i64 8))) 13 false,oD 16 (.pick τ13 (.const (.bool true)) τ15),oM 17 τ16,oG 18 (.mv τ1) 17 false,oG 19 (.bin .lss τ18 (.const (.int .i64 0))) 17 false,oD 20 (.pick τ17 (.const (.bool true)) τ19),oM 21 τ20,oG 22 (.mv τ0) 21 false,oG 23 (.lenS τ22) 21 false,oG 24 (.mv τ2) 21 false,oG 25 (.bin .sub τ23 τ24) 21 false,oG 26 (.mv τ1) 21 false,oG 27 (.bin .lss τ25 τ26) 21 false,oD 28 (.pick τ21 (.const (.bool true)) τ27)]
def k99_2 : VC := .reg [oD 6 (.mv (.const (.int .u64 0))),oD 7 (.mv (.const (.bool false)))]
def k99_3 : VC := .seq k99_2 .ret
def k99_4 : VC := .cond τ28 k99_3 .skip
def k99_5 : VC := .seq k99_1 k99_4
def k99_6 : VC := .reg [oD 8 (.mv (.const (.int .u64 0)))]
def k99_7 : VC := .reg [oM 29 τ0,oM 30 τ1,oM 31 τ1,oM 32 τ2,oD 33 (.bin .add τ31 τ32),oD 34 (.sliceS τ29 (some τ30) (some τ33)),oD 35 (.s2b τ34),oD 36 (.lenL τ35),oD 37 (.mv (.const (.int .i64 0)))]
def k99_8 : VC := .reg [oD 38 (.bin .lss τ37 τ36)]
def k99_9 : VC := .cond τ38 .skip (.exit 0)
def k99_10 : VC := .reg [oD 39 (.idxAL 1 τ35 τ37),oD 40 (.load1 (.int .u8) τ39),oM 10 τ40]
def k99_11 : VC := .reg [oM 41 τ8,oD 42 (.bin .shl τ41 (.const (.int .u64 8))),oM 43 τ10,oD 44 (.conv .u64 τ43),oD 45 (.bin .or τ42 τ44),oM 8 τ45]
def k99_12 : VC := .seq k99_10 k99_11
def k99_13 : VC := .block 1 k99_12
def k99_14 : VC := .reg [oD 46 (.bin .add τ37 (.const (.int .i64 1))),oM 37 τ46]
def k99_15 : VC := .seq k99_13 k99_14
def k99_16 : VC := .seq k99_9 k99_15
def k99_17 : VC := .seq k99_8 k99_16
def k99_18 : VC := .loop k99_17
def k99_19 : VC := .block 0 k99_18
def k99_20 : VC := .seq k99_7 k99_19
def k99_21 : VC := .reg [oM 47 τ8,oM 6 τ47,oD 7 (.mv (.const (.bool true)))]
def k99_22 : VC := .seq k99_21 .ret
def k99_23 : VC := .seq k99_20 k99_22
def k99_24 : VC := .seq k99_6 k99_23
def k99_25 : VC := .seq k99_5 k99_24
def k99_26 : VC := .seq k99_0 k99_25
def fn99 : VFn := ⟨48, k99_26, [.tmp 6, .tmp 7]⟩
def k100_0 : VC := .reg [oD 4 (.mv (.const (.int .i64 0)))]
def k100_1 : VC := .reg [oM 7 τ1,oD 8 (.bin .lss τ7 (.const (.int .i64 1))),oM 9 τ8,oG 10 (.mv τ1) 9 false,oG 11 (.bin .gtr τ10 (.const (.int .i64 7))) 9 false,oD 12 (.pick τ9 (.const (.bool true)) τ11)]
def k100_2 : VC := .reg [oD 1 (.mv (.const (.int .i64 (-1))))]
def k100_3 : VC := .cond τ12 k100_2 .skip
def k100_4 : VC := .seq k100_1 k100_3
def k100_5 : VC := .reg [oM 14 τ0,oM 15 τ1,oD 16 (.callF 97 [τ14, τ15]),oM 17 τ1,oD 18 (.callF 99 [τ16, (.const (.int .i64 0)), τ17]),oM 13 τ18,oE 19 0 τ13,oE 20 1 τ13,oM 5 τ19,oM 6 τ20]
def k100_6 : VC := .reg [oM 21 τ5,oD 22 (.conv .i64 τ21),oM 4 τ22]
def k100_7 : VC := .seq k100_6 .ret
def k100_8 : VC := .seq k100_5 k100_7
def k100_9 : VC := .seq k100_4 k100_8
def k100_10 : VC := .seq k100_0 k100_9
def fn100 : VFn := ⟨23, k100_10, [.tmp 4]⟩
def k101_0 : VC := .reg [oD 2 (.alloc [(.int .i64 0), (.int .i64 0), (.int .i64 0), (.bool false), (.int .u64 0), (.int .u64 0)]),oD 3 (.mv (.const (.bool false)))]
def k101_1 : VC := .reg [oM 7 τ0,oD 8 (.callF 100 [τ7, (.const (.int .i64 2))]),oM 9 τ0,oD 10 (.callF 100 [τ9, (.const (.int .i64 2))]),oM 11 τ0,oD 12 (.callF 100 [τ11, (.const (.int .i64 1))]),oD 13 (.build [(.int .i64 0), (.int .i64 0), (.int .i64 0), (.bool false), (.int .u64 0), (.int .u64 0)] [(0, 1, τ8), (1, 1, τ10), (2, 1, τ12)]),oD 4 (.alloc [(.int .i64 0), (.int .i64 0), (.int .i64 0), (.bool false), (.int .u64 0), (.int .u64 0)]),oN (.store 6 τ4 τ13)]
def k101_2 : VC := .reg [oM 15 τ0,oM 16 τ0,oD 17 (.callF 100 [τ16, (.const (.int .i64 1))]),oD 18 (.callF 97 [τ15, τ17]),oD 19 (.callF 138 [τ18]),oM 14 τ19,oE 20 0 τ14,oE 21 1 τ14,oD 5 (.alloc [(.bool false), (.int .u64 0), (.int .u64 0)]),oN (.store 3 τ5 τ20),oM 6 τ21]
def k101_3 : VC := .reg [oD 22 (.loadN [.bool, (.int .u64), (.int .u64)] τ5),oD 23 (.fieldA 3 τ4),oN (.store 3 τ23 τ22)]
def k101_4 : VC := .reg [oD 24 (.loadN [(.int .i64), (.int .i64), (.int .i64), .bool, (.int .u64), (.int .u64)] τ4),oM 25 τ6,oN (.store 6 τ2 τ24),oM 3 τ25]
def k101_5 : VC := .seq k101_4 .ret
def k101_6 : VC := .seq k101_3 k101_5
def k101_7 : VC := .seq k101_2 k101_6
def k101_8 : VC := .seq k101_1 k101_7
def k101_9 : VC := .seq k101_0 k101_8
def fn101 : VFn := ⟨26, k101_9, [.cell 2 [(.int .i64), (.int .i64), (.int .i64), .bool, (.int .u64), (.int .u64)] true, .tmp 3]⟩
def k138_0 : VC := .reg [oD 2 (.alloc [(.bool false), (.int .u64 0), (.int .u64 0)]),oD 3 (.mv (.const (.bool false)))]
def k138_1 : VC := .reg [oM 7 τ0,oD 8 (.lenS τ7)]
def k138_2 : VC := .reg [oD 10 (.bin .eql τ8 (.const (.int .i64 4))),oM 9 τ10]
def k138_3 : VC := .reg [oM 12 τ0,oD 13 (.callF 99 [τ12, (.const (.int .i64 0)), (.const (.int .i64 4))]),oM 11 τ13,oE 14 0 τ11,oE 15 1 τ11,oM 4 τ14,oM 5 τ15]
def k138_4 : VC := .reg [oM 16 τ4,oD 17 (.build [(.bool false), (.int .u64 0), (.int .u64 0)] [(2, 1, τ16)]),oN (.store 3 τ2 τ17),oD 3 (.mv (.const (.bool true)))]
def k138_5 : VC := .seq k138_4 .ret
def k138_6 : VC := .seq k138_3 k138_5
def k138_7 : VC := .reg [oD 19 (.bin .eql τ8 (.const (.int .i64 16))),oM 18 τ19]
def k138_8 : VC := .reg [oD 20 (.build [(.bool false), (.int .u64 0), (.int .u64 0)] [(0, 1, (.const (.bool true)))]),oD 6 (.alloc [(.bool false), (.int .u64 0), (.int .u64 0)]),oN (.store 3 τ6 τ20)]
def k138_9 : VC := .reg [oM 22 τ0,oD 23 (.callF 99 [τ22, (.const (.int .i64 0)), (.const (.int .i64 8))]),oM 21 τ23,oE 24 0 τ21,oE 25 1 τ21,oD 26 (.fieldA 1 τ6),oN (.store 1 τ26 τ24)]
def k138_10 : VC := .reg [oM 28 τ0,oD 29 (.callF 99 [τ28, (.const (.int .i64 8)), (.const (.int .i64 8))]),oM 27 τ29,oE 30 0 τ27,oE 31 1 τ27,oD 32 (.fieldA 2 τ6),oN (.store 1 τ32 τ30)]
def k138_11 : VC := .reg [oD 33 (.loadN [.bool, (.int .u64), (.int .u64)] τ6),oN (.store 3 τ2 τ33),oD 3 (.mv (.const (.bool true)))]
def k138_12 : VC := .seq k138_11 .ret
def k138_13 : VC := .seq k138_10 k138_12
def k138_14 : VC := .seq k138_9 k138_13
def k138_15 : VC := .seq k138_8 k138_14
def k138_16 : VC := .cond τ18 k138_15 .skip
def k138_17 : VC := .seq k138_7 k138_16
def k138_18 : VC := .cond τ9 k138_6 k138_17
def k138_19 : VC := .seq k138_2 k138_18
def k138_20 : VC := .block 0 k138_19
def k138_21 : VC := .seq k138_1 k138_20
def k138_22 : VC := .reg [oD 34 (.build [(.bool false), (.int .u64 0), (.int .u64 0)] []),oN (.store 3 τ2 τ34),oD 3 (.mv (.const (.bool false)))]
def k138_23 : VC := .seq k138_22 .ret
def k138_24 : VC := .seq k138_21 k138_23
def k138_25 : VC := .seq k138_0 k138_24
def fn138 : VFn := ⟨35, k138_25, [.cell 2 [.bool, (.int .u64), (.int .u64)] true, .tmp 3]⟩
def k103_0 : VC := .reg [oD 2 (.mv (.const (.string ⟨⟨[]⟩⟩)))]
def k103_1 : VC := .reg [oM 3 τ0,oD 4 (.callF 102 [τ3])]
def k103_2 : VC := .reg [oD 2 (.mv (.const (.string ⟨⟨[]⟩⟩)))]
def k103_3 : VC := .seq k103_2 .ret
def k103_4 : VC := .cond τ4 k103_3 .skip
def k103_5 : VC := .seq k103_1 k103_4
def k103_6 : VC := .reg [oM 5 τ0,oM 6 τ0,oD 7 (.nilCheck τ6),oD 8 (.fieldA 0 τ7),oD 9 (.load1 .str τ8),oD 10 (.lenS τ9),oD 11 (.callF 97 [τ5, τ10]),oM 2 τ11]
def k103_7 : VC := .seq k103_6 .ret
def k103_8 : VC := .seq k103_5 k103_7
def k103_9 : VC := .seq k103_0 k103_8
def fn103 : VFn := ⟨12, k103_9, [.tmp 2]⟩
def k58_0 : VC := .reg [oD 3 (.box τ0),oD 6 (.alloc [(.int .u64 0), (.int .u64 0), (.int .i64 0), (.slice none 0 0)])]
def k58_1 : VC := .reg [oD 10 (.loadN [(.int .u64), (.int .u64)] τ3),oM 11 τ1,oD 12 (.build [(.int .u64 0), (.int .u64 0), (.int .i64 0), (.slice none 0 0)] [(0, 2, τ10), (2, 1, τ11)]),oD 7 (.alloc [(.int .u64 0), (.int .u64 0), (.int .i64 0), (.slice none 0 0)]),oN (.store 4 τ7 τ12)]
def k58_2 : VC := .reg [oM 13 τ2,oD 14 (.lenL τ13),oD 15 (.mv (.const (.int .i64 0)))]
def k58_3 : VC := .reg [oD 16 (.bin .lss τ15 τ14)]
def k58_4 : VC := .cond τ16 .skip (.exit 0)
def k58_5 : VC := .reg [oD 17 (.idxAL 6 τ13 τ15),oD 18 (.loadN [(.int .i64), (.int .i64), (.int .i64), .bool, (.int .u64), (.int .u64)] τ17),oD 9 (.alloc [(.int .i64 0), (.int .i64 0), (.int .i64 0), (.bool false), (.int .u64 0), (.int .u64 0)]),oN (.store 6 τ9 τ18)]
def k58_6 : VC := .reg [oD 19 (.fieldA 2 τ9),oD 20 (.load1 (.int .i64) τ19)]
def k58_7 : VC := .reg [oD 23 (.bin .eql τ20 (.const (.int .i64 4))),oM 22 τ23]
def k58_8 : VC := .reg [oD 25 (.bin .eql τ20 (.const (.int .i64 3))),oM 24 τ25]
def k58_9 : VC := .reg [oD 21 (.fieldA 2 τ9),oN (.store 1 τ21 (.const (.int .i64 1)))]
def k58_10 : VC := .cond τ24 .skip k58_9
def k58_11 : VC := .seq k58_8 k58_10
def k58_12 : VC := .cond τ22 (.exit 1) k58_11
def k58_13 : VC := .seq k58_7 k58_12
def k58_14 : VC := .block 2 k58_13
def k58_15 : VC := .seq k58_6 k58_14
def k58_16 : VC := .reg [oD 26 (.fieldA 3 τ7),oD 27 (.load1 .oth τ26),oD 28 (.loadN [(.int .i64), (.int .i64), (.int .i64), .bool, (.int .u64), (.int .u64)] τ9),oD 29 (.buildSl 1 6 [(.int .i64 0), (.int .i64 0), (.int .i64 0), (.bool false), (.int .u64 0), (.int .u64 0)] [(0, 6, τ28)]),oD 30 (.app 37 6 48 τ27 τ29),oD 31 (.fieldA 3 τ7),oN (.store 1 τ31 τ30)]
def k58_17 : VC := .seq k58_15 k58_16
def k58_18 : VC := .seq k58_5 k58_17
def k58_19 : VC := .block 1 k58_18
def k58_20 : VC := .reg [oD 32 (.bin .add τ15 (.const (.int .i64 1))),oM 15 τ32]
def k58_21 : VC := .seq k58_19 k58_20
def k58_22 : VC := .seq k58_4 k58_21
def k58_23 : VC := .seq k58_3 k58_22
def k58_24 : VC := .loop k58_23
def k58_25 : VC := .block 0 k58_24
def k58_26 : VC := .seq k58_2 k58_25
def k58_27 : VC := .reg [oD 33 (.loadN [(.int .u64), (.int .u64), (.int .i64), .oth] τ7),oN (.store 4 τ6 τ33)]
def k58_28 : VC := .seq k58_27 .ret
def k58_29 : VC := .seq k58_26 k58_28
def k58_30 : VC := .seq k58_1 k58_29
def k58_31 : VC := .seq k58_0 k58_30
def fn58 : VFn := ⟨34, k58_31, [.cell 6 [(.int .u64), (.int .u64), (.int .i64), .oth] true]⟩
def k54_0 : VC := .reg [oD 1 (.box τ0),oD 2 (.alloc [(.int .u64 0), (.int .u64 0), (.int .i64 0), (.slice none 0 0)])]
def k54_1 : VC := .reg [oD 3 (.fieldA 0 τ1),oD 4 (.loadN [(.int .u64), (.int .u64)] τ3),oD 5 (.fieldA 2 τ1),oD 6 (.load1 (.int .i64) τ5),oD 7 (.fieldA 3 τ1),oD 8 (.load1 .oth τ7),oD 9 (.build [(.int .u64 0), (.int .u64 0), (.int .i64 0), (.slice none 0 0)] [(0, 2, τ4), (2, 1, τ6), (3, 1, τ8)]),oN (.store 4 τ2 τ9)]
def k54_2 : VC := .seq k54_1 .ret
def k54_3 : VC := .seq k54_0 k54_2
def fn54 : VFn := ⟨10, k54_3, [.cell 2 [(.int .u64), (.int .u64), (.int .i64), .oth] true]⟩
def k55_0 : VC := .reg [oD 1 (.box τ0),oD 2 (.mv (.const (.string ⟨⟨[]⟩⟩))),oD 3 (.mv (.const (.int .i64 0)))]
def k55_1 : VC := .reg [oD 7 (.loadN [(.int .u64), (.int .u64), (.int .i64), .oth] τ1),oD 8 (.callF 57 [τ7]),oD 9 (.not τ8)]
def k55_2 : VC := .reg [oD 2 (.mv (.const (.string ⟨⟨[]⟩⟩))),oD 3 (.mv (.const (.int .i64 1)))]
def k55_3 : VC := .seq k55_2 .ret
def k55_4 : VC := .cond τ9 k55_3 .skip
def k55_5 : VC := .seq k55_1 k55_4
def k55_6 : VC := .regD [oD 10 (.fieldA 0 τ1),oD 11 (.fieldA 0 τ10),oD 12 (.load1 (.int .u64) τ11),oD 13 (.callF 104 [τ12, (.const (.int .i64 8))]),oD 14 (.bin .add (.const (.string ⟨⟨[67, 76, 75, 49]⟩⟩)) τ13),oD 15 (.fieldA 0 τ1),oD 16 (.fieldA 1 τ15),oD 17 (.load1 (.int .u64) τ16),oD 18 (.callF 104 [τ17, (.const (.int .i64 8))]),oD 19 (.bin .add τ14 τ18),oD 20 (.fieldA 2 τ1),oD 21 (.load1 (.int .i64) τ20),oD 22 (.callF 111 [τ21, (.const (.int .i64 2))]),oD 23 (.bin .add τ19 τ22),oD 24 (.fieldA 3 τ1),oD 25 (.load1 .oth τ24),oD 26 (.lenL τ25),oD 27 (.callF 111 [τ26, (.const (.int .i64 1))])] [(3, 7), (3, 11), (3, 15), (8, 11), (8, 15), (12, 15)] [oD 28 (.bin .add τ23 τ27),oM 4 τ28]
def k55_7 : VC := .reg [oD 5 (.mv (.const (.int .i64 0)))]
def k55_8 : VC := .reg [oM 29 τ5,oD 30 (.fieldA 3 τ1),oD 31 (.load1 .oth τ30),oD 32 (.lenL τ31),oD 33 (.bin .lss τ29 τ32)]
def k55_9 : VC := .cond τ33 .skip (.exit 0)
def k55_10 : VC := .seq k55_8 k55_9
def k55_11 : VC := .reg [oD 36 (.fieldA 3 τ1),oD 37 (.load1 .oth τ36),oM 38 τ5,oD 39 (.idxAL 6 τ37 τ38),oD 40 (.fieldA 3 τ39),oD 41 (.loadN [.bool, (.int .u64), (.int .u64)] τ40),oD 42 (.callF 112 [τ41]),oM 6 τ42]
def k55_12 : VC := .regD [oM 43 τ4,oD 44 (.fieldA 3 τ1),oD 45 (.load1 .oth τ44),oM 46 τ5,oD 47 (.idxAL 6 τ45 τ46),oD 48 (.fieldA 0 τ47),oD 49 (.load1 (.int .i64) τ48),oD 50 (.callF 111 [τ49, (.const (.int .i64 2))]),oD 51 (.bin .add τ43 τ50),oD 52 (.fieldA 3 τ1),oD 53 (.load1 .oth τ52),oM 54 τ5,oD 55 (.idxAL 6 τ53 τ54),oD 56 (.fieldA 1 τ55),oD 57 (.load1 (.int .i64) τ56),oD 58 (.callF 111 [τ57, (.const (.int .i64 2))]),oD 59 (.bin .add τ51 τ58),oD 60 (.fieldA 3 τ1),oD 61 (.load1 .oth τ60),oM 62 τ5,oD 63 (.idxAL 6 τ61 τ62),oD 64 (.fieldA 2 τ63),oD 65 (.load1 (.int .i64) τ64),oD 66 (.callF 111 [τ65, (.const (.int .i64 1))]),oD 67 (.bin .add τ59 τ66),oM 68 τ6,oD 69 (.lenS τ68),oD 70 (.callF 111 [τ69, (.const (.int .i64 1))]),oD 71 (.bin .add τ67 τ70),oM 72 τ6] [(7, 10), (7, 14), (7, 18), (7, 22), (15, 18), (15, 22)] [oD 73 (.bin .add τ71 τ72),oM 4 τ73]
def k55_13 : VC := .seq k55_11 k55_12
def k55_14 : VC := .block 1 k55_13
def k55_15 : VC := .reg [oM 34 τ5,oD 35 (.bin .add τ34 (.const (.int .i64 1))),oM 5 τ35]
def k55_16 : VC := .seq k55_14 k55_15
def k55_17 : VC := .seq k55_10 k55_16
def k55_18 : VC := .loop k55_17
def k55_19 : VC := .block 0 k55_18
def k55_20 : VC := .seq k55_7 k55_19
def k55_21 : VC := .reg [oM 74 τ4,oM 75 τ4,oD 76 (.callF 49 [τ75]),oD 77 (.bin .add τ74 τ76),oM 2 τ77,oD 3 (.mv (.const (.int .i64 0)))]
def k55_22 : VC := .seq k55_21 .ret
def k55_23 : VC := .seq k55_20 k55_22
def k55_24 : VC := .seq k55_6 k55_23
def k55_25 : VC := .seq k55_5 k55_24
def k55_26 : VC := .seq k55_0 k55_25
def fn55 : VFn := ⟨78, k55_26, [.tmp 2, .tmp 3]⟩
def k57_0 : VC := .reg [oD 1 (.box τ0),oD 2 (.mv (.const (.bool false)))]
def k57_1 : VC := .reg [oD 6 (.fieldA 2 τ1),oD 7 (.load1 (.int .i64) τ6),oD 8 (.bin .lss τ7 (.const (.int .i64 0))),oM 9 τ8,oG 10 (.fieldA 2 τ1) 9 false,oG 11 (.load1 (.int .i64) τ10) 9 false,oG 12 (.bin .gtr τ11 (.const (.int .i64 65535))) 9 false,oD 13 (.pick τ9 (.const (.bool true)) τ12),oM 14 τ13,oG 15 (.fieldA 3 τ1) 14 false,oG 16 (.load1 .oth τ15) 14 false,oG 17 (.lenL τ16) 14 false,oG 18 (.bin .gtr τ17 (.const (.int .i64 64))) 14 false,oD 19 (.pick τ14 (.const (.bool true)) τ18)]
def k57_2 : VC := .reg [oD 2 (.mv (.const (.bool false)))]
def k57_3 : VC := .seq k57_2 .ret
def k57_4 : VC := .cond τ19 k57_3 .skip
def k57_5 : VC := .seq k57_1 k57_4
def k57_6 : VC := .reg [oD 3 (.mv (.const (.int .i64 0)))]
def k57_7 : VC := .reg [oD 4 (.mv (.const (.int .i64 0)))]
def k57_8 : VC := .reg [oM 20 τ4,oD 21 (.fieldA 3 τ1),oD 22 (.load1 .oth τ21),oD 23 (.lenL τ22),oD 24 (.bin .lss τ20 τ23)]
def k57_9 : VC := .cond τ24 .skip (.exit 0)
def k57_10 : VC := .seq k57_8 k57_9
def k57_11 : VC := .reg [oD 27 (.fieldA 3 τ1),oD 28 (.load1 .oth τ27),oM 29 τ4,oD 30 (.idxAL 6 τ28 τ29),oD 31 (.loadN [(.int .i64), (.int .i64), (.int .i64), .bool, (.int .u64), (.int .u64)] τ30),oD 5 (.alloc [(.int .i64 0), (.int .i64 0), (.int .i64 0), (.bool false), (.int .u64 0), (.int .u64 0)]),oN (.store 6 τ5 τ31)]
def k57_12 : VC := .reg [oD 32 (.fieldA 0 τ5),oD 33 (.load1 (.int .i64) τ32),oM 34 τ3,oD 35 (.bin .leq τ33 τ34),oM 36 τ35,oG 37 (.fieldA 0 τ5) 36 false,oG 38 (.load1 (.int .i64) τ37) 36 false,oG 39 (.fieldA 2 τ1) 36 false,oG 40 (.load1 (.int .i64) τ39) 36 false,oG 41 (.bin .gtr τ38 τ40) 36 false,oD 42 (.pick τ36 (.const (.bool true)) τ41),oM 43 τ42,oG 44 (.fieldA 1 τ5) 43 false,oG 45 (.load1 (.int .i64) τ44) 43 false,oG 46 (.bin .lss τ45 (.const (.int .i64 0))) 43 false,oD 47 (.pick τ43 (.const (.bool true)) τ46),oM 48 τ47,oG 49 (.fieldA 1 τ5) 48 false,oG 50 (.load1 (.int .i64) τ49) 48 false,oG 51 (.bin .gtr τ50 (.const (.int .i64 1000))) 48 false,oD 52 (.pick τ48 (.const (.bool true)) τ51),oM 53 τ52,oG 54 (.fieldA 2 τ5) 53 false,oG 55 (.load1 (.int .i64) τ54) 53 false,oG 56 (.bin .neq τ55 (.const (.int .i64 1))) 53 false,oG 57 (.mv τ56) 53 false,oG 58 (.fieldA 2 τ5) 57 true,oG 59 (.load1 (.int .i64) τ58) 57 true,oG 60 (.bin .neq τ59 (.const (.int .i64 3))) 57 true,oG 61 (.pick τ57 τ60 (.const (.bool false))) 53 false,oD 62 (.pick τ53 (.const (.bool true)) τ61),oM 63 τ62,oG 64 (.fieldA 3 τ5) 63 false,oG 65 (.loadN [.bool, (.int .u64), (.int .u64)] τ64) 63 false,oG 66 (.callF 115 [τ65]) 63 false,oG 67 (.not τ66) 63 false,oD 68 (.pick τ63 (.const (.bool true)) τ67)]
def k57_13 : VC := .reg [oD 2 (.mv (.const (.bool false)))]
def k57_14 : VC := .seq k57_13 .ret
def k57_15 : VC := .cond τ68 k57_14 .skip
def k57_16 : VC := .seq k57_12 k57_15
def k57_17 : VC := .reg [oD 69 (.fieldA 0 τ5),oD 70 (.load1 (.int .i64) τ69),oM 3 τ70]
def k57_18 : VC := .seq k57_16 k57_17
def k57_19 : VC := .seq k57_11 k57_18
def k57_20 : VC := .block 1 k57_19
def k57_21 : VC := .reg [oM 25 τ4,oD 26 (.bin .add τ25 (.const (.int .i64 1))),oM 4 τ26]
def k57_22 : VC := .seq k57_20 k57_21
def k57_23 : VC := .seq k57_10 k57_22
def k57_24 : VC := .loop k57_23
def k57_25 : VC := .block 0 k57_24
def k57_26 : VC := .seq k57_7 k57_25
def k57_27 : VC := .reg [oD 2 (.mv (.const (.bool true)))]
def k57_28 : VC := .seq k57_27 .ret
def k57_29 : VC := .seq k57_26 k57_28
def k57_30 : VC := .seq k57_6 k57_29
def k57_31 : VC := .seq k57_5 k57_30
def k57_32 : VC := .seq k57_0 k57_31
def fn57 : VFn := ⟨71, k57_32, [.tmp 2]⟩
def k115_0 : VC := .reg [oD 1 (.box τ0),oD 2 (.mv (.const (.bool false)))]
def k115_1 : VC := .reg [oD 3 (.fieldA 0 τ1),oD 4 (.load1 .bool τ3),oM 5 τ4,oG 6 (.fieldA 1 τ1) 5 false,oG 7 (.load1 (.int .u64) τ6) 5 false,oG 8 (.bin .eql τ7 (.const (.int .u64 0))) 5 false,oG 9 (.mv τ8) 5 false,oG 10 (.fieldA 2 τ1) 9 true,oG 11 (.load1 (.int .u64) τ10) 9 true,oG 12 (.bin .lss τ11 (.const (.int .u64 4294967296))) 9 true,oG 13 (.pick τ9 τ12 (.const (.bool false))) 5 false,oD 14 (.pick τ5 (.const (.bool true)) τ13),oM 2 τ14]
def k115_2 : VC := .seq k115_1 .ret
def k115_3 : VC := .seq k115_0 k115_2
def fn115 : VFn := ⟨15, k115_3, [.tmp 2]⟩
def k104_0 : VC := .reg [oD 4 (.mv (.const (.string ⟨⟨[]⟩⟩)))]
def k104_1 : VC := .reg [oD 5 (.mv (.const (.string ⟨⟨[]⟩⟩)))]
def k104_2 : VC := .reg [oD 6 (.mv (.const (.int .i64 0)))]
def k104_3 : VC := .reg [oM 7 τ6,oM 8 τ1,oD 9 (.bin .lss τ7 τ8),oM 10 τ9,oG 11 (.mv τ1) 10 true,oG 12 (.bin .leq τ11 (.const (.int .i64 8))) 10 true,oD 13 (.pick τ10 τ12 (.const (.bool false)))]
def k104_4 : VC := .cond τ13 .skip (.exit 0)
def k104_5 : VC := .seq k104_3 k104_4
def k104_6 : VC := .reg [oM 16 τ0,oD 17 (.bin .rem τ16 (.const (.int .u64 256))),oD 18 (.conv .u8 τ17),oD 19 (.buildSl 1 1 [(.int .u8 0)] [(0, 1, τ18)]),oD 20 (.b2s τ19),oM 21 τ5,oD 22 (.bin .add τ20 τ21),oM 5 τ22]
def k104_7 : VC := .reg [oM 23 τ0,oD 24 (.bin .quo τ23 (.const (.int .u64 256))),oM 0 τ24]
def k104_8 : VC := .seq k104_6 k104_7
def k104_9 : VC := .block 1 k104_8
def k104_10 : VC := .reg [oM 14 τ6,oD 15 (.bin .add τ14 (.const (.int .i64 1))),oM 6 τ15]
def k104_11 : VC := .seq k104_9 k104_10
def k104_12 : VC := .seq k104_5 k104_11
def k104_13 : VC := .loop k104_12
def k104_14 : VC := .block 0 k104_13
def k104_15 : VC := .seq k104_2 k104_14
def k104_16 : VC := .reg [oM 25 τ5,oM 4 τ25]
def k104_17 : VC := .seq k104_16 .ret
def k104_18 : VC := .seq k104_15 k104_17
def k104_19 : VC := .seq k104_1 k104_18
def k104_20 : VC := .seq k104_0 k104_19
def fn104 : VFn := ⟨26, k104_20, [.tmp 4]⟩
def k111_0 : VC := .reg [oD 4 (.mv (.const (.string ⟨⟨[]⟩⟩)))]
def k111_1 : VC := .reg [oM 5 τ0,oD 6 (.conv .u64 τ5),oM 7 τ1,oD 8 (.callF 104 [τ6, τ7]),oM 4 τ8]
def k111_2 : VC := .seq k111_1 .ret
def k111_3 : VC := .seq k111_0 k111_2
def fn111 : VFn := ⟨9, k111_3, [.tmp 4]⟩
def k112_0 : VC := .reg [oD 1 (.box τ0),oD 2 (.mv (.const (.string ⟨⟨[]⟩⟩)))]
def k112_1 : VC := .reg [oD 3 (.loadN [.bool, (.int .u64), (.int .u64)] τ1),oD 4 (.callF 115 [τ3]),oD 5 (.not τ4)]
def k112_2 : VC := .reg [oD 2 (.mv (.const (.string ⟨⟨[]⟩⟩)))]
def k112_3 : VC := .seq k112_2 .ret
def k112_4 : VC := .cond τ5 k112_3 .skip
def k112_5 : VC := .seq k112_1 k112_4
def k112_6 : VC := .reg [oD 6 (.fieldA 0 τ1),oD 7 (.load1 .bool τ6)]
def k112_7 : VC := .regD [oD 8 (.fieldA 1 τ1),oD 9 (.load1 (.int .u64) τ8),oD 10 (.callF 104 [τ9, (.const (.int .i64 8))]),oD 11 (.fieldA 2 τ1),oD 12 (.load1 (.int .u64) τ11)] [(2, 4)] [oD 13 (.callF 104 [τ12, (.const (.int .i64 8))]),oD 14 (.bin .add τ10 τ13),oM 2 τ14]
def k112_8 : VC := .seq k112_7 .ret
def k112_9 : VC := .cond τ7 k112_8 .skip
def k112_10 : VC := .seq k112_6 k112_9
def k112_11 : VC := .reg [oD 15 (.fieldA 2 τ1),oD 16 (.load1 (.int .u64) τ15),oD 17 (.callF 104 [τ16, (.const (.int .i64 4))]),oM 2 τ17]
def k112_12 : VC := .seq k112_11 .ret
def k112_13 : VC := .seq k112_10 k112_12
def k112_14 : VC := .seq k112_5 k112_13
def k112_15 : VC := .seq k112_0 k112_14
def fn112 : VFn := ⟨18, k112_15, [.tmp 2]⟩
def k49_0 : VC := .reg [oD 2 (.mv (.const (.string ⟨⟨[]⟩⟩)))]
def k49_1 : VC := .reg [oD 3 (.build [(.int .u64 0), (.int .u64 0)] [(0, 1, (.const (.int .u64 1))), (1, 1, (.const (.int .u64 2)))]),oM 4 τ0,oD 5 (.callF 95 [τ3, τ4]),oD 6 (.callF 104 [τ5, (.const (.int .i64 8))]),oM 2 τ6]
def k49_2 : VC := .seq k49_1 .ret
def k49_3 : VC := .seq k49_0 k49_2
def fn49 : VFn := ⟨7, k49_3, [.tmp 2]⟩
def k95_0 : VC := .reg [oD 2 (.box τ0),oD 4 (.mv (.const (.int .u64 0)))]
def k95_1 : VC := .regD [oD 14 (.fieldA 0 τ2),oD 15 (.load1 (.int .u64) τ14),oD 16 (.bin .xor (.const (.int .u64 8317987319222330741)) τ15),oD 17 (.fieldA 1 τ2),oD 18 (.load1 (.int .u64) τ17),oD 19 (.bin .xor (.const (.int .u64 7237128888997146477)) τ18),oM 5 τ16] [] [oM 6 τ19]
def k95_2 : VC := .regD [oD 20 (.fieldA 0 τ2),oD 21 (.load1 (.int .u64) τ20),oD 22 (.bin .xor (.const (.int .u64 7816392313619706465)) τ21),oD 23 (.fieldA 1 τ2),oD 24 (.load1 (.int .u64) τ23),oD 25 (.bin .xor (.const (.int .u64 8387220255154660723)) τ24),oM 7 τ22] [] [oM 8 τ25]
def k95_3 : VC := .reg [oM 26 τ1,oD 27 (.lenS τ26),oD 28 (.bin .quo τ27 (.const (.int .i64 8))),oD 29 (.bin .mul τ28 (.const (.int .i64 8))),oM 9 τ29]
def k95_4 : VC := .reg [oD 10 (.mv (.const (.int .i64 0)))]
def k95_5 : VC := .reg [oM 30 τ10,oM 31 τ9,oD 32 (.bin .leq τ30 τ31)]
def k95_6 : VC := .cond τ32 .skip (.exit 0)
def k95_7 : VC := .seq k95_5 k95_6
def k95_8 : VC := .reg [oM 35 τ1,oM 36 τ10,oM 37 τ10,oD 38 (.bin .add τ37 (.const (.int .i64 8))),oM 39 τ1,oD 40 (.lenS τ39),oD 41 (.minmax false [τ38, τ40]),oD 42 (.sliceS τ35 (some τ36) (some τ41)),oD 43 (.callF 135 [τ42]),oM 11 τ43]
def k95_9 : VC := .reg [oM 44 τ10,oM 45 τ9,oD 46 (.bin .eql τ44 τ45)]
def k95_10 : VC := .reg [oM 47 τ1,oM 48 τ10,oD 49 (.sliceS τ47 (some τ48) none),oD 50 (.callF 135 [τ49]),oM 51 τ1,oD 52 (.lenS τ51),oD 53 (.bin .rem τ52 (.const (.int .i64 256))),oD 54 (.conv .u64 τ53),oD 55 (.bin .shl τ54 (.const (.int .u64 56))),oD 56 (.bin .add τ50 τ55),oM 11 τ56]
def k95_11 : VC := .cond τ46 k95_10 .skip
def k95_12 : VC := .seq k95_9 k95_11
def k95_13 : VC := .reg [oM 57 τ8,oM 58 τ11,oD 59 (.bin .xor τ57 τ58),oM 8 τ59]
def k95_14 : VC := .reg [oD 12 (.mv (.const (.int .i64 0)))]
def k95_15 : VC := .reg [oM 60 τ12,oD 61 (.bin .lss τ60 (.const (.int .i64 2)))]
def k95_16 : VC := .cond τ61 .skip (.exit 2)
def k95_17 : VC := .seq k95_15 k95_16
def k95_18 : VC := .reg [oM 65 τ5,oM 66 τ6,oM 67 τ7,oM 68 τ8,oD 69 (.callF 136 [τ65, τ66, τ67, τ68]),oM 64 τ69,oE 70 0 τ64,oE 71 1 τ64,oE 72 2 τ64,oE 73 3 τ64,oM 5 τ70,oM 6 τ71,oM 7 τ72,oM 8 τ73]
def k95_19 : VC := .block 3 k95_18
def k95_20 : VC := .reg [oM 62 τ12,oD 63 (.bin .add τ62 (.const (.int .i64 1))),oM 12 τ63]
def k95_21 : VC := .seq k95_19 k95_20
def k95_22 : VC := .seq k95_17 k95_21
def k95_23 : VC := .loop k95_22
def k95_24 : VC := .block 2 k95_23
def k95_25 : VC := .seq k95_14 k95_24
def k95_26 : VC := .reg [oM 74 τ5,oM 75 τ11,oD 76 (.bin .xor τ74 τ75),oM 5 τ76]
def k95_27 : VC := .seq k95_25 k95_26
def k95_28 : VC := .seq k95_13 k95_27
def k95_29 : VC := .seq k95_12 k95_28
def k95_30 : VC := .seq k95_8 k95_29
def k95_31 : VC := .block 1 k95_30
def k95_32 : VC := .reg [oM 33 τ10,oD 34 (.bin .add τ33 (.const (.int .i64 8))),oM 10 τ34]
def k95_33 : VC := .seq k95_31 k95_32
def k95_34 : VC := .seq k95_7 k95_33
def k95_35 : VC := .loop k95_34
def k95_36 : VC := .block 0 k95_35
def k95_37 : VC := .seq k95_4 k95_36
def k95_38 : VC := .reg [oM 77 τ7,oD 78 (.bin .xor τ77 (.const (.int .u64 255))),oM 7 τ78]
def k95_39 : VC := .reg [oM 79 τ5,oM 80 τ6,oM 81 τ7,oM 82 τ8,oD 83 (.callF 137 [τ79, τ80, τ81, τ82, (.const (.int .i64 4))]),oD 13 (.alloc [(.int .u64 0), (.int .u64 0), (.int .u64 0), (.int .u64 0)]),oN (.store 4 τ13 τ83)]
def k95_40 : VC := .reg [oD 84 (.idxAA 4 1 τ13 (.const (.int .i64 0))),oD 85 (.load1 (.int .u64) τ84),oD 86 (.idxAA 4 1 τ13 (.const (.int .i64 1))),oD 87 (.load1 (.int .u64) τ86),oD 88 (.bin .xor τ85 τ87),oD 89 (.idxAA 4 1 τ13 (.const (.int .i64 2))),oD 90 (.load1 (.int .u64) τ89),oD 91 (.bin .xor τ88 τ90),oD 92 (.idxAA 4 1 τ13 (.const (.int .i64 3))),oD 93 (.load1 (.int .u64) τ92),oD 94 (.bin .xor τ91 τ93),oM 4 τ94]
def k95_41 : VC := .seq k95_40 .ret
def k95_42 : VC := .seq k95_39 k95_41
def k95_43 : VC := .seq k95_38 k95_42
def k95_44 : VC := .seq k95_37 k95_43
def k95_45 : VC := .seq k95_3 k95_44
def k95_46 : VC := .seq k95_2 k95_45
def k95_47 : VC := .seq k95_1 k95_46
def k95_48 : VC := .seq k95_0 k95_47
def fn95 : VFn := ⟨95, k95_48, [.tmp 4]⟩
def k135_0 : VC := .reg [oD 2 (.mv (.const (.int .u64 0)))]
def k135_1 : VC := .reg [oD 3 (.mv (.const (.int .u64 0)))]
def k135_2 : VC := .reg [oM 5 τ0,oD 6 (.lenS τ5),oD 7 (.bin .sub τ6 (.const (.int .i64 1))),oM 4 τ7]
def k135_3 : VC := .reg [oM 8 τ4,oD 9 (.bin .geq τ8 (.const (.int .i64 0)))]
def k135_4 : VC := .cond τ9 .skip (.exit 0)
def k135_5 : VC := .seq k135_3 k135_4
def k135_6 : VC := .reg [oM 12 τ3,oD 13 (.bin .shl τ12 (.const (.int .u64 8))),oM 14 τ0,oM 15 τ4,oD 16 (.idxS τ14 τ15),oD 17 (.conv .u64 τ16),oD 18 (.bin .add τ13 τ17),oM 3 τ18]
def k135_7 : VC := .block 1 k135_6
def k135_8 : VC := .reg [oM 10 τ4,oD 11 (.bin .sub τ10 (.const (.int .i64 1))),oM 4 τ11]
def k135_9 : VC := .seq k135_7 k135_8
def k135_10 : VC := .seq k135_5 k135_9
def k135_11 : VC := .loop k135_10
def k135_12 : VC := .block 0 k135_11
def k135_13 : VC := .seq k135_2 k135_12
def k135_14 : VC := .reg [oM 19 τ3,oM 2 τ19]
def k135_15 : VC := .seq k135_14 .ret
def k135_16 : VC := .seq k135_13 k135_15
def k135_17 : VC := .seq k135_1 k135_16
def k135_18 : VC := .seq k135_0 k135_17
def fn135 : VFn := ⟨20, k135_18, [.tmp 2]⟩
def k136_0 : VC := .reg [oD 8 (.mv (.const (.int .u64 0))),oD 9 (.mv (.const (.int .u64 0))),oD 10 (.mv (.const (.int .u64 0))),oD 11 (.mv (.const (.int .u64 0)))]
def k136_1 : VC := .reg [oM 12 τ0,oM 13 τ1,oD 14 (.bin .add τ12 τ13),oM 0 τ14]
def k136_2 : VC := .reg [oM 15 τ1,oD 16 (.callF 149 [τ15, (.const (.int .i64 13))]),oM 17 τ0,oD 18 (.bin .xor τ16 τ17),oM 1 τ18]
def k136_3 : VC := .reg [oM 19 τ0,oD 20 (.callF 149 [τ19, (.const (.int .i64 32))]),oM 0 τ20]
def k136_4 : VC := .reg [oM 21 τ2,oM 22 τ3,oD 23 (.bin .add τ21 τ22),oM 2 τ23]
def k136_5 : VC := .reg [oM 24 τ3,oD 25 (.callF 149 [τ24, (.const (.int .i64 16))]),oM 26 τ2,oD 27 (.bin .xor τ25 τ26),oM 3 τ27]
def k136_6 : VC := .reg [oM 28 τ0,oM 29 τ3,oD 30 (.bin .add τ28 τ29),oM 0 τ30]
def k136_7 : VC := .reg [oM 31 τ3,oD 32 (.callF 149 [τ31, (.const (.int .i64 21))]),oM 33 τ0,oD 34 (.bin .xor τ32 τ33),oM 3 τ34]
def k136_8 : VC := .reg [oM 35 τ2,oM 36 τ1,oD 37 (.bin .add τ35 τ36),oM 2 τ37]
def k136_9 : VC := .reg [oM 38 τ1,oD 39 (.callF 149 [τ38, (.const (.int .i64 17))]),oM 40 τ2,oD 41 (.bin .xor τ39 τ40),oM 1 τ41]
def k136_10 : VC := .reg [oM 42 τ2,oD 43 (.callF 149 [τ42, (.const (.int .i64 32))]),oM 2 τ43]
def k136_11 : VC := .reg [oM 44 τ0,oM 45 τ1,oM 46 τ2,oM 47 τ3,oM 8 τ44,oM 9 τ45,oM 10 τ46,oM 11 τ47]
def k136_12 : VC := .seq k136_11 .ret
def k136_13 : VC := .seq k136_10 k136_12
def k136_14 : VC := .seq k136_9 k136_13
def k136_15 : VC := .seq k136_8 k136_14
def k136_16 : VC := .seq k136_7 k136_15
def k136_17 : VC := .seq k136_6 k136_16
def k136_18 : VC := .seq k136_5 k136_17
def k136_19 : VC := .seq k136_4 k136_18
def k136_20 : VC := .seq k136_3 k136_19
def k136_21 : VC := .seq k136_2 k136_20
def k136_22 : VC := .seq k136_1 k136_21
def k136_23 : VC := .seq k136_0 k136_22
def fn136 : VFn := ⟨48, k136_23, [.tmp 8, .tmp 9, .tmp 10, .tmp 11]⟩
def k149_0 : VC := .reg [oD 4 (.mv (.const (.int .u64 0)))]
def k149_1 : VC := .regD [oM 5 τ0,oM 6 τ1,oD 7 (.bin .shl τ5 τ6),oM 8 τ0,oM 9 τ1,oD 10 (.bin .sub (.const (.int .i64 64)) τ9),oD 11 (.bin .shr τ8 τ10)] [] [oD 12 (.bin .or τ7 τ11),oM 4 τ12]
def k149_2 : VC := .seq k149_1 .ret
def k149_3 : VC := .seq k149_0 k149_2
def fn149 : VFn := ⟨13, k149_3, [.tmp 4]⟩
def k137_0 : VC := .reg [oD 10 (.alloc [(.int .u64 0), (.int .u64 0), (.int .u64 0), (.int .u64 0)])]
def k137_1 : VC := .reg [oD 11 (.mv (.const (.int .i64 0)))]
def k137_2 : VC := .reg [oM 12 τ11,oM 13 τ4,oD 14 (.bin .lss τ12 τ13),oM 15 τ14,oG 16 (.mv τ11) 15 true,oG 17 (.bin .lss τ16 (.const (.int .i64 64))) 15 true,oD 18 (.pick τ15 τ17 (.const (.bool false)))]
def k137_3 : VC := .cond τ18 .skip (.exit 0)
def k137_4 : VC := .seq k137_2 k137_3
def k137_5 : VC := .reg [oM 22 τ0,oM 23 τ1,oM 24 τ2,oM 25 τ3,oD 26 (.callF 136 [τ22, τ23, τ24, τ25]),oM 21 τ26,oE 27 0 τ21,oE 28 1 τ21,oE 29 2 τ21,oE 30 3 τ21,oM 0 τ27,oM 1 τ28,oM 2 τ29,oM 3 τ30]
def k137_6 : VC := .block 1 k137_5
def k137_7 : VC := .reg [oM 19 τ11,oD 20 (.bin .add τ19 (.const (.int .i64 1))),oM 11 τ20]
def k137_8 : VC := .seq k137_6 k137_7
def k137_9 : VC := .seq k137_4 k137_8
def k137_10 : VC := .loop k137_9
def k137_11 : VC := .block 0 k137_10
def k137_12 : VC := .seq k137_1 k137_11
def k137_13 : VC := .reg [oM 31 τ0,oM 32 τ1,oM 33 τ2,oM 34 τ3,oD 35 (.build [(.int .u64 0), (.int .u64 0), (.int .u64 0), (.int .u64 0)] [(0, 1, τ31), (1, 1, τ32), (2, 1, τ33), (3, 1, τ34)]),oN (.store 4 τ10 τ35)]
def k137_14 : VC := .seq k137_13 .ret
def k137_15 : VC := .seq k137_12 k137_14
def k137_16 : VC := .seq k137_0 k137_15
def fn137 : VFn := ⟨36, k137_16, [.cell 10 [(.int .u64), (.int .u64), (.int .u64), (.int .u64)] true]⟩
def k50_0 : VC := .reg [oD 2 (.alloc [(.int .u64 0), (.int .u64 0), (.int .i64 0), (.slice none 0 0)]),oD 3 (.mv (.const (.int .i64 0)))]
def k50_1 : VC := .reg [oM 16 τ0,oD 17 (.lenS τ16),oD 18 (.bin .lss τ17 (.const (.int .i64 31)))]
def k50_2 : VC := .reg [oD 19 (.build [(.int .u64 0), (.int .u64 0), (.int .i64 0), (.slice none 0 0)] []),oN (.store 4 τ2 τ19),oD 3 (.mv (.const (.int .i64 2)))]
def k50_3 : VC := .seq k50_2 .ret
def k50_4 : VC := .cond τ18 k50_3 .skip
def k50_5 : VC := .seq k50_1 k50_4
def k50_6 : VC := .reg [oM 20 τ0,oM 21 τ0,oD 22 (.lenS τ21),oD 23 (.bin .sub τ22 (.const (.int .i64 8))),oD 24 (.sliceS τ20 none (some τ23)),oM 4 τ24]
def k50_7 : VC := .reg [oM 25 τ0,oD 26 (.sliceS τ25 none (some (.const (.int .i64 4)))),oD 27 (.bin .neq τ26 (.const (.string ⟨⟨[67, 76, 75, 49]⟩⟩)))]
def k50_8 : VC := .reg [oD 28 (.build [(.int .u64 0), (.int .u64 0), (.int .i64 0), (.slice none 0 0)] []),oN (.store 4 τ2 τ28),oD 3 (.mv (.const (.int .i64 3)))]
def k50_9 : VC := .seq k50_8 .ret
def k50_10 : VC := .cond τ27 k50_9 .skip
def k50_11 : VC := .seq k50_7 k50_10
def k50_12 : VC := .regD [oM 29 τ4,oD 30 (.callF 49 [τ29]),oM 31 τ0,oM 32 τ0,oD 33 (.lenS τ32),oD 34 (.bin .sub τ33 (.const (.int .i64 8))),oD 35 (.sliceS τ31 (some τ34) none)] [] [oD 36 (.bin .neq τ30 τ35)]
def k50_13 : VC := .reg [oD 37 (.build [(.int .u64 0), (.int .u64 0), (.int .i64 0), (.slice none 0 0)] []),oN (.store 4 τ2 τ37),oD 3 (.mv (.const (.int .i64 4)))]
def k50_14 : VC := .seq k50_13 .ret
def k50_15 : VC := .cond τ36 k50_14 .skip
def k50_16 : VC := .seq k50_12 k50_15
def k50_17 : VC := .reg [oM 39 τ4,oD 40 (.callF 105 [τ39, (.const (.int .i64 4)), (.const (.int .i64 8))]),oM 38 τ40,oE 41 0 τ38,oE 42 1 τ38,oM 5 τ41,oM 6 τ42]
def k50_18 : VC := .reg [oM 44 τ4,oD 45 (.callF 105 [τ44, (.const (.int .i64 12)), (.const (.int .i64 8))]),oM 43 τ45,oE 46 0 τ43,oE 47 1 τ43,oM 7 τ46,oM 8 τ47]
def k50_19 : VC := .reg [oM 48 τ5,oM 49 τ7,oD 50 (.build [(.int .u64 0), (.int .u64 0)] [(0, 1, τ48), (1, 1, τ49)]),oM 51 τ4,oD 52 (.callF 106 [τ51, (.const (.int .i64 20)), (.const (.int .i64 2))]),oD 53 (.build [(.int .u64 0), (.int .u64 0), (.int .i64 0), (.slice none 0 0)] [(0, 2, τ50), (2, 1, τ52)]),oD 9 (.alloc [(.int .u64 0), (.int .u64 0), (.int .i64 0), (.slice none 0 0)]),oN (.store 4 τ9 τ53)]
def k50_20 : VC := .reg [oD 10 (.mv (.const (.int .i64 23))),oD 11 (.mv (.const (.bool false)))]
def k50_21 : VC := .reg [oD 12 (.mv (.const (.int .i64 0)))]
def k50_22 : VC := .reg [oM 54 τ12,oM 55 τ4,oD 56 (.idxS τ55 (.const (.int .i64 22))),oD 57 (.conv .i64 τ56),oD 58 (.bin .lss τ54 τ57)]
def k50_23 : VC := .cond τ58 .skip (.exit 0)
def k50_24 : VC := .seq k50_22 k50_23
def k50_25 : VC := .reg [oM 61 τ4,oD 62 (.lenS τ61),oM 63 τ10,oD 64 (.bin .sub τ62 τ63),oD 65 (.bin .lss τ64 (.const (.int .i64 6))),oM 66 τ65,oG 67 (.mv τ4) 66 false,oG 68 (.lenS τ67) 66 false,oG 69 (.mv τ10) 66 false,oG 70 (.bin .sub τ68 τ69) 66 false,oG 71 (.bin .sub τ70 (.const (.int .i64 6))) 66 false,oG 72 (.mv τ4) 66 false,oG 73 (.mv τ10) 66 false,oG 74 (.bin .add τ73 (.const (.int .i64 5))) 66 false,oG 75 (.idxS τ72 τ74) 66 false,oG 76 (.conv .i64 τ75) 66 false,oG 77 (.bin .lss τ71 τ76) 66 false,oD 78 (.pick τ66 (.const (.bool true)) τ77)]
def k50_26 : VC := .reg [oD 79 (.build [(.int .u64 0), (.int .u64 0), (.int .i64 0), (.slice none 0 0)] []),oN (.store 4 τ2 τ79),oD 3 (.mv (.const (.int .i64 2)))]
def k50_27 : VC := .seq k50_26 .ret
def k50_28 : VC := .cond τ78 k50_27 .skip
def k50_29 : VC := .seq k50_25 k50_28
def k50_30 : VC := .reg [oM 80 τ4,oM 81 τ10,oD 82 (.bin .add τ81 (.const (.int .i64 5))),oD 83 (.idxS τ80 τ82),oD 84 (.conv .i64 τ83),oM 13 τ84]
def k50_31 : VC := .reg [oM 86 τ4,oM 87 τ10,oD 88 (.bin .add τ87 (.const (.int .i64 6))),oM 89 τ10,oD 90 (.bin .add τ89 (.const (.int .i64 6))),oM 91 τ13,oD 92 (.bin .add τ90 τ91),oD 93 (.sliceS τ86 (some τ88) (some τ92)),oD 94 (.callF 107 [τ93]),oM 85 τ94,oE 95 0 τ85,oE 96 1 τ85,oD 14 (.alloc [(.bool false), (.int .u64 0), (.int .u64 0)]),oN (.store 3 τ14 τ95),oM 15 τ96]
def k50_32 : VC := .reg [oM 97 τ11,oM 98 τ97,oG 99 (.mv τ15) 98 false,oG 100 (.not τ99) 98 false,oD 101 (.pick τ98 (.const (.bool true)) τ100),oM 11 τ101]
def k50_33 : VC := .regD [oD 102 (.fieldA 3 τ9),oD 103 (.load1 .oth τ102),oM 104 τ4,oM 105 τ10,oD 106 (.callF 106 [τ104, τ105, (.const (.int .i64 2))]),oM 107 τ4,oM 108 τ10,oD 109 (.bin .add τ108 (.const (.int .i64 2))),oD 110 (.callF 106 [τ107, τ109, (.const (.int .i64 2))]),oM 111 τ4,oM 112 τ10,oD 113 (.bin .add τ112 (.const (.int .i64 4))),oD 114 (.idxS τ111 τ113),oD 115 (.conv .i64 τ114),oD 116 (.loadN [.bool, (.int .u64), (.int .u64)] τ14),oD 117 (.build [(.int .i64 0), (.int .i64 0), (.int .i64 0), (.bool false), (.int .u64 0), (.int .u64 0)] [(0, 1, τ106), (1, 1, τ110), (2, 1, τ115), (3, 3, τ116)]),oD 118 (.buildSl 1 6 [(.int .i64 0), (.int .i64 0), (.int .i64 0), (.bool false), (.int .u64 0), (.int .u64 0)] [(0, 6, τ117)])] [(1, 4), (1, 8), (1, 16), (4, 14), (8, 14)] [oD 119 (.app 37 6 48 τ103 τ118),oD 120 (.fieldA 3 τ9),oN (.store 1 τ120 τ119)]
def k50_34 : VC := .reg [oM 121 τ10,oD 122 (.bin .add τ121 (.const (.int .i64 6))),oM 123 τ13,oD 124 (.bin .add τ122 τ123),oM 10 τ124]
def k50_35 : VC := .seq k50_33 k50_34
def k50_36 : VC := .seq k50_32 k50_35
def k50_37 : VC := .seq k50_31 k50_36
def k50_38 : VC := .seq k50_30 k50_37
def k50_39 : VC := .seq k50_29 k50_38
def k50_40 : VC := .block 1 k50_39
def k50_41 : VC := .reg [oM 59 τ12,oD 60 (.bin .add τ59 (.const (.int .i64 1))),oM 12 τ60]
def k50_42 : VC := .seq k50_40 k50_41
def k50_43 : VC := .seq k50_24 k50_42
def k50_44 : VC := .loop k50_43
def k50_45 : VC := .block 0 k50_44
def k50_46 : VC := .seq k50_21 k50_45
def k50_47 : VC := .reg [oM 125 τ10,oM 126 τ4,oD 127 (.lenS τ126),oD 128 (.bin .neq τ125 τ127),oM 129 τ128,oG 130 (.mv τ11) 129 false,oD 131 (.pick τ129 (.const (.bool true)) τ130)]
def k50_48 : VC := .reg [oD 132 (.build [(.int .u64 0), (.int .u64 0), (.int .i64 0), (.slice none 0 0)] []),oN (.store 4 τ2 τ132),oD 3 (.mv (.const (.int .i64 3)))]
def k50_49 : VC := .seq k50_48 .ret
def k50_50 : VC := .cond τ131 k50_49 .skip
def k50_51 : VC := .seq k50_47 k50_50
def k50_52 : VC := .reg [oD 133 (.loadN [(.int .u64), (.int .u64), (.int .i64), .oth] τ9),oD 134 (.callF 57 [τ133]),oD 135 (.not τ134)]
def k50_53 : VC := .reg [oD 136 (.build [(.int .u64 0), (.int .u64 0), (.int .i64 0), (.slice none 0 0)] []),oN (.store 4 τ2 τ136),oD 3 (.mv (.const (.int .i64 1)))]
def k50_54 : VC := .seq k50_53 .ret
def k50_55 : VC := .cond τ135 k50_54 .skip
def k50_56 : VC := .seq k50_52 k50_55
def k50_57 : VC := .reg [oD 137 (.loadN [(.int .u64), (.int .u64), (.int .i64), .oth] τ9),oN (.store 4 τ2 τ137),oD 3 (.mv (.const (.int .i64 0)))]
def k50_58 : VC := .seq k50_57 .ret
def k50_59 : VC := .seq k50_56 k50_58
def k50_60 : VC := .seq k50_51 k50_59
def k50_61 : VC := .seq k50_46 k50_60
def k50_62 : VC := .seq k50_20 k50_61
def k50_63 : VC := .seq k50_19 k50_62
def k50_64 : VC := .seq k50_18 k50_63
def k50_65 : VC := .seq k50_17 k50_64
def k50_66 : VC := .seq k50_16 k50_65
def k50_67 : VC := .seq k50_11 k50_66
def k50_68 : VC := .seq k50_6 k50_67
def k50_69 : VC := .seq k50_5 k50_68
def k50_70 : VC := .seq k50_0 k50_69
def fn50 : VFn := ⟨138, k50_70, [.cell 2 [(.int .u64), (.int .u64), (.int .i64), .oth] true, .tmp 3]⟩
def k105_0 : VC := .reg [oD 6 (.mv (.const (.int .u64 0))),oD 7 (.mv (.const (.bool false)))]
def k105_1 : VC := .reg [oM 10 τ2,oD 11 (.bin .lss τ10 (.const (.int .i64 1))),oM 12 τ11,oG 13 (.mv τ2) 12 false,oG 14 (.bin .gtr τ13 (.const (.int .i64 8))) 12 false,oD 15 (.pick τ12 (.const (.bool true)) τ14),oM 16 τ15,oG 17 (.mv τ1) 16 false,oG 18 (.bin .lss τ17 (.const (.int .i64 0))) 16 false,oD 19 (.pick τ16 (.const (.bool true)) τ18),oM 20 τ19,oG 21 (.mv τ1) 20 false,oG 22 (.mv τ0) 20 false,oG 23 (.lenS τ22) 20 false,oG 24 (.bin .gtr τ21 τ23) 20 false,oD 25 (.pick τ20 (.const (.bool true)) τ24),oM 26 τ25,oG 27 (.mv τ2) 26 false,oG 28 (.mv τ0) 26 false,oG 29 (.lenS τ28) 26 false,oG 30 (.mv τ1) 26 false,oG 31 (.bin .sub τ29 τ30) 26 false,oG 32 (.bin .gtr τ27 τ31) 26 false,oD 33 (.pick τ26 (.const (.bool true)) τ32)]
def k105_2 : VC := .reg [oD 6 (.mv (.const (.int .u64 0))),oD 7 (.mv (.const (.bool false)))]
def k105_3 : VC := .seq k105_2 .ret
def k105_4 : VC := .cond τ33 k105_3 .skip
def k105_5 : VC := .seq k105_1 k105_4
def k105_6 : VC := .reg [oD 8 (.mv (.const (.int .u64 0)))]
def k105_7 : VC := .reg [oD 9 (.mv (.const (.int .i64 0)))]
def k105_8 : VC := .reg [oM 34 τ9,oM 35 τ2,oD 36 (.bin .lss τ34 τ35)]
def k105_9 : VC := .cond τ36 .skip (.exit 0)
def k105_10 : VC := .seq k105_8 k105_9
def k105_11 : VC := .reg [oM 39 τ8,oD 40 (.bin .mul τ39 (.const (.int .u64 256))),oM 41 τ0,oM 42 τ1,oM 43 τ9,oD 44 (.bin .add τ42 τ43),oD 45 (.idxS τ41 τ44),oD 46 (.conv .u64 τ45),oD 47 (.bin .add τ40 τ46),oM 8 τ47]
def k105_12 : VC := .block 1 k105_11
def k105_13 : VC := .reg [oM 37 τ9,oD 38 (.bin .add τ37 (.const (.int .i64 1))),oM 9 τ38]
def k105_14 : VC := .seq k105_12 k105_13
def k105_15 : VC := .seq k105_10 k105_14
def k105_16 : VC := .loop k105_15
def k105_17 : VC := .block 0 k105_16
def k105_18 : VC := .seq k105_7 k105_17
def k105_19 : VC := .reg [oM 48 τ8,oM 6 τ48,oD 7 (.mv (.const (.bool true)))]
def k105_20 : VC := .seq k105_19 .ret
def k105_21 : VC := .seq k105_18 k105_20
def k105_22 : VC := .seq k105_6 k105_21
def k105_23 : VC := .seq k105_5 k105_22
def k105_24 : VC := .seq k105_0 k105_23
def fn105 : VFn := ⟨49, k105_24, [.tmp 6, .tmp 7]⟩
def k106_0 : VC := .reg [oD 6 (.mv (.const (.int .i64 0)))]
def k106_1 : VC := .reg [oM 10 τ0,oM 11 τ1,oM 12 τ2,oD 13 (.callF 105 [τ10, τ11, τ12]),oM 9 τ13,oE 14 0 τ9,oE 15 1 τ9,oM 7 τ14,oM 8 τ15]
def k106_2 : VC := .reg [oM 16 τ7,oD 17 (.conv .i64 τ16),oM 6 τ17]
def k106_3 : VC := .seq k106_2 .ret
def k106_4 : VC := .seq k106_1 k106_3
def k106_5 : VC := .seq k106_0 k106_4
def fn106 : VFn := ⟨18, k106_5, [.tmp 6]⟩
def k107_0 : VC := .reg [oD 2 (.alloc [(.bool false), (.int .u64 0), (.int .u64 0)]),oD 3 (.mv (.const (.bool false)))]
def k107_1 : VC := .reg [oM 10 τ0,oD 11 (.lenS τ10),oD 12 (.bin .eql τ11 (.const (.int .i64 4)))]
def k107_2 : VC := .reg [oM 14 τ0,oD 15 (.callF 105 [τ14, (.const (.int .i64 0)), (.const (.int .i64 4))]),oM 13 τ15,oE 16 0 τ13,oE 17 1 τ13,oM 4 τ16,oM 5 τ17]
def k107_3 : VC := .reg [oM 18 τ4,oD 19 (.build [(.bool false), (.int .u64 0), (.int .u64 0)] [(2, 1, τ18)]),oN (.store 3 τ2 τ19),oD 3 (.mv (.const (.bool true)))]
def k107_4 : VC := .seq k107_3 .ret
def k107_5 : VC := .seq k107_2 k107_4
def k107_6 : VC := .cond τ12 k107_5 .skip
def k107_7 : VC := .seq k107_1 k107_6
def k107_8 : VC := .reg [oM 20 τ0,oD 21 (.lenS τ20),oD 22 (.bin .eql τ21 (.const (.int .i64 16)))]
def k107_9 : VC := .reg [oM 24 τ0,oD 25 (.callF 105 [τ24, (.const (.int .i64 0)), (.const (.int .i64 8))]),oM 23 τ25,oE 26 0 τ23,oE 27 1 τ23,oM 6 τ26,oM 7 τ27]
def k107_10 : VC := .reg [oM 29 τ0,oD 30 (.callF 105 [τ29, (.const (.int .i64 8)), (.const (.int .i64 8))]),oM 28 τ30,oE 31 0 τ28,oE 32 1 τ28,oM 8 τ31,oM 9 τ32]
def k107_11 : VC := .reg [oM 33 τ6,oM 34 τ8,oD 35 (.build [(.bool false), (.int .u64 0), (.int .u64 0)] [(0, 1, (.const (.bool true))), (1, 1, τ33), (2, 1, τ34)]),oN (.store 3 τ2 τ35),oD 3 (.mv (.const (.bool true)))]
def k107_12 : VC := .seq k107_11 .ret
def k107_13 : VC := .seq k107_10 k107_12
def k107_14 : VC := .seq k107_9 k107_13
def k107_15 : VC := .cond τ22 k107_14 .skip
def k107_16 : VC := .seq k107_8 k107_15
def k107_17 : VC := .reg [oD 36 (.build [(.bool false), (.int .u64 0), (.int .u64 0)] []),oN (.store 3 τ2 τ36),oD 3 (.mv (.const (.bool false)))]
def k107_18 : VC := .seq k107_17 .ret
def k107_19 : VC := .seq k107_16 k107_18
def k107_20 : VC := .seq k107_7 k107_19
def k107_21 : VC := .seq k107_0 k107_20
def fn107 : VFn := ⟨37, k107_21, [.cell 2 [.bool, (.int .u64), (.int .u64)] true, .tmp 3]⟩
def k52_0 : VC := .reg [oD 1 (.box τ0),oD 2 (.alloc [(.int .u64 0), (.int .u64 0), (.int .i64 0), (.slice none 0 0)])]
def k52_1 : VC := .reg [oD 3 (.fieldA 0 τ1),oD 4 (.loadN [(.int .u64), (.int .u64)] τ3),oD 5 (.fieldA 2 τ1),oD 6 (.load1 (.int .i64) τ5),oD 7 (.fieldA 3 τ1),oD 8 (.load1 .oth τ7),oD 9 (.build [(.int .u64 0), (.int .u64 0), (.int .i64 0), (.slice none 0 0)] [(0, 2, τ4), (2, 1, τ6), (3, 1, τ8)]),oN (.store 4 τ2 τ9)]
def k52_2 : VC := .seq k52_1 .ret
def k52_3 : VC := .seq k52_0 k52_2
def fn52 : VFn := ⟨10, k52_3, [.cell 2 [(.int .u64), (.int .u64), (.int .i64), .oth] true]⟩
def k51_0 : VC := .reg [oD 2 (.box τ0),oD 3 (.box τ1),oD 4 (.mv (.const (.bool false)))]
def k51_1 : VC := .reg [oD 5 (.fieldA 0 τ2),oD 6 (.loadN [(.int .u64), (.int .u64)] τ5),oD 7 (.fieldA 0 τ3),oD 8 (.loadN [(.int .u64), (.int .u64)] τ7),oD 9 (.eqAgg false [(0, (.int .u64)), (1, (.int .u64))] τ6 τ8),oM 10 τ9,oG 11 (.fieldA 2 τ2) 10 true,oG 12 (.load1 (.int .i64) τ11) 10 true,oG 13 (.fieldA 2 τ3) 10 true,oG 14 (.load1 (.int .i64) τ13) 10 true,oG 15 (.bin .eql τ12 τ14) 10 true,oD 16 (.pick τ10 τ15 (.const (.bool false))),oM 17 τ16,oG 18 (.fieldA 3 τ2) 17 true,oG 19 (.load1 .oth τ18) 17 true,oG 20 (.fieldA 3 τ3) 17 true,oG 21 (.load1 .oth τ20) 17 true,oG 22 (.callF 21 [τ19, τ21]) 17 true,oD 23 (.pick τ17 τ22 (.const (.bool false))),oM 4 τ23]
def k51_2 : VC := .seq k51_1 .ret
def k51_3 : VC := .seq k51_0 k51_2
def fn51 : VFn := ⟨24, k51_3, [.tmp 4]⟩
def k21_0 : VC := .reg [oD 4 (.mv (.const (.bool false)))]
def k21_1 : VC := .reg [oM 6 τ0,oD 7 (.lenL τ6),oM 8 τ1,oD 9 (.lenL τ8),oD 10 (.bin .neq τ7 τ9)]
def k21_2 : VC := .reg [oD 4 (.mv (.const (.bool false)))]
def k21_3 : VC := .seq k21_2 .ret
def k21_4 : VC := .cond τ10 k21_3 .skip
def k21_5 : VC := .seq k21_1 k21_4
def k21_6 : VC := .reg [oD 5 (.mv (.const (.int .i64 0)))]
def k21_7 : VC := .reg [oM 11 τ5,oM 12 τ0,oD 13 (.lenL τ12),oD 14 (.bin .lss τ11 τ13)]
def k21_8 : VC := .cond τ14 .skip (.exit 0)
def k21_9 : VC := .seq k21_7 k21_8
def k21_10 : VC := .regD [oM 17 τ0,oM 18 τ5,oD 19 (.idxAL 6 τ17 τ18),oD 20 (.loadN [(.int .i64), (.int .i64), (.int .i64), .bool, (.int .u64), (.int .u64)] τ19),oM 21 τ1,oM 22 τ5,oD 23 (.idxAL 6 τ21 τ22),oD 24 (.loadN [(.int .i64), (.int .i64), (.int .i64), .bool, (.int .u64), (.int .u64)] τ23)] [] [oD 25 (.eqAgg true [(0, (.int .i64)), (1, (.int .i64)), (2, (.int .i64)), (3, .bool), (4, (.int .u64)), (5, (.int .u64))] τ20 τ24)]
def k21_11 : VC := .reg [oD 4 (.mv (.const (.bool false)))]
def k21_12 : VC := .seq k21_11 .ret
def k21_13 : VC := .cond τ25 k21_12 .skip
def k21_14 : VC := .seq k21_10 k21_13
def k21_15 : VC := .block 1 k21_14
def k21_16 : VC := .reg [oM 15 τ5,oD 16 (.bin .add τ15 (.const (.int .i64 1))),oM 5 τ16]
def k21_17 : VC := .seq k21_15 k21_16
def k21_18 : VC := .seq k21_9 k21_17
def k21_19 : VC := .loop k21_18
def k21_20 : VC := .block 0 k21_19
def k21_21 : VC := .seq k21_6 k21_20
def k21_22 : VC := .reg [oD 4 (.mv (.const (.bool true)))]
def k21_23 : VC := .seq k21_22 .ret
def k21_24 : VC := .seq k21_21 k21_23
def k21_25 : VC := .seq k21_5 k21_24
def k21_26 : VC := .seq k21_0 k21_25
def fn21 : VFn := ⟨26, k21_26, [.tmp 4]⟩
def k59_0 : VC := .reg [oD 3 (.box τ0),oD 6 (.alloc [(.int .u64 0), (.int .u64 0), (.int .i64 0), (.slice none 0 0)])]
def k59_1 : VC := .reg [oD 10 (.loadN [(.int .u64), (.int .u64)] τ3),oM 11 τ1,oD 12 (.build [(.int .u64 0), (.int .u64 0), (.int .i64 0), (.slice none 0 0)] [(0, 2, τ10), (2, 1, τ11)]),oD 7 (.alloc [(.int .u64 0), (.int .u64 0), (.int .i64 0), (.slice none 0 0)]),oN (.store 4 τ7 τ12)]
def k59_2 : VC := .reg [oD 8 (.mv (.const (.int .i64 0)))]
def k59_3 : VC := .reg [oM 13 τ8,oM 14 τ2,oD 15 (.lenL τ14),oD 16 (.bin .lss τ13 τ15)]
def k59_4 : VC := .cond τ16 .skip (.exit 0)
def k59_5 : VC := .seq k59_3 k59_4
def k59_6 : VC := .reg [oM 19 τ2,oM 20 τ8,oD 21 (.idxAL 6 τ19 τ20),oD 22 (.loadN [(.int .i64), (.int .i64), (.int .i64), .bool, (.int .u64), (.int .u64)] τ21),oD 9 (.alloc [(.int .i64 0), (.int .i64 0), (.int .i64 0), (.bool false), (.int .u64 0), (.int .u64 0)]),oN (.store 6 τ9 τ22)]
def k59_7 : VC := .reg [oD 23 (.fieldA 2 τ9),oD 24 (.load1 (.int .i64) τ23),oD 25 (.bin .eql τ24 (.const (.int .i64 4)))]
def k59_8 : VC := .cond τ25 (.exit 1) .skip
def k59_9 : VC := .seq k59_7 k59_8
def k59_10 : VC := .reg [oD 26 (.fieldA 2 τ9),oD 27 (.load1 (.int .i64) τ26),oD 28 (.bin .neq τ27 (.const (.int .i64 3)))]
def k59_11 : VC := .reg [oD 29 (.fieldA 2 τ9),oN (.store 1 τ29 (.const (.int .i64 1)))]
def k59_12 : VC := .cond τ28 k59_11 .skip
def k59_13 : VC := .seq k59_10 k59_12
def k59_14 : VC := .reg [oD 30 (.fieldA 3 τ7),oD 31 (.load1 .oth τ30),oD 32 (.loadN [(.int .i64), (.int .i64), (.int .i64), .bool, (.int .u64), (.int .u64)] τ9),oD 33 (.buildSl 1 6 [(.int .i64 0), (.int .i64 0), (.int .i64 0), (.bool false), (.int .u64 0), (.int .u64 0)] [(0, 6, τ32)]),oD 34 (.app 37 6 48 τ31 τ33),oD 35 (.fieldA 3 τ7),oN (.store 1 τ35 τ34)]
def k59_15 : VC := .seq k59_13 k59_14
def k59_16 : VC := .seq k59_9 k59_15
def k59_17 : VC := .seq k59_6 k59_16
def k59_18 : VC := .block 1 k59_17
def k59_19 : VC := .reg [oM 17 τ8,oD 18 (.bin .add τ17 (.const (.int .i64 1))),oM 8 τ18]
def k59_20 : VC := .seq k59_18 k59_19
def k59_21 : VC := .seq k59_5 k59_20
def k59_22 : VC := .loop k59_21
def k59_23 : VC := .block 0 k59_22
def k59_24 : VC := .seq k59_2 k59_23
def k59_25 : VC := .reg [oD 36 (.loadN [(.int .u64), (.int .u64), (.int .i64), .oth] τ7),oN (.store 4 τ6 τ36)]
def k59_26 : VC := .seq k59_25 .ret
def k59_27 : VC := .seq k59_24 k59_26
def k59_28 : VC := .seq k59_1 k59_27
def k59_29 : VC := .seq k59_0 k59_28
def fn59 : VFn := ⟨37, k59_29, [.cell 6 [(.int .u64), (.int .u64), (.int .i64), .oth] true]⟩
def k60_0 : VC := .reg [oD 2 (.box τ0),oD 3 (.box τ1),oD 4 (.mv (.const (.bool false)))]
def k60_1 : VC := .reg [oD 5 (.fieldA 0 τ2),oD 6 (.loadN [(.int .u64), (.int .u64)] τ5),oD 7 (.fieldA 0 τ3),oD 8 (.loadN [(.int .u64), (.int .u64)] τ7),oD 9 (.eqAgg false [(0, (.int .u64)), (1, (.int .u64))] τ6 τ8),oM 10 τ9,oG 11 (.fieldA 2 τ2) 10 true,oG 12 (.load1 (.int .i64) τ11) 10 true,oG 13 (.fieldA 2 τ3) 10 true,oG 14 (.load1 (.int .i64) τ13) 10 true,oG 15 (.bin .eql τ12 τ14) 10 true,oD 16 (.pick τ10 τ15 (.const (.bool false))),oM 17 τ16,oG 18 (.fieldA 3 τ2) 17 true,oG 19 (.load1 .oth τ18) 17 true,oG 20 (.fieldA 3 τ3) 17 true,oG 21 (.load1 .oth τ20) 17 true,oG 22 (.callF 116 [τ19, τ21]) 17 true,oD 23 (.pick τ17 τ22 (.const (.bool false))),oM 4 τ23]
def k60_2 : VC := .seq k60_1 .ret
def k60_3 : VC := .seq k60_0 k60_2
def fn60 : VFn := ⟨24, k60_3, [.tmp 4]⟩
def k116_0 : VC := .reg [oD 4 (.mv (.const (.bool false)))]
def k116_1 : VC := .reg [oM 6 τ0,oD 7 (.lenL τ6),oM 8 τ1,oD 9 (.lenL τ8),oD 10 (.bin .neq τ7 τ9)]
def k116_2 : VC := .reg [oD 4 (.mv (.const (.bool false)))]
def k116_3 : VC := .seq k116_2 .ret
def k116_4 : VC := .cond τ10 k116_3 .skip
def k116_5 : VC := .seq k116_1 k116_4
def k116_6 : VC := .reg [oM 11 τ0,oD 12 (.lenL τ11),oD 13 (.mv (.const (.int .i64 0)))]
def k116_7 : VC := .reg [oD 14 (.bin .lss τ13 τ12)]
def k116_8 : VC := .cond τ14 .skip (.exit 0)
def k116_9 : VC := .reg [oM 15 τ13,oM 5 τ15]
def k116_10 : VC := .regD [oM 16 τ0,oM 17 τ5,oD 18 (.idxAL 6 τ16 τ17),oD 19 (.loadN [(.int .i64), (.int .i64), (.int .i64), .bool, (.int .u64), (.int .u64)] τ18),oM 20 τ1,oM 21 τ5,oD 22 (.idxAL 6 τ20 τ21),oD 23 (.loadN [(.int .i64), (.int .i64), (.int .i64), .bool, (.int .u64), (.int .u64)] τ22)] [] [oD 24 (.eqAgg true [(0, (.int .i64)), (1, (.int .i64)), (2, (.int .i64)), (3, .bool), (4, (.int .u64)), (5, (.int .u64))] τ19 τ23)]
def k116_11 : VC := .reg [oD 4 (.mv (.const (.bool false)))]
def k116_12 : VC := .seq k116_11 .ret
def k116_13 : VC := .cond τ24 k116_12 .skip
def k116_14 : VC := .seq k116_10 k116_13
def k116_15 : VC := .seq k116_9 k116_14
def k116_16 : VC := .block 1 k116_15
def k116_17 : VC := .reg [oD 25 (.bin .add τ13 (.const (.int .i64 1))),oM 13 τ25]
def k116_18 : VC := .seq k116_16 k116_17
def k116_19 : VC := .seq k116_8 k116_18
def k116_20 : VC := .seq k116_7 k116_19
def k116_21 : VC := .loop k116_20
def k116_22 : VC := .block 0 k116_21
def k116_23 : VC := .seq k116_6 k116_22
def k116_24 : VC := .reg [oD 4 (.mv (.const (.bool true)))]
def k116_25 : VC := .seq k116_24 .ret
def k116_26 : VC := .seq k116_23 k116_25
def k116_27 : VC := .seq k116_5 k116_26
def k116_28 : VC := .seq k116_0 k116_27
def fn116 : VFn := ⟨26, k116_28, [.tmp 4]⟩
def k8_0 : VC := .reg [oD 2 (.mv (.const (.bool false)))]
def k8_1 : VC := .reg [oM 8 τ0,oD 9 (.lenS τ8),oD 10 (.bin .gtr τ9 (.const (.int .i64 300)))]
def k8_2 : VC := .reg [oD 11 (.callF 47 []),oM 2 τ11]
def k8_3 : VC := .seq k8_2 .ret
def k8_4 : VC := .cond τ10 k8_3 .skip
def k8_5 : VC := .seq k8_1 k8_4
def k8_6 : VC := .reg [oM 12 τ0,oD 13 (.bin .add (.const (.string ⟨⟨[67, 76, 75, 49]⟩⟩)) τ12),oM 3 τ13]
def k8_7 : VC := .reg [oM 15 τ3,oM 16 τ3,oD 17 (.callF 49 [τ16]),oD 18 (.bin .add τ15 τ17),oD 19 (.callF 48 [τ18]),oM 14 τ19,oE 20 0 τ14,oE 21 1 τ14,oD 4 (.alloc [(.int .u64 0), (.int .u64 0), (.int .i64 0), (.slice none 0 0)]),oN (.store 4 τ4 τ20),oM 5 τ21]
def k8_8 : VC := .reg [oM 23 τ3,oM 24 τ3,oD 25 (.callF 49 [τ24]),oD 26 (.bin .add τ23 τ25),oD 27 (.callF 50 [τ26]),oM 22 τ27,oE 28 0 τ22,oE 29 1 τ22,oD 6 (.alloc [(.int .u64 0), (.int .u64 0), (.int .i64 0), (.slice none 0 0)]),oN (.store 4 τ6 τ28),oM 7 τ29]
def k8_9 : VC := .regD [oD 30 (.loadN [(.int .u64), (.int .u64), (.int .i64), .oth] τ4),oD 31 (.callF 52 [τ30]),oD 32 (.loadN [(.int .u64), (.int .u64), (.int .i64), .oth] τ6),oD 33 (.callF 51 [τ31, τ32]),oM 34 τ33,oG 35 (.mv τ5) 34 true,oG 36 (.mv τ7) 34 true] [(1, 2)] [oG 37 (.bin .eql τ35 τ36) 34 true,oD 38 (.pick τ34 τ37 (.const (.bool false))),oM 39 τ38,oG 40 (.callF 47 []) 39 true,oD 41 (.pick τ39 τ40 (.const (.bool false))),oM 2 τ41]
def k8_10 : VC := .seq k8_9 .ret
def k8_11 : VC := .seq k8_8 k8_10
def k8_12 : VC := .seq k8_7 k8_11
def k8_13 : VC := .seq k8_6 k8_12
def k8_14 : VC := .seq k8_5 k8_13
def k8_15 : VC := .seq k8_0 k8_14
def fn8 : VFn := ⟨42, k8_15, [.tmp 2]⟩
def k10_0 : VC := .reg [oD 2 (.box τ0),oD 4 (.mv (.const (.bool false)))]
def k10_1 : VC := .reg [oD 13 (.fieldA 3 τ2),oD 14 (.load1 .oth τ13),oD 15 (.lenL τ14),oD 16 (.bin .gtr τ15 (.const (.int .i64 64))),oM 17 τ16,oG 18 (.mv τ1) 17 false,oG 19 (.lenS τ18) 17 false,oG 20 (.bin .gtr τ19 (.const (.int .i64 800))) 17 false,oD 21 (.pick τ17 (.const (.bool true)) τ20)]
def k10_2 : VC := .reg [oD 22 (.callF 47 []),oM 4 τ22]
def k10_3 : VC := .seq k10_2 .ret
def k10_4 : VC := .cond τ21 k10_3 .skip
def k10_5 : VC := .seq k10_1 k10_4
def k10_6 : VC := .reg [oM 24 τ1,oD 25 (.callF 48 [τ24]),oM 23 τ25,oE 26 0 τ23,oE 27 1 τ23,oD 5 (.alloc [(.int .u64 0), (.int .u64 0), (.int .i64 0), (.slice none 0 0)]),oN (.store 4 τ5 τ26),oM 6 τ27]
def k10_7 : VC := .reg [oM 28 τ6,oD 29 (.bin .eql τ28 (.const (.int .i64 0)))]
def k10_8 : VC := .reg [oD 31 (.loadN [(.int .u64), (.int .u64), (.int .i64), .oth] τ5),oD 32 (.callF 53 [τ31]),oM 30 τ32,oE 33 0 τ30,oE 34 1 τ30,oM 7 τ33,oM 8 τ34]
def k10_9 : VC := .reg [oM 35 τ8,oD 36 (.bin .neq τ35 (.const (.int .i64 0))),oM 37 τ36,oG 38 (.mv τ7) 37 false,oG 39 (.mv τ1) 37 false,oG 40 (.bin .neq τ38 τ39) 37 false,oD 41 (.pick τ37 (.const (.bool true)) τ40)]
def k10_10 : VC := .reg [oD 4 (.mv (.const (.bool false)))]
def k10_11 : VC := .seq k10_10 .ret
def k10_12 : VC := .cond τ41 k10_11 .skip
def k10_13 : VC := .seq k10_9 k10_12
def k10_14 : VC := .seq k10_8 k10_13
def k10_15 : VC := .cond τ29 k10_14 .skip
def k10_16 : VC := .seq k10_7 k10_15
def k10_17 : VC := .seq k10_6 k10_16
def k10_18 : VC := .reg [oD 43 (.loadN [(.int .u64), (.int .u64), (.int .i64), .oth] τ2),oD 44 (.callF 54 [τ43]),oD 45 (.callF 53 [τ44]),oM 42 τ45,oE 46 0 τ42,oE 47 1 τ42,oM 9 τ46,oM 10 τ47]
def k10_19 : VC := .reg [oM 48 τ10,oD 49 (.bin .neq τ48 (.const (.int .i64 0)))]
def k10_20 : VC := .reg [oM 50 τ9,oD 51 (.bin .eql τ50 (.const (.string ⟨⟨[]⟩⟩))),oM 52 τ51,oG 53 (.callF 47 []) 52 true,oD 54 (.pick τ52 τ53 (.const (.bool false))),oM 4 τ54]
def k10_21 : VC := .seq k10_20 .ret
def k10_22 : VC := .cond τ49 k10_21 .skip
def k10_23 : VC := .seq k10_19 k10_22
def k10_24 : VC := .reg [oM 56 τ9,oD 57 (.callF 48 [τ56]),oM 55 τ57,oE 58 0 τ55,oE 59 1 τ55,oD 11 (.alloc [(.int .u64 0), (.int .u64 0), (.int .i64 0), (.slice none 0 0)]),oN (.store 4 τ11 τ58),oM 12 τ59]
def k10_25 : VC := .regD [oM 60 τ12,oD 61 (.bin .eql τ60 (.const (.int .i64 0))),oM 62 τ61,oG 63 (.loadN [(.int .u64), (.int .u64), (.int .i64), .oth] τ11) 62 true,oG 64 (.loadN [(.int .u64), (.int .u64), (.int .i64), .oth] τ2) 62 true,oG 65 (.callF 54 [τ64]) 62 true] [(3, 5)] [oG 66 (.callF 60 [τ63, τ65]) 62 true,oD 67 (.pick τ62 τ66 (.const (.bool false))),oM 68 τ67,oG 69 (.callF 47 []) 68 true,oD 70 (.pick τ68 τ69 (.const (.bool false))),oM 4 τ70]
def k10_26 : VC := .seq k10_25 .ret
def k10_27 : VC := .seq k10_24 k10_26
def k10_28 : VC := .seq k10_23 k10_27
def k10_29 : VC := .seq k10_18 k10_28
def k10_30 : VC := .seq k10_17 k10_29
def k10_31 : VC := .seq k10_5 k10_30
def k10_32 : VC := .seq k10_0 k10_31
def fn10 : VFn := ⟨71, k10_32, [.tmp 4]⟩
def k11_0 : VC := .reg [oD 2 (.box τ0),oD 4 (.mv (.const (.bool false)))]
def k11_1 : VC := .reg [oM 20 τ1,oD 21 (.lenL τ20),oD 22 (.bin .gtr τ21 (.const (.int .i64 60)))]
def k11_2 : VC := .reg [oD 23 (.callF 47 []),oM 4 τ23]
def k11_3 : VC := .seq k11_2 .ret
def k11_4 : VC := .cond τ22 k11_3 .skip
def k11_5 : VC := .seq k11_1 k11_4
def k11_6 : VC := .reg [oD 25 (.build [(.int .i64 0), (.int .i64 0)] [(0, 1, (.const (.int .i64 1))), (1, 1, (.const (.int .i64 1)))]),oD 26 (.callF 16 [τ25]),oM 24 τ26,oE 27 0 τ24,oE 28 1 τ24,oM 5 τ27,oM 6 τ28]
def k11_7 : VC := .reg [oM 29 τ6,oD 30 (.bin .neq τ29 (.const (.int .i64 0)))]
def k11_8 : VC := .reg [oD 4 (.mv (.const (.bool false)))]
def k11_9 : VC := .seq k11_8 .ret
def k11_10 : VC := .cond τ30 k11_9 .skip
def k11_11 : VC := .seq k11_7 k11_10
def k11_12 : VC := .reg [oD 7 (.mv (.const (.int .i64 0)))]
def k11_13 : VC := .reg [oD 8 (.mv (.const (.int .i64 0)))]
def k11_14 : VC := .reg [oM 31 τ8,oM 32 τ1,oD 33 (.lenL τ32),oD 34 (.bin .lss τ31 τ33)]
def k11_15 : VC := .cond τ34 .skip (.exit 0)
def k11_16 : VC := .seq k11_14 k11_15
def k11_17 : VC := .reg [oM 37 τ1,oM 38 τ8,oD 39 (.idxAL 7 τ37 τ38),oD 40 (.loadN [(.int .i64), (.int .i64), (.int .i64), .bool, (.int .u64), (.int .u64), .bool] τ39),oD 9 (.alloc [(.int .i64 0), (.int .i64 0), (.int .i64 0), (.bool false), (.int .u64 0), (.int .u64 0), (.bool false)]),oN (.store 7 τ9 τ40)]
def k11_18 : VC := .reg [oD 41 (.fieldA 0 τ9),oD 42 (.load1 (.int .i64) τ41)]
def k11_19 : VC := .reg [oD 44 (.bin .eql τ42 (.const (.int .i64 0))),oM 43 τ44]
def k11_20 : VC := .reg [oM 46 τ5,oD 47 (.fieldA 2 τ9),oD 48 (.load1 (.int .i64) τ47),oD 49 (.fieldA 3 τ9),oD 50 (.loadN [.bool, (.int .u64), (.int .u64)] τ49),oD 51 (.callF 26 [τ46, τ48, τ50]),oM 45 τ51,oE 52 0 τ45,oE 53 1 τ45,oM 10 τ52,oM 11 τ53]
def k11_21 : VC := .reg [oM 54 τ11,oD 55 (.bin .eql τ54 (.const (.int .i64 0)))]
def k11_22 : VC := .reg [oM 56 τ7,oD 57 (.bin .add τ56 (.const (.int .i64 1))),oM 7 τ57]
def k11_23 : VC := .cond τ55 k11_22 .skip
def k11_24 : VC := .seq k11_21 k11_23
def k11_25 : VC := .seq k11_20 k11_24
def k11_26 : VC := .reg [oD 59 (.bin .eql τ42 (.const (.int .i64 1))),oM 58 τ59]
def k11_27 : VC := .reg [oM 60 τ5,oD 61 (.fieldA 1 τ9),oD 62 (.load1 (.int .i64) τ61),oD 63 (.callF 27 [τ60, τ62])]
def k11_28 : VC := .reg [oD 65 (.bin .eql τ42 (.const (.int .i64 2))),oM 64 τ65]
def k11_29 : VC := .reg [oM 66 τ5,oD 67 (.fieldA 1 τ9),oD 68 (.load1 (.int .i64) τ67),oD 69 (.fieldA 6 τ9),oD 70 (.load1 .bool τ69),oD 71 (.callF 28 [τ66, τ68, τ70])]
def k11_30 : VC := .reg [oD 73 (.bin .eql τ42 (.const (.int .i64 3))),oM 72 τ73]
def k11_31 : VC := .reg [oM 74 τ5,oD 75 (.fieldA 1 τ9),oD 76 (.load1 (.int .i64) τ75),oD 77 (.fieldA 2 τ9),oD 78 (.load1 (.int .i64) τ77),oD 79 (.callF 29 [τ74, τ76, τ78])]
def k11_32 : VC := .reg [oD 81 (.bin .eql τ42 (.const (.int .i64 4))),oM 80 τ81]
def k11_33 : VC := .reg [oM 82 τ5,oD 83 (.fieldA 1 τ9),oD 84 (.load1 (.int .i64) τ83),oD 85 (.fieldA 6 τ9),oD 86 (.load1 .bool τ85),oD 87 (.callF 30 [τ82, τ84, τ86])]
def k11_34 : VC := .cond τ80 k11_33 .skip
def k11_35 : VC := .seq k11_32 k11_34
def k11_36 : VC := .cond τ72 k11_31 k11_35
def k11_37 : VC := .seq k11_30 k11_36
def k11_38 : VC := .cond τ64 k11_29 k11_37
def k11_39 : VC := .seq k11_28 k11_38
def k11_40 : VC := .cond τ58 k11_27 k11_39
def k11_41 : VC := .seq k11_26 k11_40
def k11_42 : VC := .cond τ43 k11_25 k11_41
def k11_43 : VC := .seq k11_19 k11_42
def k11_44 : VC := .block 2 k11_43
def k11_45 : VC := .seq k11_18 k11_44
def k11_46 : VC := .seq k11_17 k11_45
def k11_47 : VC := .block 1 k11_46
def k11_48 : VC := .reg [oM 35 τ8,oD 36 (.bin .add τ35 (.const (.int .i64 1))),oM 8 τ36]
def k11_49 : VC := .seq k11_47 k11_48
def k11_50 : VC := .seq k11_16 k11_49
def k11_51 : VC := .loop k11_50
def k11_52 : VC := .block 0 k11_51
def k11_53 : VC := .seq k11_13 k11_52
def k11_54 : VC := .reg [oM 88 τ5,oD 89 (.callF 22 [τ88]),oM 12 τ89]
def k11_55 : VC := .reg [oD 90 (.loadN [(.int .u64), (.int .u64)] τ2),oM 91 τ7,oM 92 τ12,oD 93 (.callF 58 [τ90, τ91, τ92]),oD 13 (.alloc [(.int .u64 0), (.int .u64 0), (.int .i64 0), (.slice none 0 0)]),oN (.store 4 τ13 τ93)]
def k11_56 : VC := .reg [oD 95 (.loadN [(.int .u64), (.int .u64), (.int .i64), .oth] τ13),oD 96 (.callF 53 [τ95]),oM 94 τ96,oE 97 0 τ94,oE 98 1 τ94,oM 14 τ97,oM 15 τ98]
def k11_57 : VC := .reg [oM 100 τ14,oD 101 (.callF 48 [τ100]),oM 99 τ101,oE 102 0 τ99,oE 103 1 τ99,oD 16 (.alloc [(.int .u64 0), (.int .u64 0), (.int .i64 0), (.slice none 0 0)]),oN (.store 4 τ16 τ102),oM 17 τ103]
def k11_58 : VC := .reg [oD 104 (.loadN [(.int .u64), (.int .u64), (.int .i64), .oth] τ13),oD 105 (.callF 56 [τ104]),oD 106 (.not τ105),oM 107 τ106,oG 108 (.mv τ15) 107 false,oG 109 (.bin .neq τ108 (.const (.int .i64 0))) 107 false,oD 110 (.pick τ107 (.const (.bool true)) τ109),oM 111 τ110,oG 112 (.mv τ17) 111 false,oG 113 (.bin .neq τ112 (.const (.int .i64 0))) 111 false,oD 114 (.pick τ111 (.const (.bool true)) τ113),oM 115 τ114,oG 116 (.loadN [(.int .u64), (.int .u64), (.int .i64), .oth] τ16) 115 false,oG 117 (.loadN [(.int .u64), (.int .u64), (.int .i64), .oth] τ13) 115 false,oG 118 (.callF 60 [τ116, τ117]) 115 false,oG 119 (.not τ118) 115 false,oD 120 (.pick τ115 (.const (.bool true)) τ119),oM 121 τ120,oG 122 (.fieldA 0 τ16) 121 false,oG 123 (.loadN [(.int .u64), (.int .u64)] τ122) 121 false,oG 124 (.loadN [(.int .u64), (.int .u64)] τ2) 121 false,oG 125 (.eqAgg true [(0, (.int .u64)), (1, (.int .u64))] τ123 τ124) 121 false,oD 126 (.pick τ121 (.const (.bool true)) τ125),oM 127 τ126,oG 128 (.fieldA 2 τ16) 127 false,oG 129 (.load1 (.int .i64) τ128) 127 false,oG 130 (.mv τ7) 127 false,oG 131 (.bin .neq τ129 τ130) 127 false,oD 132 (.pick τ127 (.const (.bool true)) τ131),oM 133 τ132,oG 134 (.fieldA 3 τ16) 133 false,oG 135 (.load1 .oth τ134) 133 false,oG 136 (.lenL τ135) 133 false,oG 137 (.mv τ12) 133 false,oG 138 (.lenL τ137) 133 false,oG 139 (.bin .neq τ136 τ138) 133 false,oD 140 (.pick τ133 (.const (.bool true)) τ139)]
def k11_59 : VC := .reg [oD 4 (.mv (.const (.bool false)))]
def k11_60 : VC := .seq k11_59 .ret
def k11_61 : VC := .cond τ140 k11_60 .skip
def k11_62 : VC := .seq k11_58 k11_61
def k11_63 : VC := .reg [oD 18 (.mv (.const (.int .i64 0)))]
def k11_64 : VC := .reg [oM 141 τ18,oM 142 τ12,oD 143 (.lenL τ142),oD 144 (.bin .lss τ141 τ143)]
def k11_65 : VC := .cond τ144 .skip (.exit 3)
def k11_66 : VC := .seq k11_64 k11_65
def k11_67 : VC := .reg [oD 147 (.fieldA 3 τ16),oD 148 (.load1 .oth τ147),oM 149 τ18,oD 150 (.idxAL 6 τ148 τ149),oD 151 (.loadN [(.int .i64), (.int .i64), (.int .i64), .bool, (.int .u64), (.int .u64)] τ150),oD 19 (.alloc [(.int .i64 0), (.int .i64 0), (.int .i64 0), (.bool false), (.int .u64 0), (.int .u64 0)]),oN (.store 6 τ19 τ151)]
def k11_68 : VC := .regD [oD 152 (.fieldA 0 τ19),oD 153 (.load1 (.int .i64) τ152),oM 154 τ12,oM 155 τ18,oD 156 (.idxAL 6 τ154 τ155),oD 157 (.fieldA 0 τ156),oD 158 (.load1 (.int .i64) τ157),oD 159 (.bin .neq τ153 τ158),oM 160 τ159,oG 161 (.fieldA 1 τ19) 160 false,oG 162 (.load1 (.int .i64) τ161) 160 false,oG 163 (.mv τ12) 160 false,oG 164 (.mv τ18) 160 false,oG 165 (.idxAL 6 τ163 τ164) 160 false,oG 166 (.fieldA 1 τ165) 160 false,oG 167 (.load1 (.int .i64) τ166) 160 false,oG 168 (.bin .neq τ162 τ167) 160 false,oD 169 (.pick τ160 (.const (.bool true)) τ168),oM 170 τ169,oG 171 (.fieldA 3 τ19) 170 false,oG 172 (.loadN [.bool, (.int .u64), (.int .u64)] τ171) 170 false,oG 173 (.mv τ12) 170 false,oG 174 (.mv τ18) 170 false,oG 175 (.idxAL 6 τ173 τ174) 170 false,oG 176 (.fieldA 3 τ175) 170 false,oG 177 (.loadN [.bool, (.int .u64), (.int .u64)] τ176) 170 false,oG 178 (.eqAgg true [(0, .bool), (1, (.int .u64)), (2, (.int .u64))] τ172 τ177) 170 false,oD 179 (.pick τ170 (.const (.bool true)) τ178),oM 180 τ179,oG 181 (.fieldA 2 τ19) 180 false,oG 182 (.load1 (.int .i64) τ181) 180 false,oG 183 (.bin .eql τ182 (.const (.int .i64 3))) 180 false,oG 184 (.mv τ12) 180 false,oG 185 (.mv τ18) 180 false,oG 186 (.idxAL 6 τ184 τ185) 180 false,oG 187 (.fieldA 2 τ186) 180 false,oG 188 (.load1 (.int .i64) τ187) 180 false,oG 189 (.bin .eql τ188 (.const (.int .i64 3))) 180 false] [] [oG 190 (.eqB true τ183 τ189) 180 false,oD 191 (.pick τ180 (.const (.bool true)) τ190),oM 192 τ191,oG 193 (.fieldA 2 τ19) 192 false,oG 194 (.load1 (.int .i64) τ193) 192 false,oG 195 (.bin .eql τ194 (.const (.int .i64 2))) 192 false,oD 196 (.pick τ192 (.const (.bool true)) τ195)]
def k11_69 : VC := .reg [oD 4 (.mv (.const (.bool false)))]
def k11_70 : VC := .seq k11_69 .ret
def k11_71 : VC := .cond τ196 k11_70 .skip
def k11_72 : VC := .seq k11_68 k11_71
def k11_73 : VC := .seq k11_67 k11_72
def k11_74 : VC := .block 4 k11_73
def k11_75 : VC := .reg [oM 145 τ18,oD 146 (.bin .add τ145 (.const (.int .i64 1))),oM 18 τ146]
def k11_76 : VC := .seq k11_74 k11_75
def k11_77 : VC := .seq k11_66 k11_76
def k11_78 : VC := .loop k11_77
def k11_79 : VC := .block 3 k11_78
def k11_80 : VC := .seq k11_63 k11_79
def k11_81 : VC := .reg [oD 197 (.callF 47 []),oM 4 τ197]
def k11_82 : VC := .seq k11_81 .ret
def k11_83 : VC := .seq k11_80 k11_82
def k11_84 : VC := .seq k11_62 k11_83
def k11_85 : VC := .seq k11_57 k11_84
def k11_86 : VC := .seq k11_56 k11_85
def k11_87 : VC := .seq k11_55 k11_86
def k11_88 : VC := .seq k11_54 k11_87
def k11_89 : VC := .seq k11_53 k11_88
def k11_90 : VC := .seq k11_12 k11_89
def k11_91 : VC := .seq k11_11 k11_90
def k11_92 : VC := .seq k11_6 k11_91
def k11_93 : VC := .seq k11_5 k11_92
def k11_94 : VC := .seq k11_0 k11_93
def fn11 : VFn := ⟨198, k11_94, [.tmp 4]⟩
def k16_0 : VC := .reg [oD 1 (.box τ0),oD 2 (.mv (.const (.pointer none))),oD 3 (.mv (.const (.int .i64 0)))]
def k16_1 : VC := .reg [oD 4 (.loadN [(.int .i64), (.int .i64)] τ1),oD 5 (.callF 69 [τ4]),oD 6 (.not τ5)]
def k16_2 : VC := .reg [oD 2 (.mv (.const (.pointer none))),oD 3 (.mv (.const (.int .i64 1)))]
def k16_3 : VC := .seq k16_2 .ret
def k16_4 : VC := .cond τ6 k16_3 .skip
def k16_5 : VC := .seq k16_1 k16_4
def k16_6 : VC := .reg [oD 7 (.loadN [(.int .i64), (.int .i64)] τ1),oD 8 (.build [(.int .i64 0), (.int .i64 0), (.slice none 0 0), (.int .i64 0), (.int .i64 0)] [(0, 2, τ7)]),oD 9 (.box τ8),oM 2 τ9,oD 3 (.mv (.const (.int .i64 0)))]
def k16_7 : VC := .seq k16_6 .ret
def k16_8 : VC := .seq k16_5 k16_7
def k16_9 : VC := .seq k16_0 k16_8
def fn16 : VFn := ⟨10, k16_9, [.tmp 2, .tmp 3]⟩
def k69_0 : VC := .reg [oD 1 (.box τ0),oD 2 (.mv (.const (.bool false)))]
def k69_1 : VC := .reg [oD 3 (.fieldA 0 τ1),oD 4 (.load1 (.int .i64) τ3),oD 5 (.callF 121 [τ4, (.const (.int .i64 1)), (.const (.int .i64 100))]),oM 6 τ5,oG 7 (.fieldA 1 τ1) 6 true,oG 8 (.load1 (.int .i64) τ7) 6 true,oG 9 (.callF 121 [τ8, (.const (.int .i64 1)), (.const (.int .i64 100))]) 6 true,oD 10 (.pick τ6 τ9 (.const (.bool false))),oM 2 τ10]
def k69_2 : VC := .seq k69_1 .ret
def k69_3 : VC := .seq k69_0 k69_2
def fn69 : VFn := ⟨11, k69_3, [.tmp 2]⟩
def k121_0 : VC := .reg [oD 6 (.mv (.const (.bool false)))]
def k121_1 : VC := .reg [oM 7 τ1,oM 8 τ0,oD 9 (.bin .leq τ7 τ8),oM 10 τ9,oG 11 (.mv τ0) 10 true,oG 12 (.mv τ2) 10 true,oG 13 (.bin .leq τ11 τ12) 10 true,oD 14 (.pick τ10 τ13 (.const (.bool false))),oM 6 τ14]
def k121_2 : VC := .seq k121_1 .ret
def k121_3 : VC := .seq k121_0 k121_2
def fn121 : VFn := ⟨15, k121_3, [.tmp 6]⟩
def k26_0 : VC := .reg [oD 5 (.box τ2),oD 6 (.mv (.const (.int .i64 0))),oD 7 (.mv (.const (.int .i64 0)))]
def k26_1 : VC := .reg [oM 9 τ0,oD 10 (.callF 70 [τ9]),oD 11 (.not τ10),oM 12 τ11,oG 13 (.mv τ1) 12 false,oG 14 (.callF 81 [τ13]) 12 false,oG 15 (.not τ14) 12 false,oD 16 (.pick τ12 (.const (.bool true)) τ15),oM 17 τ16,oG 18 (.loadN [.bool, (.int .u64), (.int .u64)] τ5) 17 false,oG 19 (.callF 82 [τ18]) 17 false,oG 20 (.not τ19) 17 false,oD 21 (.pick τ17 (.const (.bool true)) τ20),oM 8 τ21]
def k26_2 : VC := .reg [oD 6 (.mv (.const (.int .i64 0))),oD 7 (.mv (.const (.int .i64 1)))]
def k26_3 : VC := .seq k26_2 .ret
def k26_4 : VC := .reg [oM 23 τ0,oD 24 (.nilCheck τ23),oD 25 (.fieldA 2 τ24),oD 26 (.load1 .oth τ25),oD 27 (.lenL τ26),oD 28 (.bin .eql τ27 (.const (.int .i64 64))),oM 29 τ28,oG 30 (.mv τ0) 29 false,oG 31 (.nilCheck τ30) 29 false,oG 32 (.fieldA 3 τ31) 29 false,oG 33 (.load1 (.int .i64) τ32) 29 false,oG 34 (.bin .eql τ33 (.const (.int .i64 65535))) 29 false,oD 35 (.pick τ29 (.const (.bool true)) τ34),oM 22 τ35]
def k26_5 : VC := .reg [oD 6 (.mv (.const (.int .i64 0))),oD 7 (.mv (.const (.int .i64 9)))]
def k26_6 : VC := .seq k26_5 .ret
def k26_7 : VC := .cond τ22 k26_6 .skip
def k26_8 : VC := .seq k26_4 k26_7
def k26_9 : VC := .cond τ8 k26_3 k26_8
def k26_10 : VC := .seq k26_1 k26_9
def k26_11 : VC := .block 0 k26_10
def k26_12 : VC := .reg [oM 36 τ0,oD 37 (.nilCheck τ36),oD 38 (.fieldA 3 τ37),oD 39 (.load1 (.int .i64) τ38),oD 40 (.bin .add τ39 (.const (.int .i64 1))),oD 41 (.nilCheck τ36),oD 42 (.fieldA 3 τ41),oN (.store 1 τ42 τ40)]
def k26_13 : VC := .reg [oM 43 τ0,oD 44 (.nilCheck τ43),oD 45 (.fieldA 4 τ44),oD 46 (.load1 (.int .i64) τ45),oD 47 (.bin .add τ46 (.const (.int .i64 1))),oD 48 (.nilCheck τ43),oD 49 (.fieldA 4 τ48),oN (.store 1 τ49 τ47)]
def k26_14 : VC := .regD [oM 50 τ0,oM 51 τ0,oD 52 (.nilCheck τ51),oD 53 (.fieldA 2 τ52),oD 54 (.load1 .oth τ53),oM 55 τ0,oD 56 (.nilCheck τ55),oD 57 (.fieldA 3 τ56),oD 58 (.load1 (.int .i64) τ57),oM 59 τ1,oD 60 (.loadN [.bool, (.int .u64), (.int .u64)] τ5),oD 61 (.build [(.int .i64 0), (.int .i64 0), (.int .i64 0), (.bool false), (.int .u64 0), (.int .u64 0)] [(0, 1, τ58), (1, 1, τ59), (3, 3, τ60)]),oD 62 (.build [(.bool false), (.int .i64 0)] [(0, 1, (.const (.bool true)))]),oD 63 (.build [(.int .i64 0), (.int .i64 0), (.int .i64 0), (.bool false), (.int .u64 0), (.int .u64 0), (.bool false), (.bool false), (.int .i64 0)] [(0, 6, τ61), (7, 2, τ62)]),oD 64 (.buildSl 1 9 [(.int .i64 0), (.int .i64 0), (.int .i64 0), (.bool false), (.int .u64 0), (.int .u64 0), (.bool false), (.bool false), (.int .i64 0)] [(0, 9, τ63)]),oD 65 (.app 130 9 72 τ54 τ64)] [(4, 14)] [oD 66 (.nilCheck τ50),oD 67 (.fieldA 2 τ66),oN (.store 1 τ67 τ65)]
def k26_15 : VC := .reg [oM 68 τ0,oD 69 (.nilCheck τ68),oD 70 (.fieldA 3 τ69),oD 71 (.load1 (.int .i64) τ70),oM 6 τ71,oD 7 (.mv (.const (.int .i64 0)))]
def k26_16 : VC := .seq k26_15 .ret
def k26_17 : VC := .seq k26_14 k26_16
def k26_18 : VC := .seq k26_13 k26_17
def k26_19 : VC := .seq k26_12 k26_18
def k26_20 : VC := .seq k26_11 k26_19
def k26_21 : VC := .seq k26_0 k26_20
def fn26 : VFn := ⟨72, k26_21, [.tmp 6, .tmp 7]⟩
def k70_0 : VC := .reg [oD 2 (.mv (.const (.bool false)))]
def k70_1 : VC := .reg [oM 3 τ0,oD 4 (.isNil 0 true τ3),oM 5 τ4,oG 6 (.mv τ0) 5 true,oG 7 (.nilCheck τ6) 5 true,oG 8 (.fieldA 0 τ7) 5 true,oG 9 (.loadN [(.int .i64), (.int .i64)] τ8) 5 true,oG 10 (.callF 69 [τ9]) 5 true,oD 11 (.pick τ5 τ10 (.const (.bool false))),oM 2 τ11]
def k70_2 : VC := .seq k70_1 .ret
def k70_3 : VC := .seq k70_0 k70_2
def fn70 : VFn := ⟨12, k70_3, [.tmp 2]⟩
def k81_0 : VC := .reg [oD 2 (.mv (.const (.bool false)))]
def k81_1 : VC := .reg [oM 3 τ0,oD 4 (.bin .leq (.const (.int .i64 0)) τ3),oM 5 τ4,oG 6 (.mv τ0) 5 true,oG 7 (.bin .leq τ6 (.const (.int .i64 1000))) 5 true,oD 8 (.pick τ5 τ7 (.const (.bool false))),oM 2 τ8]
def k81_2 : VC := .seq k81_1 .ret
def k81_3 : VC := .seq k81_0 k81_2
def fn81 : VFn := ⟨9, k81_3, [.tmp 2]⟩
def k27_0 : VC := .reg [oD 3 (.box τ1),oD 4 (.mv (.const (.int .i64 0)))]
def k27_1 : VC := .reg [oM 6 τ0,oD 7 (.load1 (.int .i64) τ3),oD 8 (.callF 83 [τ6, τ7, (.func 84)]),oM 5 τ8]
def k27_2 : VC := .reg [oM 9 τ5,oD 10 (.bin .eql τ9 (.const (.int .i64 0)))]
def k27_3 : VC := .reg [oM 11 τ0,oM 12 τ0,oD 13 (.nilCheck τ12),oD 14 (.fieldA 2 τ13),oD 15 (.load1 .oth τ14),oD 16 (.mkFunc 86 [] [τ3]),oD 17 (.callF 85 [τ15, τ16]),oD 18 (.nilCheck τ11),oD 19 (.fieldA 2 τ18),oN (.store 1 τ19 τ17)]
def k27_4 : VC := .cond τ10 k27_3 .skip
def k27_5 : VC := .seq k27_2 k27_4
def k27_6 : VC := .reg [oM 20 τ5,oM 4 τ20]
def k27_7 : VC := .seq k27_6 .ret
def k27_8 : VC := .seq k27_5 k27_7
def k27_9 : VC := .seq k27_1 k27_8
def k27_10 : VC := .seq k27_0 k27_9
def fn27 : VFn := ⟨21, k27_10, [.tmp 4]⟩
def k83_0 : VC := .reg [oD 6 (.mv (.const (.int .i64 0)))]
def k83_1 : VC := .reg [oM 10 τ0,oD 11 (.callF 70 [τ10]),oD 12 (.not τ11)]
def k83_2 : VC := .reg [oD 6 (.mv (.const (.int .i64 1)))]
def k83_3 : VC := .seq k83_2 .ret
def k83_4 : VC := .cond τ12 k83_3 .skip
def k83_5 : VC := .seq k83_1 k83_4
def k83_6 : VC := .reg [oM 14 τ0,oM 15 τ1,oD 16 (.callF 71 [τ14, τ15]),oM 13 τ16,oE 17 0 τ13,oE 18 1 τ13,oM 7 τ17,oM 8 τ18]
def k83_7 : VC := .reg [oM 19 τ8,oD 20 (.not τ19)]
def k83_8 : VC := .reg [oD 6 (.mv (.const (.int .i64 13)))]
def k83_9 : VC := .seq k83_8 .ret
def k83_10 : VC := .cond τ20 k83_9 .skip
def k83_11 : VC := .seq k83_7 k83_10
def k83_12 : VC := .reg [oM 21 τ2,oM 22 τ0,oD 23 (.nilCheck τ22),oD 24 (.fieldA 2 τ23),oD 25 (.load1 .oth τ24),oM 26 τ7,oD 27 (.idxAL 9 τ25 τ26),oD 28 (.callV τ21 [τ27]),oM 9 τ28]
def k83_13 : VC := .reg [oM 29 τ9,oD 30 (.bin .eql τ29 (.const (.int .i64 0)))]
def k83_14 : VC := .reg [oM 31 τ0,oD 32 (.nilCheck τ31),oD 33 (.fieldA 4 τ32),oD 34 (.load1 (.int .i64) τ33),oD 35 (.bin .add τ34 (.const (.int .i64 1))),oD 36 (.nilCheck τ31),oD 37 (.fieldA 4 τ36),oN (.store 1 τ37 τ35)]
def k83_15 : VC := .cond τ30 k83_14 .skip
def k83_16 : VC := .seq k83_13 k83_15
def k83_17 : VC := .reg [oM 38 τ9,oM 6 τ38]
def k83_18 : VC := .seq k83_17 .ret
def k83_19 : VC := .seq k83_16 k83_18
def k83_20 : VC := .seq k83_12 k83_19
def k83_21 : VC := .seq k83_11 k83_20
def k83_22 : VC := .seq k83_6 k83_21
def k83_23 : VC := .seq k83_5 k83_22
def k83_24 : VC := .seq k83_0 k83_23
def fn83 : VFn := ⟨39, k83_24, [.tmp 6]⟩
def k71_0 : VC := .reg [oD 4 (.mv (.const (.int .i64 0))),oD 5 (.mv (.const (.bool false)))]
def k71_1 : VC := .reg [oM 6 τ0,oD 7 (.nilCheck τ6),oD 8 (.fieldA 2 τ7),oD 9 (.load1 .oth τ8),oM 10 τ1,oD 11 (.callF 122 [τ9, τ10, (.func 123)]),oE 12 0 τ11,oE 13 1 τ11,oM 4 τ12,oM 5 τ13]
def k71_2 : VC := .seq k71_1 .ret
def k71_3 : VC := .seq k71_0 k71_2
def fn71 : VFn := ⟨14, k71_3, [.tmp 4, .tmp 5]⟩
def k122_0 : VC := .reg [oD 6 (.mv (.const (.int .i64 0))),oD 7 (.mv (.const (.bool false)))]
def k122_1 : VC := .reg [oM 12 τ0,oD 13 (.lenL τ12),oM 8 τ13]
def k122_2 : VC := .reg [oM 14 τ8,oD 9 (.mv (.const (.int .i64 0))),oM 10 τ14]
def k122_3 : VC := .reg [oM 15 τ9,oM 16 τ10,oD 17 (.bin .lss τ15 τ16)]
def k122_4 : VC := .cond τ17 .skip (.exit 0)
def k122_5 : VC := .seq k122_3 k122_4
def k122_6 : VC := .reg [oM 18 τ9,oM 19 τ10,oD 20 (.bin .add τ18 τ19),oD 21 (.conv .u64 τ20),oD 22 (.bin .shr τ21 (.const (.int .u64 1))),oD 23 (.conv .i64 τ22),oM 11 τ23]
def k122_7 : VC := .reg [oM 24 τ2,oM 25 τ0,oM 26 τ11,oD 27 (.idxAL 9 τ25 τ26),oD 28 (.loadN [(.int .i64), (.int .i64), (.int .i64), .bool, (.int .u64), (.int .u64), .bool, .bool, (.int .i64)] τ27),oM 29 τ1,oD 30 (.callV τ24 [τ28, τ29]),oD 31 (.bin .lss τ30 (.const (.int .i64 0)))]
def k122_8 : VC := .reg [oM 32 τ11,oD 33 (.bin .add τ32 (.const (.int .i64 1))),oM 9 τ33]
def k122_9 : VC := .reg [oM 34 τ11,oM 10 τ34]
def k122_10 : VC := .cond τ31 k122_8 k122_9
def k122_11 : VC := .seq k122_7 k122_10
def k122_12 : VC := .seq k122_6 k122_11
def k122_13 : VC := .block 1 k122_12
def k122_14 : VC := .seq k122_5 k122_13
def k122_15 : VC := .loop k122_14
def k122_16 : VC := .block 0 k122_15
def k122_17 : VC := .reg [oM 35 τ9,oM 36 τ9,oM 37 τ8,oD 38 (.bin .lss τ36 τ37),oM 39 τ38,oG 40 (.mv τ2) 39 true,oG 41 (.mv τ0) 39 true,oG 42 (.mv τ9) 39 true,oG 43 (.idxAL 9 τ41 τ42) 39 true,oG 44 (.loadN [(.int .i64), (.int .i64), (.int .i64), .bool, (.int .u64), (.int .u64), .bool, .bool, (.int .i64)] τ43) 39 true,oG 45 (.mv τ1) 39 true,oG 46 (.callV τ40 [τ44, τ45]) 39 true,oG 47 (.bin .eql τ46 (.const (.int .i64 0))) 39 true,oD 48 (.pick τ39 τ47 (.const (.bool false))),oM 6 τ35,oM 7 τ48]
def k122_18 : VC := .seq k122_17 .ret
def k122_19 : VC := .seq k122_16 k122_18
def k122_20 : VC := .seq k122_2 k122_19
def k122_21 : VC := .seq k122_1 k122_20
def k122_22 : VC := .seq k122_0 k122_21
def fn122 : VFn := ⟨49, k122_22, [.tmp 6, .tmp 7]⟩
def k123_0 : VC := .reg [oD 2 (.box τ0),oD 4 (.mv (.const (.int .i64 0)))]
def k123_1 : VC := .reg [oD 5 (.fieldA 0 τ2),oD 6 (.fieldA 0 τ5),oD 7 (.load1 (.int .i64) τ6),oM 8 τ1,oD 9 (.minmax false [τ8, (.const (.int .i64 65536))]),oD 10 (.minmax true [(.const (.int .i64 0)), τ9]),oD 11 (.bin .sub τ7 τ10),oM 4 τ11]
def k123_2 : VC := .seq k123_1 .ret
def k123_3 : VC := .seq k123_0 k123_2
def fn123 : VFn := ⟨12, k123_3, [.tmp 4]⟩
def k84_0 : VC := .reg [oD 2 (.mv (.const (.int .i64 0)))]
def k84_1 : VC := .reg [oD 2 (.mv (.const (.int .i64 0)))]
def k84_2 : VC := .seq k84_1 .ret
def k84_3 : VC := .seq k84_0 k84_2
def fn84 : VFn := ⟨3, k84_3, [.tmp 2]⟩
def k86_0 : VC := .reg [oD 2 (.box τ0),oD 3 (.mv (.const (.bool false)))]
def k86_1 : VC := .reg [oD 4 (.fieldA 0 τ2),oD 5 (.fieldA 0 τ4),oD 6 (.load1 (.int .i64) τ5),oD 7 (.load1 (.int .i64) τ1),oD 8 (.bin .eql τ6 τ7),oM 3 τ8]
def k86_2 : VC := .seq k86_1 .ret
def k86_3 : VC := .seq k86_0 k86_2
def fn86 : VFn := ⟨9, k86_3, [.tmp 3]⟩
def k85_0 : VC := .reg [oD 4 (.mv (.const (.slice none 0 0)))]
def k85_1 : VC := .reg [oM 8 τ0,oM 9 τ1,oD 10 (.callF 127 [τ8, τ9]),oM 5 τ10]
def k85_2 : VC := .reg [oM 11 τ5,oD 12 (.bin .eql τ11 (.const (.int .i64 (-1))))]
def k85_3 : VC := .reg [oM 13 τ0,oM 4 τ13]
def k85_4 : VC := .seq k85_3 .ret
def k85_5 : VC := .cond τ12 k85_4 .skip
def k85_6 : VC := .seq k85_2 k85_5
def k85_7 : VC := .reg [oM 14 τ5,oD 15 (.bin .add τ14 (.const (.int .i64 1))),oM 6 τ15]
def k85_8 : VC := .reg [oM 16 τ6,oM 17 τ0,oD 18 (.lenL τ17),oD 19 (.bin .lss τ16 τ18)]
def k85_9 : VC := .cond τ19 .skip (.exit 0)
def k85_10 : VC := .seq k85_8 k85_9
def k85_11 : VC := .reg [oM 22 τ0,oM 23 τ6,oD 24 (.idxAL 9 τ22 τ23),oD 25 (.loadN [(.int .i64), (.int .i64), (.int .i64), .bool, (.int .u64), (.int .u64), .bool, .bool, (.int .i64)] τ24),oD 7 (.alloc [(.int .i64 0), (.int .i64 0), (.int .i64 0), (.bool false), (.int .u64 0), (.int .u64 0), (.bool false), (.bool false), (.int .i64 0)]),oN (.store 9 τ7 τ25)]
def k85_12 : VC := .reg [oM 26 τ1,oD 27 (.loadN [(.int .i64), (.int .i64), (.int .i64), .bool, (.int .u64), (.int .u64), .bool, .bool, (.int .i64)] τ7),oD 28 (.callV τ26 [τ27]),oD 29 (.not τ28)]
def k85_13 : VC := .reg [oM 30 τ0,oM 31 τ5,oD 32 (.loadN [(.int .i64), (.int .i64), (.int .i64), .bool, (.int .u64), (.int .u64), .bool, .bool, (.int .i64)] τ7),oD 33 (.idxAL 9 τ30 τ31),oN (.store 9 τ33 τ32)]
def k85_14 : VC := .reg [oM 34 τ5,oD 35 (.bin .add τ34 (.const (.int .i64 1))),oM 5 τ35]
def k85_15 : VC := .seq k85_13 k85_14
def k85_16 : VC := .cond τ29 k85_15 .skip
def k85_17 : VC := .seq k85_12 k85_16
def k85_18 : VC := .seq k85_11 k85_17
def k85_19 : VC := .block 1 k85_18
def k85_20 : VC := .reg [oM 20 τ6,oD 21 (.bin .add τ20 (.const (.int .i64 1))),oM 6 τ21]
def k85_21 : VC := .seq k85_19 k85_20
def k85_22 : VC := .seq k85_10 k85_21
def k85_23 : VC := .loop k85_22
def k85_24 : VC := .block 0 k85_23
def k85_25 : VC := .seq k85_7 k85_24
def k85_26 : VC := .reg [oM 36 τ0,oM 37 τ5,oD 38 (.sliceL 9 τ36 (some τ37) none),oN (.clr 9 τ38)]
def k85_27 : VC := .reg [oM 39 τ0,oM 40 τ5,oD 41 (.sliceL 9 τ39 none (some τ40)),oM 4 τ41]
def k85_28 : VC := .seq k85_27 .ret
def k85_29 : VC := .seq k85_26 k85_28
def k85_30 : VC := .seq k85_25 k85_29
def k85_31 : VC := .seq k85_6 k85_30
def k85_32 : VC := .seq k85_1 k85_31
def k85_33 : VC := .seq k85_0 k85_32
def fn85 : VFn := ⟨42, k85_33, [.tmp 4]⟩
def k127_0 : VC := .reg [oD 4 (.mv (.const (.int .i64 0)))]
def k127_1 : VC := .reg [oM 6 τ0,oD 7 (.lenL τ6),oD 8 (.mv (.const (.int .i64 0)))]
def k127_2 : VC := .reg [oD 9 (.bin .lss τ8 τ7)]
def k127_3 : VC := .cond τ9 .skip (.exit 0)
def k127_4 : VC := .reg [oM 10 τ8,oM 5 τ10]
def k127_5 : VC := .reg [oM 11 τ1,oM 12 τ0,oM 13 τ5,oD 14 (.idxAL 9 τ12 τ13),oD 15 (.loadN [(.int .i64), (.int .i64), (.int .i64), .bool, (.int .u64), (.int .u64), .bool, .bool, (.int .i64)] τ14),oD 16 (.callV τ11 [τ15])]
def k127_6 : VC := .reg [oM 17 τ5,oM 4 τ17]
def k127_7 : VC := .seq k127_6 .ret
def k127_8 : VC := .cond τ16 k127_7 .skip
def k127_9 : VC := .seq k127_5 k127_8
def k127_10 : VC := .seq k127_4 k127_9
def k127_11 : VC := .block 1 k127_10
def k127_12 : VC := .reg [oD 18 (.bin .add τ8 (.const (.int .i64 1))),oM 8 τ18]
def k127_13 : VC := .seq k127_11 k127_12
def k127_14 : VC := .seq k127_3 k127_13
def k127_15 : VC := .seq k127_2 k127_14
def k127_16 : VC := .loop k127_15
def k127_17 : VC := .block 0 k127_16
def k127_18 : VC := .seq k127_1 k127_17
def k127_19 : VC := .reg [oD 4 (.mv (.const (.int .i64 (-1))))]
def k127_20 : VC := .seq k127_19 .ret
def k127_21 : VC := .seq k127_18 k127_20
def k127_22 : VC := .seq k127_0 k127_21
def fn127 : VFn := ⟨19, k127_22, [.tmp 4]⟩
def k28_0 : VC := .reg [oD 5 (.box τ2),oD 6 (.mv (.const (.int .i64 0)))]
def k28_1 : VC := .reg [oM 7 τ0,oM 8 τ1,oD 9 (.mkFunc 87 [] [τ5]),oD 10 (.callF 83 [τ7, τ8, τ9]),oM 6 τ10]
def k28_2 : VC := .seq k28_1 .ret
def k28_3 : VC := .seq k28_0 k28_2
def fn28 : VFn := ⟨11, k28_3, [.tmp 6]⟩
def k87_0 : VC := .reg [oD 3 (.mv (.const (.int .i64 0)))]
def k87_1 : VC := .regD [oM 4 τ0,oD 5 (.nilCheck τ4),oD 6 (.fieldA 6 τ5),oD 7 (.load1 .bool τ6),oD 8 (.load1 .bool τ1)] [] [oD 9 (.eqB false τ7 τ8)]
def k87_2 : VC := .reg [oD 3 (.mv (.const (.int .i64 11)))]
def k87_3 : VC := .seq k87_2 .ret
def k87_4 : VC := .cond τ9 k87_3 .skip
def k87_5 : VC := .seq k87_1 k87_4
def k87_6 : VC := .reg [oM 10 τ0,oD 11 (.load1 .bool τ1),oD 12 (.nilCheck τ10),oD 13 (.fieldA 6 τ12),oN (.store 1 τ13 τ11)]
def k87_7 : VC := .reg [oD 3 (.mv (.const (.int .i64 0)))]
def k87_8 : VC := .seq k87_7 .ret
def k87_9 : VC := .seq k87_6 k87_8
def k87_10 : VC := .seq k87_5 k87_9
def k87_11 : VC := .seq k87_0 k87_10
def fn87 : VFn := ⟨14, k87_11, [.tmp 3]⟩
def k29_0 : VC := .reg [oD 5 (.box τ2),oD 6 (.mv (.const (.int .i64 0)))]
def k29_1 : VC := .reg [oM 7 τ0,oM 8 τ1,oD 9 (.mkFunc 88 [] [τ5]),oD 10 (.callF 83 [τ7, τ8, τ9]),oM 6 τ10]
def k29_2 : VC := .seq k29_1 .ret
def k29_3 : VC := .seq k29_0 k29_2
def fn29 : VFn := ⟨11, k29_3, [.tmp 6]⟩
def k88_0 : VC := .reg [oD 3 (.mv (.const (.int .i64 0)))]
def k88_1 : VC := .reg [oD 4 (.load1 (.int .i64) τ1),oD 5 (.callF 81 [τ4]),oD 6 (.not τ5)]
def k88_2 : VC := .reg [oD 3 (.mv (.const (.int .i64 1)))]
def k88_3 : VC := .seq k88_2 .ret
def k88_4 : VC := .cond τ6 k88_3 .skip
def k88_5 : VC := .seq k88_1 k88_4
def k88_6 : VC := .reg [oM 7 τ0,oD 8 (.load1 (.int .i64) τ1),oD 9 (.nilCheck τ7),oD 10 (.fieldA 0 τ9),oD 11 (.fieldA 1 τ10),oN (.store 1 τ11 τ8)]
def k88_7 : VC := .reg [oD 3 (.mv (.const (.int .i64 0)))]
def k88_8 : VC := .seq k88_7 .ret
def k88_9 : VC := .seq k88_6 k88_8
def k88_10 : VC := .seq k88_5 k88_9
def k88_11 : VC := .seq k88_0 k88_10
def fn88 : VFn := ⟨12, k88_11, [.tmp 3]⟩
def k30_0 : VC := .reg [oD 3 (.box τ0),oD 5 (.box τ2),oD 6 (.mv (.const (.bool false))),oD 7 (.mv (.const (.int .i64 0)))]
def k30_1 : VC := .reg [oD 8 (.alloc [(.bool false)]),oN (.store 1 τ8 (.const (.bool false)))]
def k30_2 : VC := .reg [oD 10 (.load1 .oth τ3),oM 11 τ1,oD 12 (.mkFunc 89 [] [τ3, τ5, τ8]),oD 13 (.callF 83 [τ10, τ11, τ12]),oM 9 τ13]
def k30_3 : VC := .reg [oM 14 τ9,oD 15 (.bin .eql τ14 (.const (.int .i64 11)))]
def k30_4 : VC := .reg [oD 9 (.mv (.const (.int .i64 0)))]
def k30_5 : VC := .cond τ15 k30_4 .skip
def k30_6 : VC := .seq k30_3 k30_5
def k30_7 : VC := .reg [oD 16 (.load1 .bool τ8),oM 17 τ9,oM 6 τ16,oM 7 τ17]
def k30_8 : VC := .seq k30_7 .ret
def k30_9 : VC := .seq k30_6 k30_8
def k30_10 : VC := .seq k30_2 k30_9
def k30_11 : VC := .seq k30_1 k30_10
def k30_12 : VC := .seq k30_0 k30_11
def fn30 : VFn := ⟨18, k30_12, [.tmp 6, .tmp 7]⟩
def k89_0 : VC := .reg [oD 5 (.mv (.const (.int .i64 0)))]
def k89_1 : VC := .regD [oM 7 τ0,oD 8 (.load1 .oth τ1),oD 9 (.nilCheck τ8),oD 10 (.fieldA 0 τ9),oD 11 (.loadN [(.int .i64), (.int .i64)] τ10),oM 12 τ0,oD 13 (.nilCheck τ12),oD 14 (.fieldA 7 τ13),oD 15 (.loadN [.bool, (.int .i64)] τ14),oD 16 (.load1 .bool τ2),oD 17 (.callF 90 [τ11, τ15, τ16]),oM 6 τ17,oE 18 0 τ6,oE 19 1 τ6,oD 20 (.nilCheck τ7),oD 21 (.fieldA 7 τ20),oN (.store 2 τ21 τ18)] [] [oN (.store 1 τ3 τ19)]
def k89_2 : VC := .reg [oD 22 (.load1 .bool τ3),oD 23 (.not τ22)]
def k89_3 : VC := .reg [oD 5 (.mv (.const (.int .i64 11)))]
def k89_4 : VC := .seq k89_3 .ret
def k89_5 : VC := .cond τ23 k89_4 .skip
def k89_6 : VC := .seq k89_2 k89_5
def k89_7 : VC := .seq k89_1 k89_6
def k89_8 : VC := .reg [oD 5 (.mv (.const (.int .i64 0)))]
def k89_9 : VC := .seq k89_8 .ret
def k89_10 : VC := .seq k89_7 k89_9
def k89_11 : VC := .seq k89_0 k89_10
def fn89 : VFn := ⟨24, k89_11, [.tmp 5]⟩
def k90_0 : VC := .reg [oD 3 (.box τ0),oD 4 (.box τ1),oD 6 (.alloc [(.bool false), (.int .i64 0)]),oD 7 (.mv (.const (.bool false)))]
def k90_1 : VC := .reg [oD 8 (.loadN [(.int .i64), (.int .i64)] τ3),oD 9 (.loadN [.bool, (.int .i64)] τ4),oD 10 (.callF 128 [τ8, τ9])]
def k90_2 : VC := .reg [oD 12 (.bin .eql τ10 (.const (.int .i64 0))),oM 11 τ12]
def k90_3 : VC := .reg [oD 13 (.loadN [.bool, (.int .i64)] τ4),oN (.store 2 τ6 τ13),oD 7 (.mv (.const (.bool false)))]
def k90_4 : VC := .seq k90_3 .ret
def k90_5 : VC := .reg [oD 15 (.bin .eql τ10 (.const (.int .i64 1))),oM 14 τ15]
def k90_6 : VC := .regD [oM 16 τ2,oD 17 (.build [(.bool false), (.int .i64 0)] [(0, 1, τ16)]),oM 18 τ2,oD 19 (.fieldA 0 τ4),oD 20 (.load1 .bool τ19),oD 21 (.eqB true τ18 τ20),oN (.store 2 τ6 τ17)] [(4, 6)] [oM 7 τ21]
def k90_7 : VC := .seq k90_6 .ret
def k90_8 : VC := .cond τ14 k90_7 .skip
def k90_9 : VC := .seq k90_5 k90_8
def k90_10 : VC := .cond τ11 k90_4 k90_9
def k90_11 : VC := .seq k90_2 k90_10
def k90_12 : VC := .block 0 k90_11
def k90_13 : VC := .seq k90_1 k90_12
def k90_14 : VC := .reg [oM 22 τ2,oD 23 (.fieldA 0 τ4),oD 24 (.load1 .bool τ23),oD 25 (.eqB false τ22 τ24)]
def k90_15 : VC := .reg [oD 26 (.fieldA 1 τ4),oN (.store 1 τ26 (.const (.int .i64 0)))]
def k90_16 : VC := .reg [oD 27 (.fieldA 1 τ4),oD 28 (.load1 (.int .i64) τ27),oD 29 (.bin .add τ28 (.const (.int .i64 1))),oD 30 (.fieldA 1 τ4),oN (.store 1 τ30 τ29)]
def k90_17 : VC := .cond τ25 k90_15 k90_16
def k90_18 : VC := .seq k90_14 k90_17
def k90_19 : VC := .reg [oD 31 (.loadN [.bool, (.int .i64)] τ4),oN (.store 2 τ6 τ31),oD 7 (.mv (.const (.bool false)))]
def k90_20 : VC := .seq k90_19 .ret
def k90_21 : VC := .seq k90_18 k90_20
def k90_22 : VC := .seq k90_13 k90_21
def k90_23 : VC := .seq k90_0 k90_22
def fn90 : VFn := ⟨32, k90_23, [.cell 6 [.bool, (.int .i64)] true, .tmp 7]⟩
def k128_0 : VC := .reg [oD 2 (.box τ0),oD 3 (.box τ1),oD 4 (.mv (.const (.int .i64 0)))]
def k128_1 : VC := .reg [oD 6 (.loadN [(.int .i64), (.int .i64)] τ2),oD 7 (.callF 69 [τ6]),oD 8 (.not τ7),oM 9 τ8,oG 10 (.fieldA 1 τ3) 9 false,oG 11 (.load1 (.int .i64) τ10) 9 false,oG 12 (.callF 121 [τ11, (.const (.int .i64 0)), (.const (.int .i64 1048576))]) 9 false,oG 13 (.not τ12) 9 false,oD 14 (.pick τ9 (.const (.bool true)) τ13),oM 5 τ14]
def k128_2 : VC := .reg [oD 4 (.mv (.const (.int .i64 0)))]
def k128_3 : VC := .seq k128_2 .ret
def k128_4 : VC := .reg [oD 16 (.fieldA 0 τ3),oD 17 (.load1 .bool τ16),oM 15 τ17]
def k128_5 : VC := .reg [oD 18 (.fieldA 1 τ2),oD 19 (.load1 (.int .i64) τ18),oD 20 (.fieldA 1 τ3),oD 21 (.load1 (.int .i64) τ20),oD 22 (.bin .sub τ19 τ21),oD 23 (.minmax true [(.const (.int .i64 1)), τ22]),oM 4 τ23]
def k128_6 : VC := .seq k128_5 .ret
def k128_7 : VC := .cond τ15 k128_6 .skip
def k128_8 : VC := .seq k128_4 k128_7
def k128_9 : VC := .cond τ5 k128_3 k128_8
def k128_10 : VC := .seq k128_1 k128_9
def k128_11 : VC := .block 0 k128_10
def k128_12 : VC := .reg [oD 24 (.fieldA 0 τ2),oD 25 (.load1 (.int .i64) τ24),oD 26 (.fieldA 1 τ3),oD 27 (.load1 (.int .i64) τ26),oD 28 (.bin .sub τ25 τ27),oD 29 (.minmax true [(.const (.int .i64 1)), τ28]),oM 4 τ29]
def k128_13 : VC := .seq k128_12 .ret
def k128_14 : VC := .seq k128_11 k128_13
def k128_15 : VC := .seq k128_0 k128_14
def fn128 : VFn := ⟨30, k128_15, [.tmp 4]⟩
def k22_0 : VC := .reg [oD 2 (.mv (.const (.slice none 0 0)))]
def k22_1 : VC := .reg [oM 6 τ0,oD 7 (.callF 70 [τ6]),oD 8 (.not τ7)]
def k22_2 : VC := .reg [oD 2 (.mv (.const (.slice none 0 0)))]
def k22_3 : VC := .seq k22_2 .ret
def k22_4 : VC := .cond τ8 k22_3 .skip
def k22_5 : VC := .seq k22_1 k22_4
def k22_6 : VC := .reg [oD 3 (.mv (.const (.slice none 0 0)))]
def k22_7 : VC := .reg [oM 9 τ0,oD 10 (.nilCheck τ9),oD 11 (.fieldA 2 τ10),oD 12 (.load1 .oth τ11),oD 13 (.lenL τ12),oD 14 (.mv (.const (.int .i64 0)))]
def k22_8 : VC := .reg [oD 15 (.bin .lss τ14 τ13)]
def k22_9 : VC := .cond τ15 .skip (.exit 0)
def k22_10 : VC := .reg [oD 16 (.idxAL 9 τ12 τ14),oD 17 (.loadN [(.int .i64), (.int .i64), (.int .i64), .bool, (.int .u64), (.int .u64), .bool, .bool, (.int .i64)] τ16),oD 5 (.alloc [(.int .i64 0), (.int .i64 0), (.int .i64 0), (.bool false), (.int .u64 0), (.int .u64 0), (.bool false), (.bool false), (.int .i64 0)]),oN (.store 9 τ5 τ17)]
def k22_11 : VC := .reg [oM 18 τ3,oD 19 (.loadN [(.int .i64), (.int .i64), (.int .i64), .bool, (.int .u64), (.int .u64), .bool, .bool, (.int .i64)] τ5),oD 20 (.callF 72 [τ19]),oD 21 (.buildSl 1 6 [(.int .i64 0), (.int .i64 0), (.int .i64 0), (.bool false), (.int .u64 0), (.int .u64 0)] [(0, 6, τ20)]),oD 22 (.app 37 6 48 τ18 τ21),oM 3 τ22]
def k22_12 : VC := .seq k22_10 k22_11
def k22_13 : VC := .block 1 k22_12
def k22_14 : VC := .reg [oD 23 (.bin .add τ14 (.const (.int .i64 1))),oM 14 τ23]
def k22_15 : VC := .seq k22_13 k22_14
def k22_16 : VC := .seq k22_9 k22_15
def k22_17 : VC := .seq k22_8 k22_16
def k22_18 : VC := .loop k22_17
def k22_19 : VC := .block 0 k22_18
def k22_20 : VC := .seq k22_7 k22_19
def k22_21 : VC := .reg [oM 24 τ3,oM 2 τ24]
def k22_22 : VC := .seq k22_21 .ret
def k22_23 : VC := .seq k22_20 k22_22
def k22_24 : VC := .seq k22_6 k22_23
def k22_25 : VC := .seq k22_5 k22_24
def k22_26 : VC := .seq k22_0 k22_25
def fn22 : VFn := ⟨25, k22_26, [.tmp 2]⟩
def k72_0 : VC := .reg [oD 1 (.box τ0),oD 2 (.alloc [(.int .i64 0), (.int .i64 0), (.int .i64 0), (.bool false), (.int .u64 0), (.int .u64 0)])]
def k72_1 : VC := .reg [oD 4 (.fieldA 0 τ1),oD 5 (.loadN [(.int .i64), (.int .i64), (.int .i64), .bool, (.int .u64), (.int .u64)] τ4),oD 3 (.alloc [(.int .i64 0), (.int .i64 0), (.int .i64 0), (.bool false), (.int .u64 0), (.int .u64 0)]),oN (.store 6 τ3 τ5)]
def k72_2 : VC := .reg [oD 8 (.fieldA 6 τ1),oD 9 (.load1 .bool τ8),oM 7 τ9]
def k72_3 : VC := .reg [oD 10 (.fieldA 2 τ3),oN (.store 1 τ10 (.const (.int .i64 3)))]
def k72_4 : VC := .reg [oD 12 (.fieldA 7 τ1),oD 13 (.fieldA 0 τ12),oD 14 (.load1 .bool τ13),oM 11 τ14]
def k72_5 : VC := .reg [oD 15 (.fieldA 2 τ3),oN (.store 1 τ15 (.const (.int .i64 1)))]
def k72_6 : VC := .reg [oD 6 (.fieldA 2 τ3),oN (.store 1 τ6 (.const (.int .i64 2)))]
def k72_7 : VC := .cond τ11 k72_5 k72_6
def k72_8 : VC := .seq k72_4 k72_7
def k72_9 : VC := .cond τ7 k72_3 k72_8
def k72_10 : VC := .seq k72_2 k72_9
def k72_11 : VC := .block 0 k72_10
def k72_12 : VC := .reg [oD 16 (.loadN [(.int .i64), (.int .i64), (.int .i64), .bool, (.int .u64), (.int .u64)] τ3),oN (.store 6 τ2 τ16)]
def k72_13 : VC := .seq k72_12 .ret
def k72_14 : VC := .seq k72_11 k72_13
def k72_15 : VC := .seq k72_1 k72_14
def k72_16 : VC := .seq k72_0 k72_15
def fn72 : VFn := ⟨17, k72_16, [.cell 2 [(.int .i64), (.int .i64), (.int .i64), .bool, (.int .u64), (.int .u64)] true]⟩
theorem fn9_ok : (Try.prog.funcs[9]?).bind (compFn Try.prog) = some fn9 := by kernel_rfl
theorem fn47_ok : (Try.prog.funcs[47]?).bind (compFn Try.prog) = some fn47 := by kernel_rfl
theorem fn53_ok : (Try.prog.funcs[53]?).bind (compFn Try.prog) = some fn53 := by kernel_rfl
theorem fn56_ok : (Try.prog.funcs[56]?).bind (compFn Try.prog) = some fn56 := by kernel_rfl
theorem fn113_ok : (Try.prog.funcs[113]?).bind (compFn Try.prog) = some fn113 := by kernel_rfl
theorem fn82_ok : (Try.prog.funcs[82]?).bind (compFn Try.prog) = some fn82 := by kernel_rfl
theorem fn114_ok : (Try.prog.funcs[114]?).bind (compFn Try.prog) = some fn114 := by kernel_rfl
theorem fn139_ok : (Try.prog.funcs[139]?).bind (compFn Try.prog) = some fn139 := by kernel_rfl
theorem fn108_ok : (Try.prog.funcs[108]?).bind (compFn Try.prog) = some fn108 := by kernel_rfl
theorem fn109_ok : (Try.prog.funcs[109]?).bind (compFn Try.prog) = some fn109 := by kernel_rfl
theorem fn110_ok : (Try.prog.funcs[110]?).bind (compFn Try.prog) = some fn110 := by kernel_rfl
theorem fn98_ok : (Try.prog.funcs[98]?).bind (compFn Try.prog) = some fn98 := by kernel_rfl
theorem fn94_ok : (Try.prog.funcs[94]?).bind (compFn Try.prog) = some fn94 := by kernel_rfl
theorem fn132_ok : (Try.prog.funcs[132]?).bind (compFn Try.prog) = some fn132 := by kernel_rfl
theorem fn133_ok : (Try.prog.funcs[133]?).bind (compFn Try.prog) = some fn133 := by kernel_rfl
theorem fn147_ok : (Try.prog.funcs[147]?).bind (compFn Try.prog) = some fn147 := by kernel_rfl
theorem fn148_ok : (Try.prog.funcs[148]?).bind (compFn Try.prog) = some fn148 := by kernel_rfl
theorem fn154_ok : (Try.prog.funcs[154]?).bind (compFn Try.prog) = some fn154 := by kernel_rfl
theorem fn159_ok : (Try.prog.funcs[159]?).bind (compFn Try.prog) = some fn159 := by kernel_rfl
theorem fn134_ok : (Try.prog.funcs[134]?).bind (compFn Try.prog) = some fn134 := by kernel_rfl
theorem fn48_ok : (Try.prog.funcs[48]?).bind (compFn Try.prog) = some fn48 := by kernel_rfl
theorem fn96_ok : (Try.prog.funcs[96]?).bind (compFn Try.prog) = some fn96 := by kernel_rfl
theorem fn97_ok : (Try.prog.funcs[97]?).bind (compFn Try.prog) = some fn97 := by kernel_rfl
theorem fn102_ok : (Try.prog.funcs[102]?).bind (compFn Try.prog) = some fn102 := by kernel_rfl
theorem fn99_ok : (Try.prog.funcs[99]?).bind (compFn Try.prog) = some fn99 := by kernel_rfl
theorem fn100_ok : (Try.prog.funcs[100]?).bind (compFn Try.prog) = some fn100 := by kernel_rfl
theorem fn101_ok : (Try.prog.funcs[101]?).bind (compFn Try.prog) = some fn101 := by kernel_rfl
theorem fn138_ok : (Try.prog.funcs[138]?).bind (compFn Try.prog) = some fn138 := by kernel_rfl
theorem fn103_ok : (Try.prog.funcs[103]?).bind (compFn Try.prog) = some fn103 := by kernel_rfl
theorem fn58_ok : (Try.prog.funcs[58]?).bind (compFn Try.prog) = some fn58 := by kernel_rfl
theorem fn54_ok : (Try.prog.funcs[54]?).bind (compFn Try.prog) = some fn54 := by kernel_rfl
theorem fn55_ok : (Try.prog.funcs[55]?).bind (compFn Try.prog) = some fn55 := by kernel_rfl
theorem fn57_ok : (Try.prog.funcs[57]?).bind (compFn Try.prog) = some fn57 := by kernel_rfl
theorem fn115_ok : (Try.prog.funcs[115]?).bind (compFn Try.prog) = some fn115 := by kernel_rfl
theorem fn104_ok : (Try.prog.funcs[104]?).bind (compFn Try.prog) = some fn104 := by kernel_rfl
theorem fn111_ok : (Try.prog.funcs[111]?).bind (compFn Try.prog) = some fn111 := by kernel_rfl
theorem fn112_ok : (Try.prog.funcs[112]?).bind (compFn Try.prog) = some fn112 := by kernel_rfl
theorem fn49_ok : (Try.prog.funcs[49]?).bind (compFn Try.prog) = some fn49 := by kernel_rfl
theorem fn95_ok : (Try.prog.funcs[95]?).bind (compFn Try.prog) = some fn95 := by kernel_rfl
theorem fn135_ok : (Try.prog.funcs[135]?).bind (compFn Try.prog) = some fn135 := by kernel_rfl
theorem fn136_ok : (Try.prog.funcs[136]?).bind (compFn Try.prog) = some fn136 := by kernel_rfl
theorem fn149_ok : (Try.prog.funcs[149]?).bind (compFn Try.prog) = some fn149 := by kernel_rfl
theorem fn137_ok : (Try.prog.funcs[137]?).bind (compFn Try.prog) = some fn137 := by kernel_rfl
theorem fn50_ok : (Try.prog.funcs[50]?).bind (compFn Try.prog) = some fn50 := by kernel_rfl
theorem fn105_ok : (Try.prog.funcs[105]?).bind (compFn Try.prog) = some fn105 := by kernel_rfl
theorem fn106_ok : (Try.prog.funcs[106]?).bind (compFn Try.prog) = some fn106 := by kernel_rfl
theorem fn107_ok : (Try.prog.funcs[107]?).bind (compFn Try.prog) = some fn107 := by kernel_rfl
theorem fn52_ok : (Try.prog.funcs[52]?).bind (compFn Try.prog) = some fn52 := by kernel_rfl
theorem fn51_ok : (Try.prog.funcs[51]?).bind (compFn Try.prog) = some fn51 := by kernel_rfl
theorem fn21_ok : (Try.prog.funcs[21]?).bind (compFn Try.prog) = some fn21 := by kernel_rfl
theorem fn59_ok : (Try.prog.funcs[59]?).bind (compFn Try.prog) = some fn59 := by kernel_rfl
theorem fn60_ok : (Try.prog.funcs[60]?).bind (compFn Try.prog) = some fn60 := by kernel_rfl
theorem fn116_ok : (Try.prog.funcs[116]?).bind (compFn Try.prog) = some fn116 := by kernel_rfl
theorem fn8_ok : (Try.prog.funcs[8]?).bind (compFn Try.prog) = some fn8 := by kernel_rfl
theorem fn10_ok : (Try.prog.funcs[10]?).bind (compFn Try.prog) = some fn10 := by kernel_rfl
theorem fn11_ok : (Try.prog.funcs[11]?).bind (compFn Try.prog) = some fn11 := by kernel_rfl
theorem fn16_ok : (Try.prog.funcs[16]?).bind (compFn Try.prog) = some fn16 := by kernel_rfl
theorem fn69_ok : (Try.prog.funcs[69]?).bind (compFn Try.prog) = some fn69 := by kernel_rfl
theorem fn121_ok : (Try.prog.funcs[121]?).bind (compFn Try.prog) = some fn121 := by kernel_rfl
theorem fn26_ok : (Try.prog.funcs[26]?).bind (compFn Try.prog) = some fn26 := by kernel_rfl
theorem fn70_ok : (Try.prog.funcs[70]?).bind (compFn Try.prog) = some fn70 := by kernel_rfl
theorem fn81_ok : (Try.prog.funcs[81]?).bind (compFn Try.prog) = some fn81 := by kernel_rfl
theorem fn27_ok : (Try.prog.funcs[27]?).bind (compFn Try.prog) = some fn27 := by kernel_rfl
theorem fn83_ok : (Try.prog.funcs[83]?).bind (compFn Try.prog) = some fn83 := by kernel_rfl
theorem fn71_ok : (Try.prog.funcs[71]?).bind (compFn Try.prog) = some fn71 := by kernel_rfl
theorem fn122_ok : (Try.prog.funcs[122]?).bind (compFn Try.prog) = some fn122 := by kernel_rfl
theorem fn123_ok : (Try.prog.funcs[123]?).bind (compFn Try.prog) = some fn123 := by kernel_rfl
theorem fn84_ok : (Try.prog.funcs[84]?).bind (compFn Try.prog) = some fn84 := by kernel_rfl
theorem fn86_ok : (Try.prog.funcs[86]?).bind (compFn Try.prog) = some fn86 := by kernel_rfl
theorem fn85_ok : (Try.prog.funcs[85]?).bind (compFn Try.prog) = some fn85 := by kernel_rfl
theorem fn127_ok : (Try.prog.funcs[127]?).bind (compFn Try.prog) = some fn127 := by kernel_rfl
theorem fn28_ok : (Try.prog.funcs[28]?).bind (compFn Try.prog) = some fn28 := by kernel_rfl
theorem fn87_ok : (Try.prog.funcs[87]?).bind (compFn Try.prog) = some fn87 := by kernel_rfl
theorem fn29_ok : (Try.prog.funcs[29]?).bind (compFn Try.prog) = some fn29 := by kernel_rfl
theorem fn88_ok : (Try.prog.funcs[88]?).bind (compFn Try.prog) = some fn88 := by kernel_rfl
theorem fn30_ok : (Try.prog.funcs[30]?).bind (compFn Try.prog) = some fn30 := by kernel_rfl
theorem fn89_ok : (Try.prog.funcs[89]?).bind (compFn Try.prog) = some fn89 := by kernel_rfl
theorem fn90_ok : (Try.prog.funcs[90]?).bind (compFn Try.prog) = some fn90 := by kernel_rfl
theorem fn128_ok : (Try.prog.funcs[128]?).bind (compFn Try.prog) = some fn128 := by kernel_rfl
theorem fn22_ok : (Try.prog.funcs[22]?).bind (compFn Try.prog) = some fn22 := by kernel_rfl
theorem fn72_ok : (Try.prog.funcs[72]?).bind (compFn Try.prog) = some fn72 := by kernel_rfl
def tab : List (Nat × VFn) := [(9, fn9), (47, fn47), (53, fn53), (56, fn56), (113, fn113), (82, fn82), (114, fn114), (139, fn139), (108, fn108), (109, fn109), (110, fn110), (98, fn98), (94, fn94), (132, fn132), (133, fn133), (147, fn147), (148, fn148), (154, fn154), (159, fn159), (134, fn134), (48, fn48), (96, fn96), (97, fn97), (102, fn102), (99, fn99), (100, fn100), (101, fn101), (138, fn138), (103, fn103), (58, fn58), (54, fn54), (55, fn55), (57, fn57), (115, fn115), (104, fn104), (111, fn111), (112, fn112), (49, fn49), (95, fn95), (135, fn135), (136, fn136), (149, fn149), (137, fn137), (50, fn50), (105, fn105), (106, fn106), (107, fn107), (52, fn52), (51, fn51), (21, fn21), (59, fn59), (60, fn60), (116, fn116), (8, fn8), (10, fn10), (11, fn11), (16, fn16), (69, fn69), (121, fn121), (26, fn26), (70, fn70), (81, fn81), (27, fn27), (83, fn83), (71, fn71), (122, fn122), (123, fn123), (84, fn84), (86, fn86), (85, fn85), (127, fn127), (28, fn28), (87, fn87), (29, fn29), (88, fn88), (30, fn30), (89, fn89), (90, fn90), (128, fn128), (22, fn22), (72, fn72)]
theorem tab_ok : FnsOK Try.prog (aget tab) := FnsOK.of_tab ⟨fn9_ok, fn47_ok, fn53_ok, fn56_ok, fn113_ok, fn82_ok, fn114_ok, fn139_ok, fn108_ok, fn109_ok, fn110_ok, fn98_ok, fn94_ok, fn132_ok, fn133_ok, fn147_ok, fn148_ok, fn154_ok, fn159_ok, fn134_ok, fn48_ok, fn96_ok, fn97_ok, fn102_ok, fn99_ok, fn100_ok, fn101_ok, fn138_ok, fn103_ok, fn58_ok, fn54_ok, fn55_ok, fn57_ok, fn115_ok, fn104_ok, fn111_ok, fn112_ok, fn49_ok, fn95_ok, fn135_ok, fn136_ok, fn149_ok, fn137_ok, fn50_ok, fn105_ok, fn106_ok, fn107_ok, fn52_ok, fn51_ok, fn21_ok, fn59_ok, fn60_ok, fn116_ok, fn8_ok, fn10_ok, fn11_ok, fn16_ok, fn69_ok, fn121_ok, fn26_ok, fn70_ok, fn81_ok, fn27_ok, fn83_ok, fn71_ok, fn122_ok, fn123_ok, fn84_ok, fn86_ok, fn85_ok, fn127_ok, fn28_ok, fn87_ok, fn29_ok, fn88_ok, fn30_ok, fn89_ok, fn90_ok, fn128_ok, fn22_ok, fn72_ok, trivial⟩
end Go.Vm.Code
