import Derived.Test.YtadhjooghfdloaaNRekeyPlaysb
namespace Go.Vm
open Go Go.RowKit
def req (b : Bool) (p : Prop) : Prop := match b with | true => p | false => False
theorem req.intro {b : Bool} {p : Prop} (h : b = true) (k : p) : req b p := by subst h; exact k
theorem req.elim {b : Bool} {p : Prop} (h : req b p) : b = true ∧ p := by cases b; exact h.elim; exact ⟨rfl, h⟩
def br (b : Bool) (p q : Prop) : Prop := match b with | true => p | false => q
theorem br.intro {b : Bool} {p q : Prop} (h : b = true → p) (k : b = false → q) : br b p q := by cases b; exact k rfl; exact h rfl
theorem br.pos {b : Bool} {p q : Prop} (e : b = true) (h : p) : br b p q := by subst e; exact h
theorem br.neg {b : Bool} {p q : Prop} (e : b = false) (h : q) : br b p q := by subst e; exact h
def forceV (v : Value) (K : Value → Prop) : Prop :=
  match v with
  | .bool b => K (.bool b)
  | .int k n => K (.int k n)
  | .float k n => K (.float k n)
  | .string s => K (.string s)
  | .pointer none => K (.pointer none)
  | .pointer (some a) => K (.pointer (some a))
  | .slice none n c => K (.slice none n c)
  | .slice (some a) n c => K (.slice (some a) n c)
  | .func f a b => K (.func f a b)
  | .nilFunc => K .nilFunc
  | .nilIface => K .nilIface
  | .iface t v => K (.iface t v)
  | .agg a => K (.agg a)
  | .tuple a => K (.tuple a)
  | v => K v
theorem forceV_eq (v : Value) (K : Value → Prop) : forceV v K = K v := by
  unfold forceV; split <;> rfl
def forceL (l : List Value) (K : List Value → Prop) : Prop :=
  match l with
  | [] => K []
  | v :: l => forceL l (fun l' => K (v :: l'))
theorem forceL_eq : ∀ (l : List Value) (K : List Value → Prop), forceL l K = K l
  | [], _ => rfl
  | v :: l, K => by rw [forceL, forceL_eq l]
def adelK {α : Type} (l : List (Nat × α)) (j : Nat) (K : List (Nat × α) → Prop) : Prop :=
  match l with
  | [] => K []
  | (i, x) :: l => cond (Nat.beq i j) (adelK l j K) (adelK l j (fun l' => K ((i, x) :: l')))
theorem adelK_eq {α : Type} : ∀ (l : List (Nat × α)) (j : Nat) (K : List (Nat × α) → Prop), adelK l j K = K (adel l j)
  | [], _, _ => rfl
  | (i, x) :: l, j, K => by
    simp only [adelK, adel]
    cases Nat.beq i j
    · simp only [cond_false]; rw [adelK_eq l]
    · simp only [cond_true]; rw [adelK_eq l]
def aputK {α : Type} (l : List (Nat × α)) (i : Nat) (x : α) (K : List (Nat × α) → Prop) : Prop := adelK l i (fun l' => K ((i, x) :: l'))
theorem aputK_eq {α : Type} (l : List (Nat × α)) (i : Nat) (x : α) (K : List (Nat × α) → Prop) : aputK l i x K = K (aput l i x) := adelK_eq _ _ _
def rd (cs : List Value) (o : Nat) (K : Value → Prop) : Prop := match cs[o]? with | some v => forceV v K | none => False
theorem rd.intro {cs : List Value} {o : Nat} {K : Value → Prop} {v : Value} (h : cs[o]? = some v) (k : forceV v K) : rd cs o K := by unfold rd; rw [h]; exact k
theorem rd.elim {cs : List Value} {o : Nat} {K : Value → Prop} (h : rd cs o K) : ∃ v, cs[o]? = some v ∧ K v := by
  unfold rd at h
  split at h
  · rename_i v hv; rw [forceV_eq] at h; exact ⟨v, hv, h⟩
  · exact h.elim
def rdN (cs : List Value) (o : Nat) (n : Nat) (K : List Value → Prop) : Prop :=
  match n with
  | 0 => K []
  | n + 1 => rd cs o fun v => rdN cs (o + 1) n fun l => K (v :: l)
theorem rdN.elim : ∀ {n : Nat} {cs : List Value} {o : Nat} {K : List Value → Prop}, rdN cs o n K → (o + n ≤ cs.length ∨ n = 0) ∧ K ((cs.drop o).take n)
  | 0, cs, o, K, h => ⟨.inr rfl, by simpa [rdN] using h⟩
  | n + 1, cs, o, K, h => by
    obtain ⟨v, hv, h2⟩ := rd.elim h
    obtain ⟨h3, h4⟩ := rdN.elim h2
    have hlt : o < cs.length := by
      rcases Nat.lt_or_ge o cs.length with h | h
      · exact h
      · rw [List.getElem?_eq_none h] at hv; cases hv
    refine ⟨.inl (by omega), ?_⟩
    have : (cs.drop o).take (n + 1) = v :: (cs.drop (o + 1)).take n := by
      rw [List.drop_eq_getElem_cons hlt, List.take_succ_cons]
      rw [List.getElem?_eq_getElem hlt, Option.some.injEq] at hv
      rw [hv]
    rw [this]; exact h4
abbrev CK := Option Value → List (Option VObj) → Option VObj → Prop
def optK (r : Option CoreR) (K : CK) : Prop :=
  match r with
  | some ⟨some v, os, fr⟩ => forceV v fun v => K (some v) os fr
  | some ⟨none, os, fr⟩ => K none os fr
  | none => False
def Good (r : Option CoreR) (K : CK) : Prop := ∃ v os fr, r = some ⟨v, os, fr⟩ ∧ K v os fr
theorem optK.good {r : Option CoreR} {K : CK} (h : optK r K) : Good r K := by
  unfold optK at h
  split at h
  · rw [forceV_eq] at h; exact ⟨_, _, _, rfl, h⟩
  · exact ⟨_, _, _, rfl, h⟩
  · exact h.elim
def valK (v : Value) (K : CK) : Prop := forceV v fun v => K (some v) [] none
def fillK : List (Nat × Nat × Value) → List Value → (List Value → Prop) → Prop
  | [], cs, K => K cs
  | (off, size, v) :: rest, cs, K => cond (Nat.beq (cellsL v).length size && Nat.ble (off + size) cs.length) (forceL (setAt cs off (cellsL v)) fun cs' => fillK rest cs' K) False
theorem fillK.elim : ∀ {l : List (Nat × Nat × Value)} {cs : List Value} {K : List Value → Prop}, fillK l cs K → ∃ cs', fillL cs l = some cs' ∧ K cs'
  | [], cs, K, h => ⟨cs, rfl, h⟩
  | (off, size, v) :: rest, cs, K, h => by
    rw [fillK] at h
    cases hb : (Nat.beq (cellsL v).length size && Nat.ble (off + size) cs.length)
    · rw [hb] at h; exact h.elim
    · rw [hb, cond_true, forceL_eq] at h
      obtain ⟨cs', h1, h2⟩ := fillK.elim h
      rw [Bool.and_eq_true] at hb
      exact ⟨cs', by rw [fillL, if_pos ⟨Nat.eq_of_beq_eq_true hb.1, Nat.le_of_ble_eq_true hb.2⟩, h1], h2⟩
def k_build (z : List Value) (ps : List (Nat × Nat × Operand)) (vals : List Value) (objs : List VObj) (K : CK) : Prop :=
  match objs with
  | [] => cond (Nat.beq vals.length ps.length) (fillK (zipP ps vals) z fun cs => K (some (.agg ⟨cs⟩)) [] none) False
  | _ => False
def k_buildSl (len sz : Nat) (z : List Value) (ps : List (Nat × Nat × Operand)) (vals : List Value) (objs : List VObj) (top : Nat) (K : CK) : Prop :=
  match objs with
  | [] => cond (Nat.beq vals.length ps.length) (fillK (zipP ps vals) z fun cs => K (some (.slice (some ⟨top, 0, none⟩) len sz)) [] (some (.row true cs))) False
  | _ => False
theorem k_build_good {z : List Value} {ps : List (Nat × Nat × Operand)} {vals : List Value} {objs : List VObj} {K : CK} (h : k_build z ps vals objs K) : Good (c_build z ps vals objs) K := by
  unfold k_build at h
  split at h
  · cases hb : Nat.beq vals.length ps.length
    · rw [hb] at h; exact h.elim
    · rw [hb, cond_true] at h
      obtain ⟨cs, h1, h2⟩ := h.elim
      exact ⟨_, _, _, by simp only [c_build, if_pos (Nat.eq_of_beq_eq_true hb), h1]; rfl, h2⟩
  · exact h.elim
theorem k_buildSl_good {len sz : Nat} {z : List Value} {ps : List (Nat × Nat × Operand)} {vals : List Value} {objs : List VObj} {top : Nat} {K : CK} (h : k_buildSl len sz z ps vals objs top K) : Good (c_buildSl len sz z ps vals objs top) K := by
  unfold k_buildSl at h
  split at h
  · cases hb : Nat.beq vals.length ps.length
    · rw [hb] at h; exact h.elim
    · rw [hb, cond_true] at h
      obtain ⟨cs, h1, h2⟩ := h.elim
      exact ⟨_, _, _, by simp only [c_buildSl, if_pos (Nat.eq_of_beq_eq_true hb), h1], h2⟩
  · exact h.elim
def k_pick (vals : List Value) (objs : List VObj) (K : CK) : Prop :=
  match vals, objs with
  | [.bool c, a, b], [] => br c (valK a K) (valK b K)
  | _, _ => False
def k_load1 (vals : List Value) (objs : List VObj) (K : CK) : Prop :=
  match vals, objs with
  | [.pointer (some ⟨_, o, none⟩)], [.cells cs] => rd cs o fun v => K (some v) [some (.cells cs)] none
  | [.pointer (some ⟨_, o, none⟩)], [.row w cs] => rd cs o fun v => K (some v) [some (.row w cs)] none
  | [.pointer (some ⟨_, o, none⟩)], [.ty t cs] => rd cs o fun v => K (some v) [some (.ty t cs)] none
  | _, _ => False
def k_loadN (n : Nat) (vals : List Value) (objs : List VObj) (K : CK) : Prop :=
  match vals, objs with
  | [.pointer (some ⟨_, o, none⟩)], [.cells cs] => req (decide (o + n ≤ cs.length)) (rdN cs o n fun l => K (some (.agg ⟨l⟩)) [some (.cells cs)] none)
  | [.pointer (some ⟨_, o, none⟩)], [.row w cs] => req (decide (o + n ≤ cs.length)) (rdN cs o n fun l => K (some (.agg ⟨l⟩)) [some (.row w cs)] none)
  | [.pointer (some ⟨_, o, none⟩)], [.ty t cs] => req (decide (o + n ≤ cs.length)) (rdN cs o n fun l => K (some (.agg ⟨l⟩)) [some (.ty t cs)] none)
  | _, _ => False
def k_store (n : Nat) (vals : List Value) (objs : List VObj) (K : CK) : Prop :=
  match vals, objs with
  | [.pointer (some ⟨_, o, none⟩), v], [.cells cs] => req (decide ((cellsL v).length = n ∧ o + n ≤ cs.length) && (cellsL v).all oneC) (forceL (setAt cs o (cellsL v)) fun cs' => K none [some (.cells cs')] none)
  | [.pointer (some ⟨_, o, none⟩), v], [.ty t cs] => req (decide ((cellsL v).length = n ∧ o + n ≤ cs.length) && (cellsL v).all oneC) (forceL (setAt cs o (cellsL v)) fun cs' => K none [some (.ty t cs')] none)
  | [.pointer (some ⟨_, o, none⟩), v], [.row true cs] => req (decide ((cellsL v).length = n ∧ o + n ≤ cs.length) && (cellsL v).all oneC) (∃ cs', setAt cs o (cellsL v) = cs' ∧ K none [some (.row true cs')] none)
  | _, _ => False
def binK (op : BinOp) (x y : Value) (K : CK) : Prop :=
  match x, y with
  | .int k a, .int k' b => match op with
    | .shl => req (decide (0 ≤ b)) (K (some (.int k (k.wrap (a * 2 ^ (min b.toNat k.bits))))) [] none)
    | .shr => req (decide (0 ≤ b)) (K (some (.int k (a.fdiv (2 ^ (min b.toNat k.bits))))) [] none)
    | .quo => req (decide (k = k') && !(decide (b = 0))) (K (some (.int k (k.wrap (a.tdiv b)))) [] none)
    | .rem => req (decide (k = k') && !(decide (b = 0))) (K (some (.int k (a.tmod b))) [] none)
    | op => optK (match binV op (.int k a) (.int k' b) with | some v => val v | none => none) K
  | .string a, .string b => match op with
    | .add => req (decide (a.data.toList.length + b.data.toList.length < 2 ^ 63)) (K (some (.string ⟨⟨a.data.toList ++ b.data.toList⟩⟩)) [] none)
    | op => optK (match binV op (.string a) (.string b) with | some v => val v | none => none) K
  | _, _ => False
def k_bin (op : BinOp) (vals : List Value) (objs : List VObj) (K : CK) : Prop :=
  match vals, objs with
  | [x, y], [] => binK op x y K
  | _, _ => False
def k_isNil (k : Nat) (neg : Bool) (vals : List Value) (objs : List VObj) (K : CK) : Prop :=
  match k, vals, objs with
  | 1, [.slice (some _) n _], [] => req (Nat.blt 0 n) (K (some (.bool neg)) [] none)
  | k, vals, objs => optK (c_isNil k neg vals objs) K
def k_b2s (vals : List Value) (objs : List VObj) (K : CK) : Prop :=
  match vals, objs with
  | [.slice none 0 _], [] => K (some (.string ⟨⟨[]⟩⟩)) [] none
  | [.slice (some ⟨_, o, none⟩) n 1], [ob] => match ob.cs with
      | some cs => req (decide (o + n ≤ cs.length)) (∃ bs, toBytes ((cs.drop o).take n) = some bs ∧ K (some (.string ⟨⟨bs⟩⟩)) [some ob] none)
      | none => False
  | _, _ => False
def k_s2b (vals : List Value) (objs : List VObj) (top : Nat) (K : CK) : Prop :=
  match vals, objs with
  | [.string s], [] => ∃ cs', ofBytes s.data.toList = cs' ∧ K (some (.slice (some ⟨top, 0, none⟩) s.data.toList.length 1)) [] (some (.row true cs'))
  | _, _ => False
def k_mkSl (sz bytes : Nat) (z : List Value) (vals : List Value) (objs : List VObj) (top : Nat) (K : CK) : Prop :=
  match vals, objs with
  | [.int _ l, .int _ c], [] => req (decide (0 ≤ l ∧ l ≤ c ∧ c < 2 ^ 63 ∧ (bytes : Int) * c ≤ 2 ^ 48))
      (∃ cs', (List.replicate c.toNat z).flatten = cs' ∧ K (some (.slice (some ⟨top, 0, none⟩) l.toNat sz)) [] (some (.row true cs')))
  | _, _ => False
def loHiK (n : Nat) (hasLo hasHi : Bool) (bs : List Value) (K : Nat → Nat → Prop) : Prop :=
  match hasLo, hasHi, bs with
  | false, false, [] => K 0 n
  | true, false, [.int _ l] => req (decide (0 ≤ l ∧ l ≤ n)) (K l.toNat n)
  | false, true, [.int _ h] => req (decide (0 ≤ h ∧ h ≤ n)) (K 0 h.toNat)
  | true, true, [.int _ l, .int _ h] => req (decide (0 ≤ h ∧ h ≤ n ∧ 0 ≤ l ∧ l ≤ h.toNat)) (K l.toNat h.toNat)
  | _, _, _ => False
theorem loHiK.elim {n : Nat} {hl hh : Bool} {bs : List Value} {K : Nat → Nat → Prop} (h : loHiK n hl hh bs K) : ∃ l u, loHi n hl hh bs = some (l, u) ∧ K l u := by
  unfold loHiK at h
  split at h
  · exact ⟨_, _, rfl, h⟩
  · obtain ⟨h1, h2⟩ := h.elim; exact ⟨_, _, by simp only [loHi]; rw [if_pos (of_decide_eq_true h1)], h2⟩
  · obtain ⟨h1, h2⟩ := h.elim; exact ⟨_, _, by simp only [loHi]; rw [if_pos (of_decide_eq_true h1)], h2⟩
  · obtain ⟨h1, h2⟩ := h.elim; exact ⟨_, _, by simp only [loHi]; rw [if_pos (of_decide_eq_true h1)], h2⟩
  · exact h.elim
def k_sliceS (bl bh : Bool) (vals : List Value) (objs : List VObj) (K : CK) : Prop :=
  match vals, objs with
  | .string s :: bs, [] => loHiK s.data.toList.length bl bh bs fun l h => K (some (.string ⟨⟨(s.data.toList.drop l).take (h - l)⟩⟩)) [] none
  | _, _ => False
def k_sliceL (sz : Nat) (bl bh : Bool) (vals : List Value) (objs : List VObj) (K : CK) : Prop :=
  match vals, objs with
  | .slice none 0 c :: bs, [] => loHiK 0 bl bh bs fun _ _ => K (some (.slice none 0 c)) [] none
  | .slice (some ⟨b, o, none⟩) n sz' :: bs, [] => req (Nat.beq sz sz') (loHiK n bl bh bs fun l h => K (some (.slice (some ⟨b, o + l * sz, none⟩) (h - l) sz)) [] none)
  | _, _ => False
def k_sliceA (n sz : Nat) (bl bh : Bool) (vals : List Value) (objs : List VObj) (K : CK) : Prop :=
  match vals, objs with
  | .pointer (some ⟨b, o, none⟩) :: bs, [ob] => match ob.cs with
    | some cs => req (decide (o + n * sz ≤ cs.length)) (loHiK n bl bh bs fun l h => K (some (.slice (some ⟨b, o + l * sz, none⟩) (h - l) sz)) [some ob] none)
    | none => False
  | _, _ => False
def k_idxAA (n sz : Nat) (vals : List Value) (objs : List VObj) (K : CK) : Prop :=
  match vals, objs with
  | [.pointer (some ⟨b, o, none⟩), .int _ i], [] => req (decide (0 ≤ i ∧ i < n)) (K (some (.pointer (some ⟨b, o + i.toNat * sz, none⟩))) [] none)
  | _, _ => False
def k_idxAL (sz : Nat) (vals : List Value) (objs : List VObj) (K : CK) : Prop :=
  match vals, objs with
  | [.slice (some ⟨b, o, none⟩) n _, .int _ i], [] => req (decide (0 ≤ i ∧ i < n)) (K (some (.pointer (some ⟨b, o + i.toNat * sz, none⟩))) [] none)
  | _, _ => False
def k_idxV1 (n : Nat) (vals : List Value) (objs : List VObj) (K : CK) : Prop :=
  match vals, objs with
  | [.agg ⟨cs⟩, .int _ i], [] => req (decide (0 ≤ i ∧ i < n)) (rd cs i.toNat fun v => K (some v) [] none)
  | _, _ => False
def k_idxVN (n sz : Nat) (vals : List Value) (objs : List VObj) (K : CK) : Prop :=
  match vals, objs with
  | [.agg ⟨cs⟩, .int _ i], [] => req (decide (0 ≤ i ∧ i < n ∧ i.toNat * sz + sz ≤ cs.length)) (rdN cs (i.toNat * sz) sz fun l => K (some (.agg ⟨l⟩)) [] none)
  | _, _ => False
def rdS (s : List UInt8) (i : Nat) (K : UInt8 → Prop) : Prop := match s[i]? with | some b => K b | none => False
theorem rdS.intro {s : List UInt8} {i : Nat} {K : UInt8 → Prop} {b : UInt8} (h : s[i]? = some b) (k : K b) : rdS s i K := by unfold rdS; rw [h]; exact k
theorem rdS.elim {s : List UInt8} {i : Nat} {K : UInt8 → Prop} (h : rdS s i K) : ∃ b, s[i]? = some b ∧ K b := by
  unfold rdS at h; split at h
  · exact ⟨_, by assumption, h⟩
  · exact h.elim
def k_idxS (vals : List Value) (objs : List VObj) (K : CK) : Prop :=
  match vals, objs with
  | [.string s, .int _ i], [] => req (decide (0 ≤ i)) (rdS s.data.toList i.toNat fun b => K (some (.int .u8 b.toNat)) [] none)
  | _, _ => False
def srcK (sz : Nat) (y : Value) (objs : List VObj) (K : List Value → Nat → Prop) : Prop :=
  match y, objs with
  | .string s, _ => K (ofBytes s.data.toList) s.data.toList.length
  | .slice none 0 _, _ => K [] 0
  | .slice (some a) n _, [o] => match o.cs with
    | some cs => req (decide (a.off + n * sz ≤ cs.length)) (K ((cs.drop a.off).take (n * sz)) n)
    | none => False
  | _, _ => False
theorem srcK.elim {sz : Nat} {y : Value} {objs : List VObj} {K : List Value → Nat → Prop} (h : srcK sz y objs K) : ∃ c n, srcCells sz y objs = some c ∧ srcLen y = some n ∧ K c n := by
  unfold srcK at h
  split at h
  · exact ⟨_, _, rfl, rfl, h⟩
  · exact ⟨_, _, rfl, rfl, h⟩
  · split at h
    · rename_i cs hcs
      obtain ⟨h1, h2⟩ := h.elim
      exact ⟨_, _, by simp only [srcCells, hcs]; rw [if_pos (of_decide_eq_true h1)], rfl, h2⟩
    · exact h.elim
  · exact h.elim
def k_app (t sz bytes : Nat) (vals : List Value) (objs : List VObj) (top : Nat) (K : CK) : Prop :=
  match vals, objs with
  | [.slice none 0 _, y], objs => srcK sz y objs fun new m => req (decide (m * bytes ≤ 2 ^ 47 ∧ new.length = m * sz)) (∃ cs' n', new = cs' ∧ m = n' ∧ K (some (.slice (some ⟨top, 0, none⟩) n' sz)) (objs.map some) (some (.row true cs')))
  | [.slice (some ⟨b, o, none⟩) n sz', y], .row true cs :: objs => srcK sz y objs fun new m =>
      req (decide ((n + m) * bytes ≤ 2 ^ 47 ∧ o + n * sz ≤ cs.length ∧ sz = sz' ∧ new.length = m * sz) && new.all oneC && (addrBlk y).all (fun c => !Nat.beq b c))
        (∃ cs' n', (cs.drop o).take (n * sz) ++ new = cs' ∧ n + m = n' ∧ K (some (.slice (some ⟨top, 0, none⟩) n' sz)) (none :: objs.map some) (some (.row true cs')))
  | [.func (.method _) ⟨[.slice none 0 e]⟩ ⟨[]⟩, y], objs => srcK sz y objs fun new m => req (decide (m * bytes ≤ 2 ^ 47 ∧ new.length = m * sz ∧ sz = 1 ∧ e = t)) (∃ cs' n', new = cs' ∧ m = n' ∧ K (some (.func (.method "") ⟨[.slice (some ⟨top, 0, none⟩) n' 1]⟩ ⟨[]⟩)) (objs.map some) (some (.ty t cs')))
  | [.func (.method _) ⟨[.slice (some ⟨b, 0, none⟩) n 1]⟩ ⟨[]⟩, y], .ty e cs :: objs => srcK sz y objs fun new m =>
      req (decide ((n + m) * bytes ≤ 2 ^ 47 ∧ n ≤ cs.length ∧ sz = 1 ∧ e = t ∧ new.length = m) && new.all oneC && (addrBlk y).all (fun c => !Nat.beq b c))
        (∃ cs' n', cs.take n ++ new = cs' ∧ n + m = n' ∧ K (some (.func (.method "") ⟨[.slice (some ⟨top, 0, none⟩) n' 1]⟩ ⟨[]⟩)) (none :: objs.map some) (some (.ty t cs')))
  | _, _ => False
def k_ustr (t : Nat) (vals : List Value) (objs : List VObj) (K : CK) : Prop :=
  match vals, objs with
  | [.pointer none, .int .i64 0], [] => K (some (.string ⟨⟨[]⟩⟩)) [] none
  | [.func (.method _) ⟨[.slice (some ⟨_, 0, none⟩) n 1]⟩ ⟨[.bool true]⟩, .int .i64 m], [.ty e cs] => req (decide (e = t ∧ m = n ∧ n ≤ cs.length ∧ n < 2 ^ 63))
      (∃ bs, toBytes (cs.take n) = some bs ∧ K (some (.string ⟨⟨bs⟩⟩)) [some (.row false cs)] none)
  | _, _ => False
def k_clr (sz : Nat) (vals : List Value) (objs : List VObj) (K : CK) : Prop :=
  match vals, objs with
  | [.slice none 0 _], [] => K (some (.tuple ⟨[]⟩)) [] none
  | [.slice (some ⟨_, o, none⟩) n sz'], [.row true cs] => req (decide (sz = sz' ∧ o + n * sz = cs.length)) (∃ cs', cs.take o = cs' ∧ K (some (.tuple ⟨[]⟩)) [some (.row true cs')] none)
  | _, _ => False
def k_nextS (vals : List Value) (objs : List VObj) (K : CK) : Prop :=
  match vals, objs with
  | [.pointer (some ⟨_, 0, none⟩)], [.siter s pos] =>
      br (decide (pos < s.size)) (K (some (.tuple #[.bool true, .int .i64 pos, .int .i32 (Utf8.decode s pos).1])) [some (.siter s (pos + (Utf8.decode s pos).2))] none)
        (K (some (.tuple #[.bool false])) [some (.siter s pos)] none)
  | _, _ => False
def coreK (op : VOp) (vals : List Value) (objs : List VObj) (top : Nat) (K : CK) : Prop :=
  match op with
  | .pick _ _ _ => k_pick vals objs K
  | .load1 _ _ => k_load1 vals objs K
  | .loadN ks _ => k_loadN ks.length vals objs K
  | .store n _ _ => k_store n vals objs K
  | .bin op _ _ => k_bin op vals objs K
  | .isNil k neg _ => k_isNil k neg vals objs K
  | .b2s _ => k_b2s vals objs K
  | .s2b _ => k_s2b vals objs top K
  | .mkSl sz bytes z _ _ => k_mkSl sz bytes z vals objs top K
  | .sliceS _ lo hi => k_sliceS lo.isSome hi.isSome vals objs K
  | .sliceL sz _ lo hi => k_sliceL sz lo.isSome hi.isSome vals objs K
  | .sliceA n sz _ lo hi => k_sliceA n sz lo.isSome hi.isSome vals objs K
  | .idxAA n sz _ _ => k_idxAA n sz vals objs K
  | .idxAL sz _ _ => k_idxAL sz vals objs K
  | .idxV1 n _ _ => k_idxV1 n vals objs K
  | .idxVN n sz _ _ => k_idxVN n sz vals objs K
  | .idxS _ _ => k_idxS vals objs K
  | .app t sz bytes _ _ => k_app t sz bytes vals objs top K
  | .ustr t _ _ => k_ustr t vals objs K
  | .clr sz _ => k_clr sz vals objs K
  | .build z ps => k_build z ps vals objs K
  | .buildSl len sz z ps => k_buildSl len sz z ps vals objs top K
  | .nextS _ => k_nextS vals objs K
  | op => optK (core op vals objs top) K
theorem k_pick_good {vals : List Value} {objs : List VObj} {K : CK} (h : k_pick vals objs K) : Good (c_pick vals objs) K := by
  unfold k_pick at h
  split at h
  · rename_i c _ _
    cases c
    · simp only [br, valK, forceV_eq] at h; exact ⟨_, _, _, rfl, h⟩
    · simp only [br, valK, forceV_eq] at h; exact ⟨_, _, _, rfl, h⟩
  · exact h.elim
theorem k_load1_good {vals : List Value} {objs : List VObj} {K : CK} (h : k_load1 vals objs K) : Good (c_load1 vals objs) K := by
  unfold k_load1 at h
  split at h
  · obtain ⟨v, h1, h2⟩ := rd.elim h; exact ⟨_, _, _, by simp only [c_load1, VObj.cs, h1], h2⟩
  · obtain ⟨v, h1, h2⟩ := rd.elim h; exact ⟨_, _, _, by simp only [c_load1, VObj.cs, h1], h2⟩
  · obtain ⟨v, h1, h2⟩ := rd.elim h; exact ⟨_, _, _, by simp only [c_load1, VObj.cs, h1], h2⟩
  · exact h.elim
theorem k_loadN_good {n : Nat} {vals : List Value} {objs : List VObj} {K : CK} (h : k_loadN n vals objs K) : Good (c_loadN n vals objs) K := by
  unfold k_loadN at h
  split at h
  · obtain ⟨h1, h2⟩ := req.elim h
    obtain ⟨_, h3⟩ := rdN.elim h2
    exact ⟨_, _, _, by simp only [c_loadN, VObj.cs, if_pos (of_decide_eq_true h1)], h3⟩
  · obtain ⟨h1, h2⟩ := req.elim h
    obtain ⟨_, h3⟩ := rdN.elim h2
    exact ⟨_, _, _, by simp only [c_loadN, VObj.cs, if_pos (of_decide_eq_true h1)], h3⟩
  · obtain ⟨h1, h2⟩ := req.elim h
    obtain ⟨_, h3⟩ := rdN.elim h2
    exact ⟨_, _, _, by simp only [c_loadN, VObj.cs, if_pos (of_decide_eq_true h1)], h3⟩
  · exact h.elim
theorem k_store_good {n : Nat} {vals : List Value} {objs : List VObj} {K : CK} (h : k_store n vals objs K) : Good (c_store n vals objs) K := by
  unfold k_store at h
  split at h
  · obtain ⟨h1, h2⟩ := req.elim h
    rw [forceL_eq] at h2
    simp only [Bool.and_eq_true, decide_eq_true_eq] at h1
    exact ⟨_, _, _, by simp only [c_store, VObj.cs, VObj.wr]; rw [if_pos ⟨h1.1.1, h1.1.2, h1.2⟩], h2⟩
  · obtain ⟨h1, h2⟩ := req.elim h
    rw [forceL_eq] at h2
    simp only [Bool.and_eq_true, decide_eq_true_eq] at h1
    exact ⟨_, _, _, by simp only [c_store, VObj.cs, VObj.wr]; rw [if_pos ⟨h1.1.1, h1.1.2, h1.2⟩], h2⟩
  · obtain ⟨h1, cs', rfl, h2⟩ := req.elim h
    simp only [Bool.and_eq_true, decide_eq_true_eq] at h1
    exact ⟨_, _, _, by simp only [c_store, VObj.cs, VObj.wr]; rw [if_pos ⟨h1.1.1, h1.1.2, h1.2⟩], h2⟩
  · exact h.elim
theorem k_bin_good {op : BinOp} {vals : List Value} {objs : List VObj} {K : CK} (h : k_bin op vals objs K) : Good (c_bin op vals objs) K := by
  unfold k_bin at h
  split at h
  · rename_i x y
    have key : ∀ v, binV op x y = some v → K (some v) [] none → Good (c_bin op [x, y] []) K := fun v h1 h2 => ⟨_, _, _, by simp only [c_bin, h1, val], h2⟩
    unfold binK at h
    split at h
    · split at h
      · obtain ⟨h1, h2⟩ := req.elim h
        exact key _ (by simp only [binV]; rw [if_pos (of_decide_eq_true h1)]) h2
      · obtain ⟨h1, h2⟩ := req.elim h
        exact key _ (by simp only [binV]; rw [if_pos (of_decide_eq_true h1)]) h2
      · obtain ⟨h1, h2⟩ := req.elim h
        simp only [Bool.and_eq_true, decide_eq_true_eq, Bool.not_eq_true', decide_eq_false_iff_not] at h1
        exact key _ (by simp only [binV]; rw [if_pos h1.1, if_neg h1.2]) h2
      · obtain ⟨h1, h2⟩ := req.elim h
        simp only [Bool.and_eq_true, decide_eq_true_eq, Bool.not_eq_true', decide_eq_false_iff_not] at h1
        exact key _ (by simp only [binV]; rw [if_pos h1.1, if_neg h1.2]) h2
      · exact h.good
    · split at h
      · obtain ⟨h1, h2⟩ := req.elim h
        exact key _ (by simp only [binV]; rw [if_pos (of_decide_eq_true h1)]) h2
      · exact h.good
    · exact h.elim
  · exact h.elim
theorem k_isNil_good {k : Nat} {neg : Bool} {vals : List Value} {objs : List VObj} {K : CK} (h : k_isNil k neg vals objs K) : Good (c_isNil k neg vals objs) K := by
  unfold k_isNil at h
  split at h
  · rename_i n _
    obtain ⟨h1, h2⟩ := req.elim h
    cases n with
    | zero => simp at h1
    | succ n => exact ⟨_, _, _, by simp only [c_isNil, nilV, val]; cases neg <;> rfl, h2⟩
  · exact h.good
theorem k_b2s_good {vals : List Value} {objs : List VObj} {K : CK} (h : k_b2s vals objs K) : Good (c_b2s vals objs) K := by
  unfold k_b2s at h
  split at h
  · exact ⟨_, _, _, rfl, h⟩
  · split at h
    · rename_i cs hcs
      obtain ⟨h1, bs, h2, h3⟩ := req.elim h
      exact ⟨_, _, _, by simp only [c_b2s, hcs]; rw [if_pos (of_decide_eq_true h1)]; simp only [h2], h3⟩
    · exact h.elim
  · exact h.elim
theorem k_s2b_good {vals : List Value} {objs : List VObj} {top : Nat} {K : CK} (h : k_s2b vals objs top K) : Good (c_s2b vals objs top) K := by
  unfold k_s2b at h
  split at h
  · obtain ⟨cs', rfl, h⟩ := h; exact ⟨_, _, _, rfl, h⟩
  · exact h.elim
theorem k_mkSl_good {sz bytes : Nat} {z : List Value} {vals : List Value} {objs : List VObj} {top : Nat} {K : CK} (h : k_mkSl sz bytes z vals objs top K) : Good (c_mkSl sz bytes z vals objs top) K := by
  unfold k_mkSl at h
  split at h
  · obtain ⟨h1, cs', rfl, h2⟩ := req.elim h
    exact ⟨_, _, _, by simp only [c_mkSl]; rw [if_pos (of_decide_eq_true h1)], h2⟩
  · exact h.elim
theorem k_sliceS_good {bl bh : Bool} {vals : List Value} {objs : List VObj} {K : CK} (h : k_sliceS bl bh vals objs K) : Good (c_sliceS bl bh vals objs) K := by
  unfold k_sliceS at h
  split at h
  · obtain ⟨l, u, h1, h2⟩ := loHiK.elim h
    exact ⟨_, _, _, by simp only [c_sliceS, h1, val], h2⟩
  · exact h.elim
theorem k_sliceL_good {sz : Nat} {bl bh : Bool} {vals : List Value} {objs : List VObj} {K : CK} (h : k_sliceL sz bl bh vals objs K) : Good (c_sliceL sz bl bh vals objs) K := by
  unfold k_sliceL at h
  split at h
  · obtain ⟨l, u, h1, h2⟩ := loHiK.elim h
    exact ⟨_, _, _, by simp only [c_sliceL, h1, val], h2⟩
  · obtain ⟨h0, h⟩ := req.elim h
    obtain ⟨l, u, h1, h2⟩ := loHiK.elim h
    exact ⟨_, _, _, by simp only [c_sliceL]; rw [if_pos (Nat.eq_of_beq_eq_true h0)]; simp only [h1, val], h2⟩
  · exact h.elim
theorem k_sliceA_good {n sz : Nat} {bl bh : Bool} {vals : List Value} {objs : List VObj} {K : CK} (h : k_sliceA n sz bl bh vals objs K) : Good (c_sliceA n sz bl bh vals objs) K := by
  unfold k_sliceA at h
  split at h
  · split at h
    · rename_i cs hcs
      obtain ⟨h0, h⟩ := req.elim h
      obtain ⟨l, u, h1, h2⟩ := loHiK.elim h
      exact ⟨_, _, _, by simp only [c_sliceA, hcs]; rw [if_pos (of_decide_eq_true h0)]; simp only [h1], h2⟩
    · exact h.elim
  · exact h.elim
theorem k_idxAA_good {n sz : Nat} {vals : List Value} {objs : List VObj} {K : CK} (h : k_idxAA n sz vals objs K) : Good (c_idxAA n sz vals objs) K := by
  unfold k_idxAA at h
  split at h
  · obtain ⟨h1, h2⟩ := req.elim h
    exact ⟨_, _, _, by simp only [c_idxAA, val]; rw [if_pos (of_decide_eq_true h1)], h2⟩
  · exact h.elim
theorem k_idxAL_good {sz : Nat} {vals : List Value} {objs : List VObj} {K : CK} (h : k_idxAL sz vals objs K) : Good (c_idxAL sz vals objs) K := by
  unfold k_idxAL at h
  split at h
  · obtain ⟨h1, h2⟩ := req.elim h
    exact ⟨_, _, _, by simp only [c_idxAL, val]; rw [if_pos (of_decide_eq_true h1)], h2⟩
  · exact h.elim
theorem k_idxV1_good {n : Nat} {vals : List Value} {objs : List VObj} {K : CK} (h : k_idxV1 n vals objs K) : Good (c_idxV1 n vals objs) K := by
  unfold k_idxV1 at h
  split at h
  · obtain ⟨h1, h2⟩ := req.elim h
    obtain ⟨v, h3, h4⟩ := rd.elim h2
    exact ⟨_, _, _, by simp only [c_idxV1]; rw [if_pos (of_decide_eq_true h1)]; simp only [h3, val], h4⟩
  · exact h.elim
theorem k_idxVN_good {n sz : Nat} {vals : List Value} {objs : List VObj} {K : CK} (h : k_idxVN n sz vals objs K) : Good (c_idxVN n sz vals objs) K := by
  unfold k_idxVN at h
  split at h
  · obtain ⟨h1, h2⟩ := req.elim h
    obtain ⟨_, h3⟩ := rdN.elim h2
    exact ⟨_, _, _, by simp only [c_idxVN, val]; rw [if_pos (of_decide_eq_true h1)], h3⟩
  · exact h.elim
theorem k_idxS_good {vals : List Value} {objs : List VObj} {K : CK} (h : k_idxS vals objs K) : Good (c_idxS vals objs) K := by
  unfold k_idxS at h
  split at h
  · obtain ⟨h1, h2⟩ := req.elim h
    obtain ⟨v, h3, h4⟩ := rdS.elim h2
    exact ⟨_, _, _, by simp only [c_idxS]; rw [if_pos (of_decide_eq_true h1)]; simp only [h3, val], h4⟩
  · exact h.elim
theorem k_ustr_good {t : Nat} {vals : List Value} {objs : List VObj} {K : CK} (h : k_ustr t vals objs K) : Good (c_ustr t vals objs) K := by
  unfold k_ustr at h
  split at h
  · exact ⟨_, _, _, rfl, h⟩
  · obtain ⟨h1, bs, h2, h3⟩ := req.elim h
    exact ⟨_, _, _, by simp only [c_ustr]; rw [if_pos (of_decide_eq_true h1)]; simp only [h2], h3⟩
  · exact h.elim
theorem k_clr_good {sz : Nat} {vals : List Value} {objs : List VObj} {K : CK} (h : k_clr sz vals objs K) : Good (c_clr sz vals objs) K := by
  unfold k_clr at h
  split at h
  · exact ⟨_, _, _, rfl, h⟩
  · obtain ⟨h1, cs', rfl, h3⟩ := req.elim h
    exact ⟨_, _, _, by simp only [c_clr]; rw [if_pos (of_decide_eq_true h1)], h3⟩
  · exact h.elim
theorem k_app_good {t sz bytes : Nat} {vals : List Value} {objs : List VObj} {top : Nat} {K : CK} (h : k_app t sz bytes vals objs top K) : Good (c_app t sz bytes vals objs top) K := by
  unfold k_app at h
  split at h
  · obtain ⟨c, m, h1, h2, h3⟩ := srcK.elim h
    obtain ⟨h4, cs', n', rfl, rfl, h5⟩ := req.elim h3
    exact ⟨_, _, _, by simp only [c_app, h1, h2]; rw [if_pos (of_decide_eq_true h4)], h5⟩
  · obtain ⟨c, m, h1, h2, h3⟩ := srcK.elim h
    obtain ⟨h4, cs', n', rfl, rfl, h5⟩ := req.elim h3
    simp only [Bool.and_eq_true, decide_eq_true_eq] at h4
    exact ⟨_, _, _, by simp only [c_app, h1, h2]; rw [if_pos ⟨h4.1.1.1, h4.1.1.2.1, h4.1.1.2.2.1, h4.1.1.2.2.2, h4.1.2, h4.2⟩], h5⟩
  · obtain ⟨c, m, h1, h2, h3⟩ := srcK.elim h
    obtain ⟨h4, cs', n', rfl, rfl, h5⟩ := req.elim h3
    exact ⟨_, _, _, by simp only [c_app, h1, h2, bSl]; rw [if_pos (of_decide_eq_true h4)], h5⟩
  · obtain ⟨c, m, h1, h2, h3⟩ := srcK.elim h
    obtain ⟨h4, cs', n', rfl, rfl, h5⟩ := req.elim h3
    simp only [Bool.and_eq_true, decide_eq_true_eq] at h4
    exact ⟨_, _, _, by simp only [c_app, h1, h2, bSl]; rw [if_pos ⟨h4.1.1.1, h4.1.1.2.1, h4.1.1.2.2.1, h4.1.1.2.2.2.1, h4.1.1.2.2.2.2, h4.1.2, h4.2⟩], h5⟩
  · exact h.elim
theorem k_nextS_good {vals : List Value} {objs : List VObj} {K : CK} (h : k_nextS vals objs K) : Good (c_nextS vals objs) K := by
  unfold k_nextS at h
  split at h
  · rename_i s pos
    cases hb : decide (pos < s.size) with
    | true => rw [hb] at h; exact ⟨_, _, _, by simp only [c_nextS]; rw [if_pos (of_decide_eq_true hb)], h⟩
    | false => rw [hb] at h; exact ⟨_, _, _, by simp only [c_nextS]; rw [if_neg (of_decide_eq_false hb)], h⟩
  · exact h.elim
theorem coreK.good {op : VOp} {vals : List Value} {objs : List VObj} {top : Nat} {K : CK} (h : coreK op vals objs top K) : Good (core op vals objs top) K := by
  cases op with
  | pick => exact k_pick_good h
  | load1 => exact k_load1_good h
  | loadN => exact k_loadN_good h
  | store => exact k_store_good h
  | bin => exact k_bin_good h
  | isNil => exact k_isNil_good h
  | b2s => exact k_b2s_good h
  | s2b => exact k_s2b_good h
  | mkSl => exact k_mkSl_good h
  | sliceS => exact k_sliceS_good h
  | sliceL => exact k_sliceL_good h
  | sliceA => exact k_sliceA_good h
  | idxAA => exact k_idxAA_good h
  | idxAL => exact k_idxAL_good h
  | idxV1 => exact k_idxV1_good h
  | idxVN => exact k_idxVN_good h
  | idxS => exact k_idxS_good h
  | app => exact k_app_good h
  | ustr => exact k_ustr_good h
  | clr => exact k_clr_good h
  | build => exact k_build_good h
  | buildSl => exact k_buildSl_good h
  | nextS => exact k_nextS_good h
  | _ => exact optK.good h
def aputsK (h : Hp) (is : List Nat) (os : List (Option VObj)) (K : Hp → Prop) : Prop :=
  match is, os with
  | i :: is, some o :: os => aputK h i o fun h' => aputsK h' is os K
  | i :: is, none :: os => adelK h i fun h' => aputsK h' is os K
  | _, _ => K h
theorem aputsK_eq : ∀ (is : List Nat) (os : List (Option VObj)) (h : Hp) (K : Hp → Prop), aputsK h is os K = K (aputs h is os)
  | [], _, h, K => by simp [aputsK, aputs]
  | i :: is, [], h, K => by simp [aputsK, aputs]
  | i :: is, some o :: os, h, K => by rw [aputsK, aputK_eq, aputsK_eq is os]; simp [aputs]
  | i :: is, none :: os, h, K => by rw [aputsK, adelK_eq, aputsK_eq is os]; simp [aputs]
def opK (op : VOp) (vals : List Value) (h : Hp) (top : Nat) (K : Option Value → Hp → Nat → Prop) : Prop :=
  match agets h (needs op vals) with
  | none => False
  | some objs => coreK op vals objs top fun v os fr => aputsK h (needs op vals) os fun h' => match fr with
    | none => K v h' top
    | some o => aputK h' top o fun h'' => K v h'' (top + 1)
theorem opK.elim {op : VOp} {vals : List Value} {h : Hp} {top : Nat} {K : Option Value → Hp → Nat → Prop} (hk : opK op vals h top K) : ∃ v h' top', opRun op vals h top = some (v, h', top') ∧ K v h' top' := by
  unfold opK at hk
  split at hk
  · exact hk.elim
  · rename_i objs hobjs
    obtain ⟨v, os, fr, hc, hk⟩ := hk.good
    rw [aputsK_eq] at hk
    cases fr with
    | none => exact ⟨v, _, _, by simp only [opRun, hobjs, hc], hk⟩
    | some o => simp only [aputK_eq] at hk; exact ⟨v, _, _, by simp only [opRun, hobjs, hc], hk⟩
def putK (n : Nat) (e : Env) (d : Option Nat) (v : Value) (K : Env → Prop) : Prop :=
  match d with
  | some i => cond (Nat.blt i n) (aputK e i v K) (K e)
  | none => K e
theorem putK_eq (n : Nat) (e : Env) (d : Option Nat) (v : Value) (K : Env → Prop) : putK n e d v K = K (putD n e d v) := by
  cases d with
  | none => rfl
  | some i => simp only [putK, putD]; cases Nat.blt i n <;> simp [aputK_eq]
def enumK (i : Nat) (vs : List Value) (K : Env → Prop) : Prop :=
  match vs with
  | [] => K []
  | v :: vs => enumK (i + 1) vs fun e => K ((i, v) :: e)
theorem enumK_eq : ∀ (vs : List Value) (i : Nat) (K : Env → Prop), enumK i vs K = K (enumEnv i vs)
  | [], _, _ => rfl
  | v :: vs, i, K => by rw [enumK, enumK_eq vs]; rfl
def enterK (F : Fns) (f : Nat) (args : List Value) (K : VFrame → Prop) : Prop :=
  match F f with
  | some ⟨nt, body, _⟩ => cond (Nat.ble args.length nt) (enumK 0 args fun e => K ⟨f, nt, e, [.code body], [], false, none⟩) False
  | none => False
theorem enterK.elim {F : Fns} {f : Nat} {args : List Value} {K : VFrame → Prop} (h : enterK F f args K) : ∃ c, enterF F f args = some c ∧ K c := by
  unfold enterK at h
  split at h
  · rename_i nt body rs hf
    cases hb : Nat.ble args.length nt with
    | false => rw [hb] at h; exact h.elim
    | true =>
      rw [hb, cond_true, enumK_eq] at h
      exact ⟨_, by simp only [enterF, hf]; rw [if_pos (Nat.le_of_ble_eq_true hb)], h⟩
  · exact h.elim
def finishK (u : VFrame) (v : Value) (K : VFrame → Prop) : Prop :=
  match u with
  | ⟨fn, nt, env, .inReg (⟨dst, _, _⟩ :: rest) :: k, defers, ret, round⟩ => putK nt env dst v fun e => K ⟨fn, nt, e, .inReg rest :: k, defers, ret, round⟩
  | ⟨fn, nt, env, .inRangeFunc l :: k, defers, ret, round⟩ => K ⟨fn, nt, env, .endRangeFunc l :: k, defers, ret, round⟩
  | _ => False
theorem finishK.elim {u : VFrame} {v : Value} {K : VFrame → Prop} (h : finishK u v K) : ∃ u', finish u v = some u' ∧ K u' := by
  unfold finishK at h
  split at h
  · rw [putK_eq] at h; exact ⟨_, rfl, h⟩
  · exact ⟨_, rfl, h⟩
  · exact h.elim
def resK (e : Env) (h : Hp) (rs : List VRes) (K : List Value → Prop) : Prop :=
  match rs with
  | [] => K []
  | .tmp t :: rs => match aget e t with
    | some v => resK e h rs fun vs => K (v :: vs)
    | none => False
  | .cell t ks agg :: rs => match aget e t with
    | some (.pointer (some ⟨b, o, none⟩)) => match aget h b with
      | some ob => match ob.cs with
        | some cs => cond agg (req (decide (o + ks.length ≤ cs.length)) (rdN cs o ks.length fun l => resK e h rs fun vs => K (.agg ⟨l⟩ :: vs))) (rd cs o fun v => resK e h rs fun vs => K (v :: vs))
        | none => False
      | none => False
    | _ => False
theorem resK.elim {e : Env} {h : Hp} : ∀ {rs : List VRes} {K : List Value → Prop}, resK e h rs K → ∃ vs, resVs e h rs = some vs ∧ K vs
  | [], K, hk => ⟨[], rfl, hk⟩
  | .tmp t :: rs, K, hk => by
    simp only [resK] at hk
    split at hk
    · rename_i v hv
      obtain ⟨vs, h1, h2⟩ := resK.elim hk
      exact ⟨v :: vs, by simp only [resVs, resV, hv, h1], h2⟩
    · exact hk.elim
  | .cell t ks agg :: rs, K, hk => by
    simp only [resK] at hk
    split at hk
    · rename_i b o hp
      split at hk
      · rename_i ob hob
        split at hk
        · rename_i cs hcs
          cases agg with
          | true =>
            obtain ⟨h1, h2⟩ := req.elim hk
            obtain ⟨_, h3⟩ := rdN.elim h2
            obtain ⟨vs, h4, h5⟩ := resK.elim h3
            exact ⟨_, by simp only [resVs, resV, hp, hob, hcs, ↓reduceIte, if_pos (of_decide_eq_true h1), h4], h5⟩
          | false =>
            obtain ⟨v, h1, h2⟩ := rd.elim hk
            obtain ⟨vs, h4, h5⟩ := resK.elim h2
            exact ⟨_, by simp only [resVs, resV, hp, hob, hcs, Bool.false_eq_true, ↓reduceIte, h1, h4], h5⟩
        · exact hk.elim
      · exact hk.elim
    · exact hk.elim
def forceO (o : VObj) (K : VObj → Prop) : Prop :=
  match o with
  | .cells cs => K (.cells cs)
  | .row own cs => K (.row own cs)
  | .ty t cs => K (.ty t cs)
  | .siter s p => K (.siter s p)
  | .loop l => K (.loop l)
  | .marks => K .marks
theorem forceO_eq (o : VObj) (K : VObj → Prop) : forceO o K = K o := by cases o <;> rfl
def forceH (h : Hp) (K : Hp → Prop) : Prop :=
  match h with
  | [] => K []
  | (i, o) :: l => forceO o fun o => forceH l fun l => K ((i, o) :: l)
theorem forceH_eq : ∀ (h : Hp) (K : Hp → Prop), forceH h K = K h
  | [], K => rfl
  | (i, o) :: l, K => by rw [forceH, forceO_eq, forceH_eq l]
def sumK (s : Summ) (vals : List Value) (h : Hp) (top : Nat) (K : Value → Hp → Nat → Prop) : Prop :=
  match sumRun s vals h top with
  | some (v, h', top') => forceV v fun v => forceH h' fun h' => K v h' top'
  | none => False
theorem sumK.elim {s : Summ} {vals : List Value} {h : Hp} {top : Nat} {K : Value → Hp → Nat → Prop} (hk : sumK s vals h top K) : ∃ v h' top', sumRun s vals h top = some (v, h', top') ∧ K v h' top' := by
  unfold sumK at hk
  split at hk
  · rw [forceV_eq, forceH_eq] at hk; exact ⟨_, _, _, by assumption, hk⟩
  · exact hk.elim
def stepOpK (F : Fns) (S : Sums) (o : VOper) (rest : List VOper) (k : List VItem) (fn nt : Nat) (env : Env) (defers : List Nat) (round : Option Nat) (up : List VFrame) (h : Hp) (top : Nat) (K : VM → Prop) : Prop :=
  match o with
  | ⟨dst, op, g⟩ => match evalL env op.ops with
    | none => False
    | some vals => match op with
      | .callF f _ => match S f with
        | some s => sumK s vals h top fun v h' top' => putK nt env dst v fun e => K ⟨⟨fn, nt, e, .inReg rest :: k, defers, false, round⟩, up, h', top'⟩
        | none => enterK F f vals fun c => K ⟨c, ⟨fn, nt, env, .inReg (⟨dst, op, g⟩ :: rest) :: k, defers, false, round⟩ :: up, h, top⟩
      | .callV _ _ => match vals with
        | .func (.func f) ⟨first⟩ ⟨caps⟩ :: args => match S f with
          | some s => sumK s (first ++ args ++ caps) h top fun v h' top' => putK nt env dst v fun e => K ⟨⟨fn, nt, e, .inReg rest :: k, defers, false, round⟩, up, h', top'⟩
          | none => enterK F f (first ++ args ++ caps) fun c => K ⟨c, ⟨fn, nt, env, .inReg (⟨dst, op, g⟩ :: rest) :: k, defers, false, round⟩ :: up, h, top⟩
        | .func (.yield l) ⟨[]⟩ ⟨[]⟩ :: args => match callRound l args h with
          | some c => K ⟨c, ⟨fn, nt, env, .inReg (⟨dst, op, g⟩ :: rest) :: k, defers, false, round⟩ :: up, h, top⟩
          | none => False
        | _ => False
      | op => opK op vals h top fun v h' top' => match v with
        | some v => putK nt env dst v fun e => K ⟨⟨fn, nt, e, .inReg rest :: k, defers, false, round⟩, up, h', top'⟩
        | none => putK nt env dst undefV fun e => K ⟨⟨fn, nt, e, .inReg rest :: k, defers, false, round⟩, up, h', top'⟩
theorem stepOpK.elim {F : Fns} {S : Sums} {o : VOper} {rest : List VOper} {k : List VItem} {fn nt : Nat} {env : Env} {todo : List VItem} {defers : List Nat} {round : Option Nat} {up : List VFrame} {h : Hp} {top : Nat} {K : VM → Prop}
    (hk : stepOpK F S o rest k fn nt env defers round up h top K) : ∃ vm', stepOp F S o rest k ⟨fn, nt, env, todo, defers, false, round⟩ up h top = some vm' ∧ K vm' := by
  obtain ⟨dst, op, g⟩ := o
  unfold stepOpK at hk
  unfold stepOp
  simp only at hk ⊢
  split at hk
  · exact hk.elim
  · rename_i vals hv
    simp only [hv]
    split at hk
    · rename_i f xs
      split at hk
      · rename_i s hs
        obtain ⟨v, h', top', h1, h2⟩ := hk.elim
        rw [putK_eq] at h2
        exact ⟨_, by simp only [hs, h1], h2⟩
      · rename_i hs
        obtain ⟨c, h1, h2⟩ := hk.elim
        exact ⟨_, by simp only [hs, h1], h2⟩
    · split at hk
      · split at hk
        · rename_i s hs
          obtain ⟨v, h', top', h1, h2⟩ := hk.elim
          rw [putK_eq] at h2
          exact ⟨_, by simp only [hs, h1], h2⟩
        · rename_i hs
          obtain ⟨c, h1, h2⟩ := hk.elim
          exact ⟨_, by simp only [hs, h1], h2⟩
      · split at hk
        · rename_i c hc
          exact ⟨_, by simp only [hc], hk⟩
        · exact hk.elim
      · exact hk.elim
    · rename_i hne1 hne2
      obtain ⟨v, h', top', h1, h2⟩ := hk.elim
      refine ⟨⟨⟨fn, nt, putD nt env dst (v.getD undefV), .inReg rest :: k, defers, false, round⟩, up, h', top'⟩, ?_, ?_⟩
      · split
        · exact absurd rfl (hne1 _ _)
        · exact absurd rfl (hne2 _ _)
        · simp only [h1]
      · cases v with
        | none => simp only [putK_eq] at h2; exact h2
        | some v => simp only [putK_eq] at h2; exact h2
def setBK (e : Env) (d : Nat) (x : Bool) (K : Env → Prop) : Prop :=
  match e with
  | [] => K []
  | (i, v) :: l => cond (Nat.beq i d) (K ((i, .bool x) :: l)) (setBK l d x fun l' => K ((i, v) :: l'))
theorem setBK_eq : ∀ {e : Env} {d : Nat} {x : Bool} {K : Env → Prop}, aget e d = some (.bool x) → setBK e d x K = K e
  | [], d, x, K, h => rfl
  | (i, v) :: l, d, x, K, h => by
    simp only [aget] at h
    simp only [setBK]
    cases hb : Nat.beq i d with
    | true => rw [hb, cond_true, Option.some.injEq] at h; subst h; rfl
    | false => rw [hb, cond_false] at h; simp only [cond_false]; rw [setBK_eq h]
def leaveRoundK (l : Nat) (jump : Option VC) (up : List VFrame) (h : Hp) (top : Nat) (K : VM → Prop) : Prop :=
  match leaveRound l jump up h top with
  | some ⟨u, us, h', top'⟩ => K ⟨u, us, h', top'⟩
  | none => False
theorem leaveRoundK.elim {l : Nat} {jump : Option VC} {up : List VFrame} {h : Hp} {top : Nat} {K : VM → Prop} (hk : leaveRoundK l jump up h top K) : ∃ vm', leaveRound l jump up h top = some vm' ∧ K vm' := by
  unfold leaveRoundK at hk
  split at hk
  · exact ⟨_, by assumption, hk⟩
  · exact hk.elim
def forceNL (l : List Nat) (K : List Nat → Prop) : Prop :=
  match l with
  | [] => K []
  | n :: l => forceNL l (fun l' => K (n :: l'))
theorem forceNL_eq : ∀ (l : List Nat) (K : List Nat → Prop), forceNL l K = K l
  | [], _ => rfl
  | v :: l, K => by rw [forceNL, forceNL_eq l]
def stepDK (S : Sums) (nt : Nat) (o : VOper) (e : Env) (h : Hp) (m : Nat) (K : Env → Hp → Nat → List Nat → List Nat → Prop) : Prop :=
  match o with
  | ⟨dst, op, _⟩ => match evalL e op.ops with
    | none => False
    | some vals => match op with
      | .callF f _ => match S f with
        | some s => sumK s vals h m fun v h' m' => putK nt e dst v fun e => forceNL (winBlks (winL h s.modes vals)) fun r => forceNL (winWr (winL h s.modes vals)) fun w => K e h' m' r w
        | none => False
      | .callV _ _ => match vals with
        | .func (.func f) ⟨first⟩ ⟨caps⟩ :: args => match S f with
          | some s => sumK s (first ++ args ++ caps) h m fun v h' m' => putK nt e dst v fun e => forceNL (winBlks (winL h s.modes (first ++ args ++ caps))) fun r => forceNL (winWr (winL h s.modes (first ++ args ++ caps))) fun w => K e h' m' r w
          | none => False
        | _ => False
      | op => opK op vals h m fun v h' m' => match v with
        | some v => putK nt e dst v fun e => K e h' m' (needs op vals) (cond (wrOp op) (needs op vals) [])
        | none => putK nt e dst undefV fun e => K e h' m' (needs op vals) (cond (wrOp op) (needs op vals) [])
theorem stepDK.elim {S : Sums} {nt : Nat} {o : VOper} {e : Env} {h : Hp} {m : Nat} {K : Env → Hp → Nat → List Nat → List Nat → Prop} (hk : stepDK S nt o e h m K) (hw : wantedV e o.g = some true) :
    ∃ e' h' m' r w, stepD S nt o e h m = some (e', h', m', r, w) ∧ K e' h' m' r w := by
  obtain ⟨dst, op, g⟩ := o
  unfold stepDK at hk
  simp only at hk hw
  unfold stepD
  simp only [hw]
  split at hk
  · exact hk.elim
  · rename_i vals hv
    simp only [hv]
    split at hk
    · split at hk
      · rename_i s hs
        obtain ⟨v, h', m', h1, h2⟩ := hk.elim
        rw [putK_eq, forceNL_eq, forceNL_eq] at h2
        exact ⟨_, _, _, _, _, by simp only [hs, h1], h2⟩
      · exact hk.elim
    · split at hk
      · split at hk
        · rename_i s hs
          obtain ⟨v, h', m', h1, h2⟩ := hk.elim
          rw [putK_eq, forceNL_eq, forceNL_eq] at h2
          exact ⟨_, _, _, _, _, by simp only [hs, h1], h2⟩
        · exact hk.elim
      · exact hk.elim
    · rename_i hne1 hne2
      obtain ⟨v, h', m', h1, h2⟩ := hk.elim
      refine ⟨putD nt e dst (v.getD undefV), h', m', needs op vals, cond (wrOp op) (needs op vals) [], ?_, ?_⟩
      · split
        · exact absurd rfl (hne1 _ _)
        · exact absurd rfl (hne2 _ _)
        · simp only [h1]
      · cases v with
        | none => simp only [putK_eq] at h2; exact h2
        | some v => simp only [putK_eq] at h2; exact h2
def stepGK (S : Sums) (nt : Nat) (o : VOper) (e : Env) (h : Hp) (m : Nat) (K : Env → Hp → Nat → List Nat → List Nat → Prop) : Prop :=
  match o with
  | ⟨dst, op, none⟩ => stepDK S nt ⟨dst, op, none⟩ e h m K
  | ⟨dst, op, some (d, x)⟩ => match aget e d with
    | some (.bool b) => cond x
        (br b (setBK e d true fun e => stepDK S nt ⟨dst, op, some (d, x)⟩ e h m K) (setBK e d false fun e => putK nt e dst undefV fun e => K e h m [] []))
        (br b (setBK e d true fun e => putK nt e dst undefV fun e => K e h m [] []) (setBK e d false fun e => stepDK S nt ⟨dst, op, some (d, x)⟩ e h m K))
    | some (.tuple ⟨[]⟩) => putK nt e dst undefV fun e => K e h m [] []
    | _ => False
def regDK (S : Sums) (nt : Nat) (os : List VOper) (e : Env) (h : Hp) (m : Nat) (K : List Fp → Env → Hp → Nat → Prop) : Prop :=
  match os with
  | [] => K [] e h m
  | o :: os => stepGK S nt o e h m fun e1 h1 m1 r w => regDK S nt os e1 h1 (m1 + 1) fun fps e h m' => K ((r, w ++ List.range' m (m1 - m)) :: fps) e h m'
theorem br.cases {b : Bool} {p q : Prop} (h : br b p q) : (b = true ∧ p) ∨ (b = false ∧ q) := by cases b; exact .inr ⟨rfl, h⟩; exact .inl ⟨rfl, h⟩
theorem stepGK.elim {S : Sums} {nt : Nat} {o : VOper} {e : Env} {h : Hp} {m : Nat} {K : Env → Hp → Nat → List Nat → List Nat → Prop} (hk : stepGK S nt o e h m K) :
    ∃ e' h' m' r w, stepD S nt o e h m = some (e', h', m', r, w) ∧ K e' h' m' r w := by
  obtain ⟨dst, op, g⟩ := o
  cases g with
  | none => exact stepDK.elim (o := ⟨dst, op, none⟩) hk rfl
  | some p =>
    obtain ⟨d, x⟩ := p
    simp only [stepGK] at hk
    have skip : wantedV e (some (d, x)) = some false → (putK nt e dst undefV fun e => K e h m [] []) → ∃ e' h' m' r w, stepD S nt ⟨dst, op, some (d, x)⟩ e h m = some (e', h', m', r, w) ∧ K e' h' m' r w := fun hw hk => by
      rw [putK_eq] at hk
      exact ⟨_, _, _, _, _, by simp only [stepD, hw], hk⟩
    split at hk
    · rename_i b hb
      cases x with
      | true =>
        rw [cond_true] at hk
        rcases hk.cases with ⟨rfl, hk⟩ | ⟨rfl, hk⟩ <;> rw [setBK_eq hb] at hk
        · exact stepDK.elim (show stepDK S nt ⟨dst, op, some (d, true)⟩ e h m K from hk) (by simp [wantedV, hb])
        · exact skip (by simp [wantedV, hb]) hk
      | false =>
        rw [cond_false] at hk
        rcases hk.cases with ⟨rfl, hk⟩ | ⟨rfl, hk⟩ <;> rw [setBK_eq hb] at hk
        · exact skip (by simp [wantedV, hb]) hk
        · exact stepDK.elim (show stepDK S nt ⟨dst, op, some (d, false)⟩ e h m K from hk) (by simp [wantedV, hb])
    · rename_i hb
      exact skip (by simp [wantedV, hb]) hk
    · exact hk.elim
theorem regDK.elim {S : Sums} {nt : Nat} : ∀ {os : List VOper} {e : Env} {h : Hp} {m : Nat} {K : List Fp → Env → Hp → Nat → Prop}, regDK S nt os e h m K → ∃ fps e' h' m', runD S nt os e h m = some (fps, e', h', m') ∧ K fps e' h' m'
  | [], e, h, m, K, hk => ⟨_, _, _, _, rfl, hk⟩
  | o :: os, e, h, m, K, hk => by
    simp only [regDK] at hk
    obtain ⟨e1, h1, m1, r, w, g1, g2⟩ := hk.elim
    obtain ⟨fps, e', h', m', k1, k2⟩ := regDK.elim g2
    exact ⟨_, _, _, _, by simp only [runD, g1, k1], k2⟩
def evStep (F : Fns) (S : Sums) (f : Nat) (lp : Bool) (L : VM → Prop) (E : Value → Hp → Nat → Prop) (K : VM → Prop) : VM → Prop
  | ⟨⟨fn, nt, env, todo, defers, ret, round⟩, up, h, top⟩ =>
    match ret with
    | true => match defers with
      | r :: ds => match aget h r with
        | some .marks => adelK h r fun h' => K ⟨⟨fn, nt, env, todo, ds, true, round⟩, up, h', top⟩
        | _ => False
      | [] => match F fn with
        | some ⟨_, _, rs⟩ => resK env h rs fun vs => match up with
          | u :: us => forceV (tupV vs) fun v => finishK u v fun u' => K ⟨u', us, h, top⟩
          | [] => cond (Nat.beq fn f) (forceV (tupV vs) fun v => E v h top) False
        | none => False
    | false => match todo with
      | [] => match round with
        | none => K ⟨⟨fn, nt, env, [], defers, true, none⟩, up, h, top⟩
        | some l => leaveRoundK l none up h top K
      | .code .ret :: k => match round with
        | none => K ⟨⟨fn, nt, env, .code .ret :: k, defers, true, none⟩, up, h, top⟩
        | some l => leaveRoundK l (some .ret) up h top K
      | .code .skip :: k => K ⟨⟨fn, nt, env, k, defers, false, round⟩, up, h, top⟩
      | .inBlock _ :: k => K ⟨⟨fn, nt, env, k, defers, false, round⟩, up, h, top⟩
      | .code (.seq a b) :: k => K ⟨⟨fn, nt, env, .code a :: .code b :: k, defers, false, round⟩, up, h, top⟩
      | .code (.cond c a b) :: k => match evalO env c with
        | some (.bool x) => br x (K ⟨⟨fn, nt, env, .code a :: k, defers, false, round⟩, up, h, top⟩) (K ⟨⟨fn, nt, env, .code b :: k, defers, false, round⟩, up, h, top⟩)
        | _ => False
      | .code (.block id b) :: k => K ⟨⟨fn, nt, env, .code b :: .inBlock id :: k, defers, false, round⟩, up, h, top⟩
      | .code (.loop b) :: k => cond lp (L ⟨⟨fn, nt, env, .code b :: .inLoop b :: k, defers, false, round⟩, up, h, top⟩) (K ⟨⟨fn, nt, env, .code b :: .inLoop b :: k, defers, false, round⟩, up, h, top⟩)
      | .inLoop b :: k => cond lp (L ⟨⟨fn, nt, env, .code b :: .inLoop b :: k, defers, false, round⟩, up, h, top⟩) (K ⟨⟨fn, nt, env, .code b :: .inLoop b :: k, defers, false, round⟩, up, h, top⟩)
      | .code (.exit id) :: k => match exitTo id k with
        | some k' => K ⟨⟨fn, nt, env, k', defers, false, round⟩, up, h, top⟩
        | none => match round with
          | none => False
          | some l => leaveRoundK l (some (.exit id)) up h top K
      | .code (.reg ops) :: k => K ⟨⟨fn, nt, env, .inReg ops :: k, defers, false, round⟩, up, h, top⟩
      | .code .stuck :: _ => False
      | .code (.regD ops ord post) :: k => regDK S nt ops env h top fun fps e h m => req (okPairs fps ord) (K ⟨⟨fn, nt, e, .inReg post :: k, defers, false, round⟩, up, h, m⟩)
      | .inReg [] :: k => K ⟨⟨fn, nt, env, k, defers, false, round⟩, up, h, top⟩
      | .inReg (⟨dst, op, none⟩ :: rest) :: k => stepOpK F S ⟨dst, op, none⟩ rest k fn nt env defers round up h top K
      | .inReg (⟨dst, op, some (d, w)⟩ :: rest) :: k => match aget env d with
        | some (.bool b) => cond w
            (br b (setBK env d true fun env => stepOpK F S ⟨dst, op, some (d, w)⟩ rest k fn nt env defers round up h top K) (setBK env d false fun env => putK nt env dst undefV fun e => K ⟨⟨fn, nt, e, .inReg rest :: k, defers, false, round⟩, up, h, top⟩))
            (br b (setBK env d true fun env => putK nt env dst undefV fun e => K ⟨⟨fn, nt, e, .inReg rest :: k, defers, false, round⟩, up, h, top⟩) (setBK env d false fun env => stepOpK F S ⟨dst, op, some (d, w)⟩ rest k fn nt env defers round up h top K))
        | some (.tuple ⟨[]⟩) => putK nt env dst undefV fun e => K ⟨⟨fn, nt, e, .inReg rest :: k, defers, false, round⟩, up, h, top⟩
        | _ => False
      | .code (.rangeF f ps asg body) :: k => match evalO env f, round with
        | some (.func (.func g) ⟨first⟩ ⟨caps⟩), none =>
          enterK F g (first ++ [.func (.yield (top + 1)) #[] #[]] ++ caps) fun c => aputK h top .marks fun h1 => aputK h1 (top + 1) (.loop ⟨.ready, none, fn, nt, env, ps, asg, body, top⟩) fun h2 =>
            K ⟨c, ⟨fn, nt, env, .inRangeFunc (top + 1) :: k, top :: defers, false, none⟩ :: up, h2, top + 2⟩
        | some (.func (.func g) ⟨first⟩ ⟨caps⟩), some l0 => match aget h l0 with
          | some (.loop r0) => enterK F g (first ++ [.func (.yield top) #[] #[]] ++ caps) fun c => aputK h top (.loop ⟨.ready, none, fn, nt, env, ps, asg, body, r0.defers⟩) fun h2 =>
              K ⟨c, ⟨fn, nt, env, .inRangeFunc top :: k, defers, false, some l0⟩ :: up, h2, top + 1⟩
          | _ => False
        | _, _ => False
      | .inRangeFunc _ :: _ => False
      | .endRangeFunc l :: k => match aget h l with
        | some (.loop ⟨st, pend, fn', nt', env', ps, asg, body, ds⟩) => match st with
          | .busy => False
          | _ => aputK h l (.loop ⟨.exhausted, pend, fn', nt', env', ps, asg, body, ds⟩) fun h' => match pend with
            | some c => K ⟨⟨fn, nt, env, .code c :: k, defers, false, round⟩, up, h', top⟩
            | none => K ⟨⟨fn, nt, env, k, defers, false, round⟩, up, h', top⟩
        | _ => False
      | .beginRound :: k => match round with
        | some l => match aget h l with
          | some (.loop ⟨st, pend, fn', nt', env', ps, asg, body, ds⟩) => match st with
            | .ready => aputK h l (.loop ⟨.busy, pend, fn', nt', env', ps, asg, body, ds⟩) fun h' => K ⟨⟨fn, nt, env, k, defers, false, some l⟩, up, h', top⟩
            | _ => False
          | _ => False
        | none => False
section
variable {P : Program} {F : Fns} {S : Sums}
theorem evStep_ok (hF : FnsOK P F) (hS : SumsOK P S) {f base : Nat} {lp : Bool} {R : Value → Hp → Nat → Prop} {K : VM → Prop} (hK : ∀ vm, K vm → Leads P f base vm R) {vm : VM}
    (h : evStep F S f lp (fun vm => Leads P f base vm R) R K vm) : Leads P f base vm R := by
  obtain ⟨⟨fn, nt, env, todo, defers, ret, round⟩, up, H, top⟩ := vm
  unfold evStep at h
  simp only at h
  have go : ∀ vm', vstep F S ⟨⟨fn, nt, env, todo, defers, ret, round⟩, up, H, top⟩ = some vm' → K vm' → Leads P f base ⟨⟨fn, nt, env, todo, defers, ret, round⟩, up, H, top⟩ R :=
    fun vm' h1 h2 => Leads.next hF hS h1 (hK _ h2)
  split at h
  · split at h
    · split at h
      · rename_i hm
        rw [adelK_eq] at h
        exact go _ (by simp only [vstep, hm]) h
      · exact h.elim
    · split at h
      · rename_i nt' b' rs hf
        obtain ⟨vs, h1, h2⟩ := h.elim
        split at h2
        · rw [forceV_eq] at h2
          obtain ⟨u', h3, h4⟩ := h2.elim
          exact go _ (by simp only [vstep, hf, h1, h3]) h4
        · cases hb : Nat.beq fn f with
          | false => rw [hb] at h2; exact h2.elim
          | true =>
            rw [hb, cond_true, forceV_eq] at h2
            have := Nat.eq_of_beq_eq_true hb
            subst this
            exact Leads.stop hF hf h1 h2
      · exact h.elim
  · split at h
    · split at h
      · exact go _ (by simp only [vstep]) h
      · obtain ⟨vm', h1, h2⟩ := h.elim
        exact go _ (by simp only [vstep, h1]) h2
    · split at h
      · exact go _ (by simp only [vstep]) h
      · obtain ⟨vm', h1, h2⟩ := h.elim
        exact go _ (by simp only [vstep, h1]) h2
    · exact go _ (by simp only [vstep]) h
    · exact go _ (by simp only [vstep]) h
    · exact go _ (by simp only [vstep]) h
    · split at h
      · rename_i x hx
        rcases h.cases with ⟨rfl, h⟩ | ⟨rfl, h⟩
        · exact go _ (by simp only [vstep, hx]; rfl) h
        · exact go _ (by simp only [vstep, hx]; rfl) h
      · exact h.elim
    · exact go _ (by simp only [vstep]) h
    · cases lp
      · exact go _ (by simp only [vstep]) h
      · exact Leads.next hF hS (vm' := _) (by simp only [vstep]) h
    · cases lp
      · exact go _ (by simp only [vstep]) h
      · exact Leads.next hF hS (vm' := _) (by simp only [vstep]) h
    · split at h
      · rename_i k' hk'
        exact go _ (by simp only [vstep, hk']) h
      · rename_i hk'
        split at h
        · exact h.elim
        · obtain ⟨vm', h1, h2⟩ := h.elim
          exact go _ (by simp only [vstep, hk', h1]) h2
    · exact go _ (by simp only [vstep]) h
    · exact h.elim
    · obtain ⟨fps, e', h', m', g1, g2⟩ := h.elim
      obtain ⟨g3, g4⟩ := g2.elim
      exact go _ (by simp only [vstep, g1, g3]) g4
    · exact go _ (by simp only [vstep]) h
    · obtain ⟨vm', h1, h2⟩ := stepOpK.elim (todo := _) h
      exact go _ (by simp only [vstep, wantedV]; exact h1) h2
    · split at h
      · rename_i b hb
        rename_i w _ _ _
        cases w
        · rcases h.cases with ⟨rfl, h'⟩ | ⟨rfl, h'⟩ <;> rw [setBK_eq hb] at h'
          · rw [putK_eq] at h'
            replace h := h'
            exact go _ (by simp only [vstep, wantedV, hb]; rfl) h
          · obtain ⟨vm', h1, h2⟩ := stepOpK.elim (todo := _) h'
            exact go _ (by simp only [vstep, wantedV, hb]; exact h1) h2
        · rcases h.cases with ⟨rfl, h'⟩ | ⟨rfl, h'⟩ <;> rw [setBK_eq hb] at h'
          · obtain ⟨vm', h1, h2⟩ := stepOpK.elim (todo := _) h'
            exact go _ (by simp only [vstep, wantedV, hb]; exact h1) h2
          · rw [putK_eq] at h'
            replace h := h'
            exact go _ (by simp only [vstep, wantedV, hb]; rfl) h
      · rename_i hb
        rw [putK_eq] at h
        exact go _ (by simp only [vstep, wantedV, hb]) h
      · exact h.elim
    · split at h
      · rename_i hfv
        obtain ⟨c, h1, h2⟩ := h.elim
        rw [aputK_eq, aputK_eq] at h2
        exact go _ (by simp only [vstep, hfv, h1]) h2
      · rename_i hfv
        split at h
        · rename_i r0 hr0
          obtain ⟨c, h1, h2⟩ := h.elim
          rw [aputK_eq] at h2
          exact go _ (by simp only [vstep, hfv, hr0, h1]) h2
        · exact h.elim
      · exact h.elim
    · exact h.elim
    · split at h
      · rename_i hl
        split at h
        · exact h.elim
        · rename_i hb
          rw [aputK_eq] at h
          split at h
          · rename_i st _ _ _ _ _ _ _ _ _ _
            exact go _ (by simp only [vstep, hl]; cases st <;> first | exact absurd rfl hb | rfl) h
          · rename_i st _ _ _ _ _ _ _ _ _
            exact go _ (by simp only [vstep, hl]; cases st <;> first | exact absurd rfl hb | rfl) h
      · exact h.elim
    · split at h
      · split at h
        · rename_i hl
          split at h
          · rw [aputK_eq] at h
            exact go _ (by simp only [vstep, hl]) h
          · exact h.elim
        · exact h.elim
      · exact h.elim
def ev (F : Fns) (S : Sums) (f : Nat) (lp : Bool) (L : VM → Prop) (E : Value → Hp → Nat → Prop) : Nat → VM → Prop
  | 0, vm => L vm
  | n + 1, vm => evStep F S f lp L E (ev F S f lp L E n) vm
theorem ev_ok (hF : FnsOK P F) (hS : SumsOK P S) {f base : Nat} (lp : Bool) {R : Value → Hp → Nat → Prop} : ∀ (n : Nat) {vm : VM}, ev F S f lp (fun vm => Leads P f base vm R) R n vm → Leads P f base vm R
  | 0, _, h => h
  | n + 1, _, h => evStep_ok hF hS (fun _ h => ev_ok hF hS lp n h) h
end
end Go.Vm
namespace Go.Vm
open Go
def TabOK (P : Program) : List (Nat × VFn) → Prop
  | [] => True
  | (i, vf) :: l => (P.funcs[i]?).bind (compFn P) = some vf ∧ TabOK P l
theorem FnsOK.of_tab {P : Program} : ∀ {l : List (Nat × VFn)}, TabOK P l → FnsOK P (aget l)
  | [], _, f, vf, h => by simp [aget] at h
  | (i, v) :: l, hl, f, vf, h => by
    obtain ⟨h1, h2⟩ := hl
    simp only [aget] at h
    cases hb : Nat.beq i f with
    | true =>
      rw [hb, cond_true, Option.some.injEq] at h
      subst h
      have := Nat.eq_of_beq_eq_true hb
      subst this
      cases hf : P.funcs[i]? with
      | none => simp [hf] at h1
      | some fn => rw [hf, Option.bind_some] at h1; exact ⟨fn, rfl, h1⟩
    | false =>
      rw [hb, cond_false] at h
      exact FnsOK.of_tab h2 f vf h
theorem SumsOK.none {P : Program} : SumsOK P (fun _ => none) := fun _ _ h => by cases h
end Go.Vm
namespace Go.Vm
open Go
def subE (e : Env) : Env → Prop
  | [] => True
  | (i, v) :: l => aget e i = some v ∧ subE e l
theorem subE_get {e : Env} : ∀ {l : Env}, subE e l → ∀ i v, aget l i = some v → aget e i = some v
  | [], _, i, v, h => by simp [aget] at h
  | (j, u) :: l, h, i, v, hv => by
    obtain ⟨h1, h2⟩ := h
    simp only [aget] at hv
    cases hb : Nat.beq j i with
    | true =>
      rw [hb, cond_true, Option.some.injEq] at hv
      subst hv
      have := Nat.eq_of_beq_eq_true hb; subst this
      exact h1
    | false =>
      rw [hb, cond_false] at hv
      exact subE_get h2 i v hv
theorem Leads.env {P : Program} {f base fn nt : Nat} {e e' : Env} {todo : List VItem} {defers : List Nat} {ret : Bool} {round : Option Nat} {up : List VFrame} {H : Hp} {top : Nat} {R : Value → Hp → Nat → Prop}
    (h : Leads P f base ⟨⟨fn, nt, e', todo, defers, ret, round⟩, up, H, top⟩ R) (hs : subE e e') : Leads P f base ⟨⟨fn, nt, e, todo, defers, ret, round⟩, up, H, top⟩ R := by
  refine ⟨fun w0 U ρ rf rfs w cs hr => ?_⟩
  exact h.get w0 U ρ rf rfs w cs ⟨{ hr.cur with env := fun i v hv => hr.cur.env i v (subE_get hs i v hv) }, hr.up, hr.heap⟩
end Go.Vm
namespace Go.Vm
open Go Go.RowKit
inductive SArg where
  | v (x : Value)
  | sl (n : Nat) (cs : List Value)
def entry (k : Nat) : List Md → List SArg → List Value
  | .v :: ms, .v x :: aqs => x :: entry k ms aqs
  | .sl sz :: ms, .sl n _ :: aqs => .slice (some ⟨k, 0, none⟩) n sz :: entry (k + 1) ms aqs
  | _, _ => []
def rowsOf (k : Nat) : List SArg → Hp
  | .sl _ cs :: aqs => (k, .row false cs) :: rowsOf (k + 1) aqs
  | .v _ :: aqs => rowsOf k aqs
  | [] => []
def wins : List SArg → Nat
  | .sl _ _ :: aqs => wins aqs + 1
  | .v _ :: aqs => wins aqs
  | [] => 0
def ArgR (w : World) : Md → SArg → Value → Prop
  | .v, .v x, rv => flatV x = true ∧ rv = x
  | .sl sz, .sl n cs, rv => ((∃ a, rv = .slice a 0 0) ∧ n = 0 ∧ cs = []) ∨ ∃ b o c, rv = .slice (some ⟨b, o, none⟩) n c ∧ n ≤ c ∧ ∀ ρ, CellsR ρ w ⟨b, o, c * sz⟩ false cs
  | _, _, _ => False
inductive ArgsR (w : World) : List Md → List SArg → List Value → Prop
  | nil : ArgsR w [] [] []
  | cons {m ms a aqs v vs} (h : ArgR w m a v) (t : ArgsR w ms aqs vs) : ArgsR w (m :: ms) (a :: aqs) (v :: vs)
theorem add_win {k n : Nat} {ρc : Ren} {vs rvs : List Value} {Hr : Hp} {w : World} (c1 : ∀ i l, ρc i = some l → k + 1 ≤ i ∧ i < k + 1 + n) (c2 : VRL ρc vs rvs)
    (c3 : ∀ i o, aget Hr i = some o → ∃ cs l, o = .row false cs ∧ ρc i = some l ∧ ∀ ρ', CellsR ρ' w l false cs) (l : Loc) (cs : List Value) (hc : ∀ ρ', CellsR ρ' w l false cs) :
    (∀ i l', upd ρc k l i = some l' → k ≤ i ∧ i < k + 1 + n) ∧ VRL (upd ρc k l) vs rvs ∧
      (∀ i o, aget ((k, .row false cs) :: Hr) i = some o → ∃ cs l', o = .row false cs ∧ upd ρc k l i = some l' ∧ ∀ ρ', CellsR ρ' w l' false cs) ∧ upd ρc k l k = some l := by
  have hoff : ρc k = none := by
    cases e : ρc k with
    | none => rfl
    | some l => have := (c1 k l e).1; omega
  refine ⟨fun i l' e => ?_, c2.mono (Ext.upd hoff), fun i o e => ?_, upd_same _ _ _⟩
  · by_cases hi : k = i
    · subst hi; omega
    · rw [upd_ne _ _ hi] at e; have := c1 i l' e; omega
  · rw [aget_cons] at e
    split at e
    · rename_i hk
      cases e; subst hk
      exact ⟨cs, l, rfl, upd_same _ _ _, hc⟩
    · rename_i hk
      obtain ⟨cs', l', a, b, c⟩ := c3 i o e
      exact ⟨cs', l', a, by rw [upd_ne _ _ hk]; exact b, c⟩
theorem argsR_fit {w : World} : ∀ {ms : List Md} {aqs : List SArg} {rvals : List Value} (k : Nat), ArgsR w ms aqs rvals →
    ∃ ρc : Ren, (∀ i l, ρc i = some l → k ≤ i ∧ i < k + wins aqs) ∧ VRL ρc (entry k ms aqs) rvals ∧
      (∀ i o, aget (rowsOf k aqs) i = some o → ∃ cs l, o = .row false cs ∧ ρc i = some l ∧ ∀ ρ', CellsR ρ' w l false cs)
  | _, _, _, k, .nil => ⟨fun _ => none, fun i l e => by simp at e, .nil, fun i o e => by simp [rowsOf, aget] at e⟩
  | _, _, _, k, .cons (m := m) (a := a) (v := v) h t => by
    cases m with
    | v =>
      cases a with
      | v x =>
        obtain ⟨hf, rfl⟩ := h
        obtain ⟨ρc, c1, c2, c3⟩ := argsR_fit k t
        exact ⟨ρc, c1, .cons (VR.flat _ _ hf) c2, c3⟩
      | _ => exact h.elim
    | sl sz =>
      cases a with
      | sl n cs =>
        obtain ⟨ρc, c1, c2, c3⟩ := argsR_fit (k + 1) t
        rcases h with ⟨⟨a, rfl⟩, rfl, rfl⟩ | ⟨b, o, c, rfl, hn, hc⟩
        · obtain ⟨d1, d2, d3, d4⟩ := add_win c1 c2 c3 ⟨0, 0, 0⟩ [] (fun ρ' => ⟨Nat.zero_le _, fun i v e => by simp at e, fun i hi => absurd hi (Nat.not_lt_zero _)⟩)
          exact ⟨_, by simpa [wins, Nat.add_assoc, Nat.add_comm 1] using d1, .cons (.slice0 _) d2, d3⟩
        · obtain ⟨d1, d2, d3, d4⟩ := add_win c1 c2 c3 ⟨b, o, c * sz⟩ cs hc
          exact ⟨_, by simpa [wins, Nat.add_assoc, Nat.add_comm 1] using d1, .cons (.slice d4 hn (by simp)) d2, d3⟩
      | _ => exact h.elim
    | pt n => cases a <;> exact h.elim
    | tr ps => cases a <;> exact h.elim
theorem calls_of_leads {P : Program} {F : Fns} (hF : FnsOK P F) {f : Nat} {ms : List Md} {aqs : List SArg} {rvals : List Value} {w : World} {c : VFrame} {r : Bool}
    (ha : ArgsR w ms aqs rvals) (hc : enterF F f (entry 0 ms aqs) = some c) (hl : Leads P f (wins aqs) ⟨c, [], rowsOf 0 aqs, wins aqs⟩ (fun v _ _ => v = .bool r)) :
    Calls P f ⟨rvals⟩ w fun e w' => e = .returned (.bool r) ∧ Below w.heap.size w w' := by
  intro cs
  obtain ⟨ρc, c1, c2, c3⟩ := argsR_fit 0 ha
  have hpc : HpR P w UG.no ρc (rowsOf 0 aqs) (wins aqs) w :=
    { obj := fun i o e => by obtain ⟨cs', l, rfl, a, b⟩ := c3 i o e; exact ⟨l, a, b ρc, fun e => by cases e⟩
      dis := fun i j oi oj li lj _ hi _ _ _ hw => by obtain ⟨cs', l, rfl, a, b⟩ := c3 i oi hi; cases hw
      lt := fun i l e => by have := c1 i l e; exact .inr ⟨Nat.zero_le _, by omega⟩
      keep := Keep.refl _ _ }
  obtain ⟨ρ', rv, fr', w', v', Hc, tc, g1, g2, g3, g4, g5, g6, g7⟩ := hl.get w _ ρc _ [] w cs ⟨(enter_ok hF hc c2).1, .nil, hpc⟩
  subst g7
  obtain rfl := g4.boolInv
  exact ⟨.returned (.bool r), w', fr', ⟨rfl, g5.keep.toBelow⟩, g1, g2, g3⟩
end Go.Vm
namespace Go.Vm
open Go
def SumTab (P : Program) : List (Nat × Summ) → Prop
  | [] => True
  | (i, s) :: l => SumOK P i s ∧ SumTab P l
theorem SumsOK.of_tab {P : Program} : ∀ {l : List (Nat × Summ)}, SumTab P l → SumsOK P (aget l)
  | [], _, f, s, h => by simp [aget] at h
  | (i, v) :: l, hl, f, s, h => by
    obtain ⟨h1, h2⟩ := hl
    simp only [aget] at h
    cases hb : Nat.beq i f with
    | true =>
      rw [hb, cond_true, Option.some.injEq] at h
      subst h
      have := Nat.eq_of_beq_eq_true hb
      subst this
      exact h1
    | false =>
      rw [hb, cond_false] at h
      exact SumsOK.of_tab h2 f s h
theorem sumK.intro {s : Summ} {vals : List Value} {h : Hp} {top : Nat} {K : Value → Hp → Nat → Prop} {v : Value} {h' : Hp} {top' : Nat} (e : sumRun s vals h top = some (v, h', top')) (k : forceV v fun v => K v h' top') : sumK s vals h top K := by
  unfold sumK; rw [e]; simp only [forceV_eq, forceH_eq] at *; exact k
def unL {α : Type} (f : Value → Option α) : List Value → Option (List α)
  | [] => some []
  | v :: l => match f v with
    | some x => match unL f l with
      | some xs => some (x :: xs)
      | none => none
    | none => none
theorem unL_map {α : Type} {f : Value → Option α} {g : α → Value} (h : ∀ x, f (g x) = some x) : ∀ (xs : List α), unL f (xs.map g) = some xs
  | [] => rfl
  | x :: xs => by rw [List.map_cons, unL, h, unL_map h xs]
theorem unL_eq {α : Type} {f : Value → Option α} {g : α → Value} (h : ∀ v x, f v = some x → v = g x) : ∀ {cs : List Value} {xs : List α}, unL f cs = some xs → cs = xs.map g
  | [], xs, e => by simp only [unL, Option.some.injEq] at e; subst e; rfl
  | v :: cs, xs, e => by
    simp only [unL] at e
    split at e <;> try (cases e; done)
    rename_i x hx
    split at e <;> cases e
    rename_i ys hys
    rw [List.map_cons, ← h v x hx, ← unL_eq h hys]
theorem flatL_map {α : Type} {g : α → Value} (h : ∀ x, flatV (g x) = true) : ∀ (xs : List α), flatV.flatL (xs.map g) = true
  | [] => rfl
  | x :: xs => by rw [List.map_cons, flatV.flatL, h, flatL_map h xs]; rfl
def asB : Value → Option Bool | .bool b => some b | _ => none
theorem asB_eq (v : Value) (x : Bool) (h : asB v = some x) : v = .bool x := by cases v <;> simp [asB] at h; subst h; rfl
def asI (k : IntKind) : Value → Option Int | .int k' n => if k' = k then some n else none | _ => none
theorem asI_eq (k : IntKind) (v : Value) (x : Int) (h : asI k v = some x) : v = .int k x := by
  cases v <;> simp [asI] at h
  obtain ⟨rfl, rfl⟩ := h; rfl
def reE (m : Nat → Option Nat) (e : Env) : Env → Prop
  | [] => True
  | (i, v) :: l => (∃ v', renV m v = some v' ∧ aget e i = some v') ∧ reE m e l
theorem reE_ren {m : Nat → Option Nat} {e : Env} : ∀ {l : Env}, reE m e l → renE m e l
  | [], _ => trivial
  | (i, v) :: l, ⟨⟨v', h1, h2⟩, h3⟩ => ⟨by rw [h1]; exact h2, reE_ren h3⟩
def reH (m : Nat → Option Nat) (H : Hp) : Hp → Prop
  | [] => True
  | (i, o') :: l => (∃ j o, m i = some j ∧ aget H j = some o ∧ OSub m o o') ∧ reH m H l
theorem reH_sub {m : Nat → Option Nat} {H : Hp} : ∀ {l : Hp}, reH m H l → HSub m H l
  | [], _, i, o, h => by simp [aget] at h
  | (k, x) :: l, ⟨h1, h2⟩, i, o, h => by
    rw [aget_cons] at h
    split at h
    · rename_i e; cases h; subst e; exact h1
    · exact reH_sub h2 i o h
def reU (m : Nat → Option Nat) : List VFrame → List VFrame → Prop
  | [], [] => True
  | ⟨fn, nt, e, td, ds, ret, rd⟩ :: l, ⟨fn', nt', e', td', ds', ret', rd'⟩ :: l' => (fn' = fn ∧ nt' = nt ∧ ret' = ret ∧ rd = none ∧ rd' = none ∧ reE m e e' ∧ renT m td' = some td ∧ renN m ds' = some ds) ∧ reU m l l'
  | _, _ => False
theorem reU_sub {m : Nat → Option Nat} : ∀ {l l' : List VFrame}, reU m l l' → All2 (FSub m) l l'
  | [], [], _ => .nil
  | ⟨_, _, _, _, _, _, _⟩ :: l, ⟨_, _, _, _, _, _, _⟩ :: l', ⟨⟨h1, h2, h3, h4, h5, h6, h7, h8⟩, h9⟩ => .cons ⟨h1, h2, reE_ren h6, h7, h8, h3, by simp only; rw [h4, h5]; trivial⟩ (reU_sub h9)
  | [], _ :: _, h => h.elim
  | _ :: _, [], h => h.elim
def valsNot (j : Nat) : List (Nat × Nat) → Bool
  | [] => true
  | (_, k) :: l => cond (Nat.beq j k) false (valsNot j l)
def chkM (base top' : Nat) : List (Nat × Nat) → Bool
  | m => injM m && ltM m && fixM m base
where
  injM : List (Nat × Nat) → Bool
    | [] => true
    | (_, j) :: l => valsNot j l && injM l
  ltM : List (Nat × Nat) → Bool
    | [] => true
    | (i, _) :: l => Nat.blt i top' && ltM l
  fixM (m : List (Nat × Nat)) : Nat → Bool
    | 0 => true
    | n + 1 => (match aget m n with | some j => Nat.beq j n | none => false) && fixM m n
theorem valsNot_spec {j : Nat} : ∀ {l : List (Nat × Nat)}, valsNot j l = true → ∀ i, aget l i ≠ some j
  | [], _, i, h => by simp [aget] at h
  | (a, k) :: l, hv, i, h => by
    simp only [valsNot] at hv
    cases hb : Nat.beq j k with
    | true => rw [hb] at hv; cases hv
    | false =>
      rw [hb, cond_false] at hv
      rw [aget_cons] at h
      split at h
      · cases h; simp at hb
      · exact valsNot_spec hv i h
theorem injM_spec {top' : Nat} : ∀ {l : List (Nat × Nat)}, chkM.injM l = true → ∀ i j k, aget l i = some k → aget l j = some k → i = j
  | [], _, i, j, k, h, _ => by simp [aget] at h
  | (a, b) :: l, hv, i, j, k, h1, h2 => by
    simp only [chkM.injM, Bool.and_eq_true] at hv
    rw [aget_cons] at h1 h2
    split at h1 <;> split at h2
    · omega
    · cases h1; exact absurd h2 (valsNot_spec hv.1 j)
    · cases h2; exact absurd h1 (valsNot_spec hv.1 i)
    · exact injM_spec (top' := top') hv.2 i j k h1 h2
theorem ltM_spec {top' : Nat} : ∀ {l : List (Nat × Nat)}, chkM.ltM top' l = true → ∀ i j, aget l i = some j → i < top'
  | [], _, i, j, h => by simp [aget] at h
  | (a, b) :: l, hv, i, j, h => by
    simp only [chkM.ltM, Bool.and_eq_true] at hv
    rw [aget_cons] at h
    split at h
    · rename_i e; subst e; exact Nat.blt_eq.mp hv.1
    · exact ltM_spec hv.2 i j h
theorem fixM_spec {m : List (Nat × Nat)} : ∀ {n : Nat}, chkM.fixM m n = true → ∀ i, i < n → aget m i = some i
  | 0, _, i, h => absurd h (Nat.not_lt_zero _)
  | n + 1, hv, i, h => by
    simp only [chkM.fixM, Bool.and_eq_true] at hv
    by_cases hi : i = n
    · subst hi
      have := hv.1
      split at this
      · rename_i j hj; rw [hj, Nat.eq_of_beq_eq_true this]
      · cases this
    · exact fixM_spec hv.2 i (by omega)
theorem Leads.re {P : Program} {f base fn nt : Nat} {e e' : Env} {todo todo' : List VItem} {ds ds' : List Nat} {ret : Bool} {up up' : List VFrame} {H H' : Hp} {top top' : Nat} {R : Value → Hp → Nat → Prop}
    (h : Leads P f base ⟨⟨fn, nt, e', todo', ds', ret, none⟩, up', H', top'⟩ R) (m : List (Nat × Nat)) (hc : chkM base top' m = true) (he : reE (aget m) e e') (hH : reH (aget m) H H')
    (ht : renT (aget m) todo' = some todo := by rfl) (hd : renN (aget m) ds' = some ds := by rfl) (hu : reU (aget m) up up' := by trivial) :
    Leads P f base ⟨⟨fn, nt, e, todo, ds, ret, none⟩, up, H, top⟩ R := by
  simp only [chkM, Bool.and_eq_true] at hc
  refine Leads.sub (s := aget m) ?_ h
  exact ⟨⟨rfl, rfl, reE_ren he, ht, hd, rfl, trivial⟩, reU_sub hu, reH_sub hH, injM_spec (top' := top') hc.1.1, ltM_spec hc.1.2, fixM_spec hc.2⟩
end Go.Vm
namespace Go.Vm
open Go Go.RowKit Go.WideShapes
def structK (g : TypeId → Option (List SK)) (P : Program) (o : Nat) : List Field → Option (List SK)
  | [] => some []
  | f :: fs => if f.offset = o then match g f.type with
    | some a => if a.length = P.cellsOf f.type then match structK g P (o + a.length) fs with
      | some b => some (a ++ b)
      | none => none
      else none
    | none => none
    else none
def leafK (P : Program) : Nat → TypeId → Option (List SK)
  | 0, _ => none
  | n + 1, t => match P.underlying t with
    | some .bool => some [.bool]
    | some (.int k) => some [.int k]
    | some .string => some [.str]
    | some (.struct fs) => match structK (leafK P n) P 0 fs.toList with
      | some ks => if ks.length = P.cellsOf t then some ks else none
      | none => none
    | _ => none
def leafOK : SK → Value → Prop
  | .bool, v => ∃ b, v = .bool b
  | .int k, v => ∃ n, v = .int k n ∧ (Lit.int k n).wf = true
  | .str, v => ∃ s, v = .string s ∧ s.size ≤ maxLen
  | .oth, _ => False
def cellsOK : List SK → List Value → Prop
  | [], [] => True
  | k :: ks, v :: vs => leafOK k v ∧ cellsOK ks vs
  | _, _ => False
theorem cellsOK.append : ∀ {a b : List SK} {x y : List Value}, cellsOK a x → cellsOK b y → cellsOK (a ++ b) (x ++ y)
  | [], _, [], _, _, k => k
  | [], _, _ :: _, _, h, _ => h.elim
  | _ :: _, _, [], _, h, _ => h.elim
  | _ :: _, _, _ :: _, _, h, k => ⟨h.1, cellsOK.append h.2 k⟩
theorem cellsOK.length : ∀ {a : List SK} {x : List Value}, cellsOK a x → x.length = a.length
  | [], [], _ => rfl
  | [], _ :: _, h => h.elim
  | _ :: _, [], h => h.elim
  | _ :: _, _ :: _, h => by simp [cellsOK.length h.2]
theorem cellsOK.inv {k : SK} {ks : List SK} {cs : List Value} (h : cellsOK (k :: ks) cs) : ∃ v vs, cs = v :: vs ∧ leafOK k v ∧ cellsOK ks vs := by
  cases cs with
  | nil => exact h.elim
  | cons v vs => exact ⟨v, vs, rfl, h⟩
theorem cellsOK.inv0 {cs : List Value} (h : cellsOK [] cs) : cs = [] := by
  cases cs with
  | nil => rfl
  | cons => exact h.elim
section
variable {H : Type} {enc : TypeId × Value → H} {P : Program} {w : World} {base : Nat} {spare : Nat → Bool} {held : Bool}
theorem structK_ok {g : TypeId → Option (List SK)} {F : TypeId → List Value → Prop} (hg : ∀ t ks cs, g t = some ks → F t cs → cellsOK ks cs) {cs : List Value} :
    ∀ {fs : List Field} {o : Nat} {ks : List SK}, structK g P o fs = some ks → (∀ f ∈ fs, F f.type ((cs.drop f.offset).take (P.cellsOf f.type))) → cellsOK ks ((cs.drop o).take ks.length)
  | [], o, ks, h, _ => by simp only [structK, Option.some.injEq] at h; subst h; simp [cellsOK]
  | f :: fs, o, ks, h, hm => by
    simp only [structK] at h
    split at h <;> try (cases h; done)
    rename_i ho
    split at h <;> try (cases h; done)
    rename_i a ha
    split at h <;> try (cases h; done)
    rename_i hl
    split at h <;> cases h
    rename_i b hb
    have h1 := hg f.type a _ ha (hm f (by simp))
    have h2 := structK_ok hg hb (fun f' hf => hm f' (by simp [hf]))
    have h3 := h1.append h2
    rw [ho, ← hl] at h3
    rw [List.length_append, List.take_add, List.drop_drop]
    exact h3
theorem trod_flat : ∀ {n : Nat} {t : TypeId} {ks : List SK} {fuel : Nat} {cs : List Value} {x : DataW H × List MemPlace}, leafK P n t = some ks → DataW.trod enc P w base spare held fuel t cs = some x → cellsOK ks cs
  | 0, t, ks, fuel, cs, x, h, _ => by simp [leafK] at h
  | n + 1, t, ks, fuel, cs, x, h, hd => by
    simp only [leafK] at h
    split at h
    · rename_i ht
      cases h
      obtain ⟨b, rfl, _⟩ := DataW.trod_bool ht hd
      exact ⟨⟨_, rfl⟩, trivial⟩
    · rename_i k ht
      cases h
      obtain ⟨b, rfl, _, hw⟩ := DataW.trod_int ht hd
      exact ⟨⟨_, rfl, hw⟩, trivial⟩
    · rename_i ht
      cases h
      obtain ⟨b, rfl, _, hw⟩ := DataW.trod_string ht hd
      exact ⟨⟨_, rfl, hw⟩, trivial⟩
    · rename_i fs ht
      split at h <;> try (cases h; done)
      rename_i ks' hks
      split at h <;> cases h
      rename_i hlen
      obtain ⟨xs, m, _, _, hcl, hxl, hf⟩ := DataW.trod_struct ht hd
      have := structK_ok (P := P) (cs := cs) (F := fun t cs => ∃ x, DataW.trod enc P w base spare held m t cs = some x) (fun t ks cs h1 ⟨x, h2⟩ => trod_flat h1 h2) hks (fun f hfm => by
        obtain ⟨i, hi⟩ := List.getElem?_of_mem hfm
        rw [Array.getElem?_toList] at hi
        have hlt : i < xs.length := by rw [hxl]; exact (Array.getElem?_eq_some_iff.1 hi).1
        exact ⟨xs[i], by rw [hf i f hi, List.getElem?_eq_getElem hlt]⟩)
      rw [List.drop_zero, List.take_of_length_le (by omega)] at this
      exact this
    · cases h
theorem open_flat {r : Reach} {b0 n : Nat} {t : TypeId} {ks : List SK} {v : Value} {d : DataW H} {ps : List MemPlace} (hk : leafK P n t = some ks) (hval : Value.okWide P w r b0 t v) (hd : DataW.Trod enc P w base spare held t v d ps) :
    cellsOK ks (cellsL v) ∧ ((isAggB P t = true ∧ v = .agg ⟨cellsL v⟩) ∨ isAggB P t = false) := by
  obtain ⟨fuel, hf⟩ := hd
  refine ⟨trod_flat hk hf, ?_⟩
  unfold Value.okWide at hval
  unfold isAggB
  split at hval
  · rename_i hu; rw [hu]
    obtain ⟨cs, rfl, _⟩ := hval
    exact .inl ⟨rfl, rfl⟩
  · rename_i hu; rw [hu]
    obtain ⟨cs, rfl, _⟩ := hval
    exact .inl ⟨rfl, rfl⟩
  · rename_i h1 h2
    right
    split
    · rename_i hu; exact absurd hu (h1 _)
    · rename_i hu; exact absurd hu (h2 _ _)
    · rfl
def RowR (w : World) (k : SK) (a : Option Addr) (len cap : Nat) (zs : List Value) : Prop :=
  (a = none ∧ len = 0 ∧ cap = 0 ∧ zs = []) ∨ ∃ x, a = some x ∧ len ≤ cap ∧ cap ≤ maxLen ∧ zs.length = cap ∧ ∀ (i : Nat) v, zs[i]? = some v → w.cell? (x.add i) = some v ∧ leafOK k v
theorem leafOK.flat {k : SK} {v : Value} (h : leafOK k v) : flatV v = true := by
  cases k with
  | bool => obtain ⟨b, rfl⟩ := h; rfl
  | int k => obtain ⟨b, rfl, _⟩ := h; rfl
  | str => obtain ⟨b, rfl, _⟩ := h; rfl
  | oth => exact h.elim
theorem ArgR.row {k : SK} {w : World} {a : Option Addr} {len cap : Nat} {zs : List Value} (h : RowR w k a len cap zs) : ArgR w (.sl 1) (.sl len (zs.take len)) (.slice a len cap) ∧ (zs.take len).length = len ∧ (∀ v ∈ zs.take len, leafOK k v) ∧ len ≤ maxLen := by
  rcases h with ⟨rfl, rfl, rfl, rfl⟩ | ⟨x, rfl, hl, hm, hz, hc⟩
  · exact ⟨.inl ⟨⟨_, rfl⟩, rfl, rfl⟩, rfl, fun v hv => by simp at hv, by simp [maxLen]⟩
  · have hleaf : ∀ v ∈ zs.take len, leafOK k v := fun v hv => by
      obtain ⟨i, hi⟩ := List.getElem?_of_mem (List.mem_of_mem_take hv)
      exact (hc i v hi).2
    refine ⟨?_, by simp; omega, hleaf, by omega⟩
    rcases Nat.eq_zero_or_pos cap with h0 | h0
    · subst h0
      obtain rfl : len = 0 := by omega
      exact .inl ⟨⟨_, rfl⟩, rfl, by simp⟩
    · have hs : x.spot = none := by
        have := (hc 0 zs[0] (List.getElem?_eq_getElem (by omega))).1
        cases hx : x.spot with
        | none => rfl
        | some q =>
          simp only [Addr.add, ↓reduceIte, World.cell?] at this
          split at this
          · simp [hx] at this
          · cases this
      obtain ⟨b, o, q⟩ := x
      simp only at hs
      subst hs
      have hadd : ∀ i, (⟨b, o, none⟩ : Addr).add i = ⟨b, o + i, none⟩ := fun i => by
        unfold Addr.add; split
        · rename_i e; subst e; rfl
        · rfl
      refine .inr ⟨b, o, cap, rfl, hl, fun ρ => ⟨by simp; omega, fun i v e => ?_, fun i hi => ?_⟩⟩
      · have hi : i < len := by
          rcases Nat.lt_or_ge i len with h | h
          · exact h
          · rw [List.getElem?_eq_none (by simp; omega)] at e; cases e
        rw [List.getElem?_take_of_lt hi] at e
        obtain ⟨h1, h2⟩ := hc i v e
        rw [hadd] at h1
        exact ⟨v, h1, VR.flat ρ v h2.flat⟩
      · have hi' : i < zs.length := by simp at hi; omega
        obtain ⟨h1, _⟩ := hc i zs[i] (List.getElem?_eq_getElem hi')
        rw [hadd] at h1
        exact ⟨by simp [h1], fun e => by cases e⟩
end
theorem wf_u64 {n : Int} (h : (Lit.int .u64 n).wf = true) : 0 ≤ n ∧ n < 18446744073709551616 := by simp [Lit.wf, IntKind.min, IntKind.max, IntKind.signed, IntKind.bits] at h; omega
theorem wf_i64 {n : Int} (h : (Lit.int .i64 n).wf = true) : -9223372036854775808 ≤ n ∧ n < 9223372036854775808 := by simp [Lit.wf, IntKind.min, IntKind.max, IntKind.signed, IntKind.bits] at h; omega
end Go.Vm
namespace Go.Vm
open Go Go.RowKit
abbrev wI (k : IntKind) (n : Int) : Int := IntKind.wrap k n
abbrev andI (k : IntKind) (a b : Int) : Int := IntKind.wrap k (BitVec.ofInt k.bits a &&& BitVec.ofInt k.bits b).toNat
abbrev iorI (k : IntKind) (a b : Int) : Int := IntKind.wrap k (BitVec.ofInt k.bits a ||| BitVec.ofInt k.bits b).toNat
abbrev ixorI (k : IntKind) (a b : Int) : Int := IntKind.wrap k (BitVec.ofInt k.bits a ^^^ BitVec.ofInt k.bits b).toNat
abbrev cmplI (k : IntKind) (a : Int) : Int := IntKind.wrap k (BitVec.ofInt k.bits (if k.signed then -1 else k.max) ^^^ BitVec.ofInt k.bits a).toNat
def oreq {α : Type} (b : Bool) (x : Option α) : Option α := match b with | true => x | false => none
theorem oreq.elim {α : Type} {b : Bool} {x : Option α} {r : α} (h : oreq b x = some r) : b = true ∧ x = some r := by cases b; cases h; exact ⟨rfl, h⟩
theorem oreq.mk {α : Type} {b : Bool} {x : Option α} (h : b = true) : oreq b x = x := by subst h; rfl
theorem obind.elim {α β : Type} {x : Option α} {F : α → Option β} {r : β} (h : x.bind F = some r) : ∃ a, x = some a ∧ F a = some r := by cases x with | none => cases h | some a => exact ⟨a, rfl, h⟩
def FUEL : Nat := 2 ^ 64
def iter {σ ρ : Type} (f : σ → Option (Sum σ ρ)) : Nat → σ → Option ρ
  | 0, _ => none
  | n + 1, s => match f s with
    | none => none
    | some (.inl s') => iter f n s'
    | some (.inr r) => some r
theorem iter_leads {σ ρ : Type} {P : Program} {f base : Nat} {R : Value → Hp → Nat → Prop} {step : σ → Option (Sum σ ρ)} {head : σ → VM} {C : ρ → Prop}
    (h : ∀ s o, step s = some o → Sum.elim (fun s' => Leads P f base (head s') R) C o → Leads P f base (head s) R) :
    ∀ n s r, iter step n s = some r → C r → Leads P f base (head s) R
  | 0, _, _, e, _ => by cases e
  | n + 1, s, r, e, hc => by
    rw [iter] at e
    split at e
    · cases e
    · rename_i s' hs
      exact h s _ hs (iter_leads h n s' r e hc)
    · rename_i r' hs
      cases e
      exact h s _ hs hc
def vI (k : IntKind) (xs : List Int) : List Value := xs.map (Value.int k)
def vB (xs : List Bool) : List Value := xs.map Value.bool
def vS (xs : List (List UInt8)) : List Value := xs.map fun s => Value.string ⟨⟨s⟩⟩
def bI (l : List UInt8) : List Int := l.map fun b => (b.toNat : Int)
def iB (xs : List Int) : List UInt8 := xs.map fun n => UInt8.ofNat n.toNat
@[simp] theorem vI_len (k : IntKind) (xs : List Int) : (vI k xs).length = xs.length := List.length_map _
@[simp] theorem vB_len (xs : List Bool) : (vB xs).length = xs.length := List.length_map _
@[simp] theorem vS_len (xs : List (List UInt8)) : (vS xs).length = xs.length := List.length_map _
@[simp] theorem bI_len (l : List UInt8) : (bI l).length = l.length := List.length_map _
@[simp] theorem iB_len (l : List Int) : (iB l).length = l.length := List.length_map _
theorem vI_flat (k : IntKind) (xs : List Int) : flatV.flatL (vI k xs) = true := flatL_map (fun _ => rfl) xs
theorem vB_flat (xs : List Bool) : flatV.flatL (vB xs) = true := flatL_map (fun _ => rfl) xs
theorem vS_flat (xs : List (List UInt8)) : flatV.flatL (vS xs) = true := flatL_map (fun _ => rfl) xs
theorem vI_one (k : IntKind) : ∀ (xs : List Int), (vI k xs).all oneC = true
  | [] => rfl
  | _ :: xs => by simp only [vI, List.map_cons, List.all_cons, oneC, Bool.true_and]; exact vI_one k xs
theorem vB_one : ∀ (xs : List Bool), (vB xs).all oneC = true
  | [] => rfl
  | _ :: xs => by simp only [vB, List.map_cons, List.all_cons, oneC, Bool.true_and]; exact vB_one xs
theorem vS_one : ∀ (xs : List (List UInt8)), (vS xs).all oneC = true
  | [] => rfl
  | _ :: xs => by simp only [vS, List.map_cons, List.all_cons, oneC, Bool.true_and]; exact vS_one xs
theorem ofBytes_vI (l : List UInt8) : ofBytes l = vI .u8 (bI l) := by simp [ofBytes, vI, bI, List.map_map]
theorem toBytes_vI : ∀ (xs : List Int), toBytes (vI .u8 xs) = some (iB xs)
  | [] => rfl
  | x :: xs => by simp only [vI, List.map_cons, toBytes]; rw [show toBytes (xs.map (Value.int .u8)) = _ from toBytes_vI xs]; rfl
theorem vI_set (k : IntKind) (xs : List Int) (i : Nat) (x : Int) : (vI k xs).set i (.int k x) = vI k (xs.set i x) := by simp [vI, List.map_set]
theorem vI_drop (k : IntKind) (xs : List Int) (n : Nat) : (vI k xs).drop n = vI k (xs.drop n) := by simp [vI, List.map_drop]
theorem vI_take (k : IntKind) (xs : List Int) (n : Nat) : (vI k xs).take n = vI k (xs.take n) := by simp [vI, List.map_take]
theorem vS_drop (xs : List (List UInt8)) (n : Nat) : (vS xs).drop n = vS (xs.drop n) := by simp [vS, List.map_drop]
theorem vS_take (xs : List (List UInt8)) (n : Nat) : (vS xs).take n = vS (xs.take n) := by simp [vS, List.map_take]
theorem vI_app (k : IntKind) (xs ys : List Int) : vI k xs ++ vI k ys = vI k (xs ++ ys) := by simp [vI]
theorem br.h {α : Type} {b b' : Bool} {X Y : Option α} {r : α} {p q : Prop} (h : cond b' X Y = some r) (e : b = b') (k1 : b' = true → X = some r → p) (k2 : b' = false → Y = some r → q) : br b p q := by
  subst e; cases b; exact k2 rfl h; exact k1 rfl h
theorem rd.I {k : IntKind} {xs : List Int} {o i : Nat} {x : Int} {K : Value → Prop} (hx : xs[i]? = some x) (e : o = i) (h : forceV (.int k x) K) : rd (vI k xs) o K := by
  subst e; exact rd.intro (v := .int k x) (by simp [vI, hx]) h
theorem rd.B {xs : List Bool} {o i : Nat} {x : Bool} {K : Value → Prop} (hx : xs[i]? = some x) (e : o = i) (h : forceV (.bool x) K) : rd (vB xs) o K := by
  subst e; exact rd.intro (v := .bool x) (by simp [vB, hx]) h
theorem rd.S {xs : List (List UInt8)} {o i : Nat} {x : List UInt8} {K : Value → Prop} (hx : xs[i]? = some x) (e : o = i) (h : forceV (.string ⟨⟨x⟩⟩) K) : rd (vS xs) o K := by
  subst e; exact rd.intro (v := .string ⟨⟨x⟩⟩) (by simp [vS, hx]) h
theorem req_stI {k : IntKind} {xs : List Int} {o i : Nat} {x : Int} (hb : decide (i < xs.length) = true) (e : o = i) : (decide ((cellsL (.int k x)).length = 1 ∧ o + 1 ≤ (vI k xs).length) && (cellsL (.int k x)).all oneC) = true := by
  subst e; have := of_decide_eq_true hb; simp [cellsL, Value.cells, oneC]; omega
theorem pk_stI {k : IntKind} {xs : List Int} {o i : Nat} {x : Int} {K : List Value → Prop} (e : o = i) (h : K (vI k (xs.set i x))) : ∃ cs', setAt (vI k xs) o (cellsL (.int k x)) = cs' ∧ K cs' :=
  ⟨_, by subst e; exact vI_set k xs o x, h⟩
theorem pk_mkI {k : IntKind} {n : Nat} {z : Int} {K : List Value → Prop} (h : K (vI k (List.replicate n z))) : ∃ cs', (List.replicate n [Value.int k z]).flatten = cs' ∧ K cs' :=
  ⟨_, by simp [vI, List.flatten_replicate_singleton], h⟩
theorem pk_s2b {l : List UInt8} {K : List Value → Prop} (h : K (vI .u8 (bI l))) : ∃ cs', ofBytes l = cs' ∧ K cs' := ⟨_, ofBytes_vI l, h⟩
theorem pk_b2s {xs : List Int} {o n : Nat} {K : List UInt8 → Prop} (h : K (iB ((xs.drop o).take n))) : ∃ bs, toBytes (((vI .u8 xs).drop o).take n) = some bs ∧ K bs :=
  ⟨_, by rw [vI_drop, vI_take]; exact toBytes_vI _, h⟩
theorem pk_b2sL {l : List Value} {bs : List UInt8} {K : List UInt8 → Prop} (e : toBytes l = some bs) (h : K bs) : ∃ bs, toBytes l = some bs ∧ K bs := ⟨_, e, h⟩
theorem pk_apI {k : IntKind} {new : List Value} {xs : List Int} {o c n m : Nat} {ys : List Int} {K : List Value → Nat → Prop} (e : new = vI k ys) (h0 : o = 0) (hc : c = xs.length) (hn : n + m = (xs ++ ys).length) (h : K (vI k (xs ++ ys)) (xs ++ ys).length) :
    ∃ cs' n', ((vI k xs).drop o).take c ++ new = cs' ∧ n + m = n' ∧ K cs' n' :=
  ⟨_, _, by subst h0; rw [List.drop_zero, List.take_of_length_le (by simp [hc]), e, vI_app], hn, h⟩
def vT {α : Type} (f : α → List Value) (xs : List α) : List Value := xs.flatMap f
section
variable {α : Type} {f : α → List Value} {c : Nat}
theorem vT_len (hf : ∀ x, (f x).length = c) (xs : List α) : (vT f xs).length = xs.length * c := by
  induction xs with
  | nil => simp [vT]
  | cons x xs ih =>
    have : vT f (x :: xs) = f x ++ vT f xs := rfl
    rw [this, List.length_append, hf, ih, List.length_cons, Nat.succ_mul]; omega
theorem vT_flat (hf : ∀ x, flatV.flatL (f x) = true) (xs : List α) : flatV.flatL (vT f xs) = true := by
  have app : ∀ a b : List Value, flatV.flatL a = true → flatV.flatL b = true → flatV.flatL (a ++ b) = true := by
    intro a b ha hb
    induction a with
    | nil => exact hb
    | cons v a ih => simp only [flatV.flatL, Bool.and_eq_true, List.cons_append] at ha ⊢; exact ⟨ha.1, ih ha.2⟩
  induction xs with
  | nil => rfl
  | cons x xs ih => exact app _ _ (hf x) ih
theorem vT_one (hf : ∀ x, (f x).all oneC = true) (xs : List α) : (vT f xs).all oneC = true := by
  induction xs with
  | nil => rfl
  | cons x xs ih => have : vT f (x :: xs) = f x ++ vT f xs := rfl; rw [this, List.all_append, hf, ih]; rfl
theorem vT_drop (hf : ∀ x, (f x).length = c) (xs : List α) (n : Nat) : (vT f xs).drop (n * c) = vT f (xs.drop n) := by
  induction xs generalizing n with
  | nil => simp [vT]
  | cons x xs ih =>
    cases n with
    | zero => simp
    | succ n =>
      have : vT f (x :: xs) = f x ++ vT f xs := rfl
      rw [this, List.drop_succ_cons, Nat.succ_mul, Nat.add_comm, List.drop_append, hf, List.drop_eq_nil_of_le (by rw [hf]; omega), List.nil_append, show c + n * c - c = n * c by omega, ih]
theorem vT_take (hf : ∀ x, (f x).length = c) (xs : List α) (n : Nat) : (vT f xs).take (n * c) = vT f (xs.take n) := by
  induction xs generalizing n with
  | nil => simp [vT]
  | cons x xs ih =>
    cases n with
    | zero => simp [vT]
    | succ n =>
      have : vT f (x :: xs) = f x ++ vT f xs := rfl
      have h2 : vT f ((x :: xs).take (n + 1)) = f x ++ vT f (xs.take n) := rfl
      rw [this, h2, Nat.succ_mul, Nat.add_comm, List.take_append, hf, List.take_of_length_le (by rw [hf]; omega), show c + n * c - c = n * c by omega, ih]
theorem vT_get (hf : ∀ x, (f x).length = c) {xs : List α} {i j : Nat} {x : α} (hx : xs[i]? = some x) (hj : j < c) : (vT f xs)[i * c + j]? = (f x)[j]? := by
  induction xs generalizing i with
  | nil => simp at hx
  | cons y xs ih =>
    have : vT f (y :: xs) = f y ++ vT f xs := rfl
    rw [this]
    cases i with
    | zero =>
      simp at hx; subst hx
      rw [Nat.zero_mul, Nat.zero_add, List.getElem?_append_left (by rw [hf]; exact hj)]
    | succ i =>
      rw [List.getElem?_append_right (by rw [hf, Nat.succ_mul]; omega), hf, show (i + 1) * c + j - c = i * c + j by rw [Nat.succ_mul]; omega]
      exact ih (by simpa using hx)
theorem rd.T (hf : ∀ x, (f x).length = c) {xs : List α} {o i j : Nat} {x : α} {v : Value} {K : Value → Prop} (hx : xs[i]? = some x) (e : o = i * c + j) (hj : j < c) (hv : (f x)[j]? = some v) (h : forceV v K) : rd (vT f xs) o K := by
  subst e; exact rd.intro (by rw [vT_get hf hx hj]; exact hv) h
theorem rdN_of {cs : List Value} : ∀ {l : List Value} {o : Nat} {K : List Value → Prop}, (∀ (j : Nat) v, l[j]? = some v → cs[o + j]? = some v) → K l → rdN cs o l.length K
  | [], o, K, _, h => h
  | v :: l, o, K, hc, h => by
    rw [List.length_cons, rdN]
    refine rd.intro (by simpa using hc 0 v rfl) ?_
    rw [forceV_eq]
    exact rdN_of (l := l) (fun j u hj => by rw [show o + 1 + j = o + (j + 1) by omega]; exact hc (j + 1) u (by simpa using hj)) h
theorem ld_T (hf : ∀ x, (f x).length = c) {xs : List α} {o i n : Nat} {x : α} {K : List Value → Prop} (hx : xs[i]? = some x) (e : o = i * c) (hn : n = c) (h : forceL (f x) K) : req (decide (o + n ≤ (vT f xs).length)) (rdN (vT f xs) o n K) := by
  subst e hn
  have hlt : i < xs.length := (List.getElem?_eq_some_iff.1 hx).1
  refine req.intro ?_ ?_
  · rw [vT_len hf, decide_eq_true_eq]
    have := Nat.mul_le_mul_right n (show i + 1 ≤ xs.length by omega)
    rw [Nat.succ_mul] at this; exact this
  · rw [forceL_eq] at h
    have := rdN_of (cs := vT f xs) (l := f x) (o := i * n) (K := K) (fun j v hj => by
      have hj' : j < n := by rw [← hf x]; exact (List.getElem?_eq_some_iff.1 hj).1
      rw [vT_get hf hx hj']; exact hj) h
    rwa [hf] at this
end
theorem sumRun_of {s : Summ} {vals aqs : List Value} {os : List (Option VObj)} {h h1 h2 : Hp} {top n m t' : Nat} {ws : List Wd} {r : SRes} {v' : Value} (e1 : readArgs h 0 s.modes vals = some (aqs, os)) (ew : winL h s.modes vals = ws) {cw : List (Option (List Value))} (ec : conts os = cw) (e2 : s.run aqs cw = some r) (e3 : apartB ws = true)
    (hn : r.new.length = n) (hm : emps ws = m) (ht : top + n + m = t') (e4 : wback h (numR top n ws) ws r.wr = some h1) (e5 : addNew h1 (numR top n ws) top r.new = some h2) (e6 : renV (numR top n ws) r.v = some v') : sumRun s vals h top = some (v', addEmp h2 (top + n) m, t') := by
  subst hn hm ht ec
  simp only [sumRun, e1, e2, ew, e3, e4, e5, e6]
theorem ra_nil {h : Hp} {k : Nat} : readArgs h k [] [] = some ([], []) := rfl
theorem ra_cons {h : Hp} {k k' : Nat} {m : Md} {ms : List Md} {v a : Value} {vs aqs : List Value} {os os' : List (Option VObj)} (e : readArg h k m v = some (a, os)) (hk : k + os.length = k') (t : readArgs h k' ms vs = some (aqs, os')) : readArgs h k (m :: ms) (v :: vs) = some (a :: aqs, os ++ os') := by
  subst hk
  simp only [readArgs, e, t]
theorem ra_sl {h : Hp} {k b o n m sz sz' : Nat} {ob : VObj} {cs cs' : List Value} (ho : aget h b = some ob) (hc : ob.cs = some cs) (hs : sz = sz') (en : n = m) (hle : o + n * sz ≤ cs.length) (e : (cs.drop o).take (n * sz) = cs') (hf : flatV.flatL cs' = true) :
    readArg h k (.sl sz) (.slice (some ⟨b, o, none⟩) n sz') = some (.slice (some ⟨k, 0, none⟩) m sz, [some (.row false cs')]) := by
  subst hs en e
  simp only [readArg, ho, hc, hle, hf, ↓reduceIte]
theorem ra_slI {h : Hp} {b o n i m sz kk : Nat} {k : IntKind} {own : Bool} {xs : List Int} (ho : aget h b = some (.row own (vI k xs))) (hs : sz = 1) (e0 : o = i) (en : n = m) (hle : i + m ≤ xs.length) : readArg h kk (.sl 1) (.slice (some ⟨b, o, none⟩) n sz) = some (.slice (some ⟨kk, 0, none⟩) m 1, [some (.row false (vI k ((xs.drop i).take m)))]) := by
  subst hs e0 en
  exact ra_sl ho rfl rfl rfl (by simp; omega) (by rw [vI_drop, vI_take, Nat.mul_one]) (vI_flat _ _)
theorem ra_allI {h : Hp} {b o n sz kk : Nat} {k : IntKind} {own : Bool} {xs : List Int} (ho : aget h b = some (.row own (vI k xs))) (hs : sz = 1) (e0 : o = 0) (en : n = xs.length) : readArg h kk (.sl 1) (.slice (some ⟨b, o, none⟩) n sz) = some (.slice (some ⟨kk, 0, none⟩) xs.length 1, [some (.row false (vI k xs))]) := by
  have := ra_slI (kk := kk) (i := 0) (m := xs.length) ho hs e0 en (by omega)
  simpa using this
def skipW : Wd → Bool
  | .no | .emp _ | .win _ _ _ false | .blk _ false => true
  | _ => false
theorem wb_nil {h : Hp} {s : Nat → Option Nat} : wback h s [] [] = some h := rfl
theorem wb_skip {h h' : Hp} {s : Nat → Option Nat} {x : Wd} {ws : List Wd} {c : Option (List Value)} {cs : List (Option (List Value))} (hx : skipW x = true) (t : wback h s ws cs = some h') : wback h s (x :: ws) (c :: cs) = some h' := by
  cases x with
  | win b o n w => cases w <;> first | (simp only [wback]; exact t) | cases hx
  | blk b w => cases w <;> first | (simp only [wback]; exact t) | cases hx
  | _ => simp only [wback]; exact t
theorem wb_win {h h' : Hp} {s : Nat → Option Nat} {b off n : Nat} {ws : List Wd} {c c' x y : List Value} {cs : List (Option (List Value))} {ob ob' : VObj} (e1 : aget h b = some ob) (e2 : ob.wcs = some x) (e3 : renV.renL s c = some c') (e4 : c'.length = n ∧ off + n ≤ x.length) (e5 : setAt x off c' = y) (e6 : ob.wr y = some ob') (t : wback (aput h b ob') s ws cs = some h') :
    wback h s (.win b off n true :: ws) (some c :: cs) = some h' := by
  subst e5
  simp only [wback, e1, e2, e3, e6, if_pos e4]; exact t
theorem an_nil {h : Hp} {s : Nat → Option Nat} {top : Nat} : addNew h s top [] = some h := rfl
theorem an_cons {h h' : Hp} {s : Nat → Option Nat} {top : Nat} {c c' : List Value} {cs : List (List Value)} (e : renV.renL s c = some c') (t : addNew (aput h top (.row true c')) s (top + 1) cs = some h') : addNew h s top (c :: cs) = some h' := by
  simp only [addNew, e]; exact t
def jsOK (n : Nat) (wr : List (Option (List Value))) : List Nat → Prop
  | [] => True
  | j :: js => (n ≤ j ∨ wr[j]? = some none) ∧ jsOK n wr js
theorem jsOK_mem {n : Nat} {wr : List (Option (List Value))} : ∀ {js : List Nat}, jsOK n wr js → ∀ j ∈ js, n ≤ j ∨ wr[j]? = some none
  | [], _, j, h => by cases h
  | k :: js, h, j, hj => by
    rcases List.mem_cons.1 hj with rfl | hj
    · exact h.1
    · exact jsOK_mem h.2 j hj
theorem Res.of {n : Nat} {r : SRes} {v' : Value} {H' : Hp} (js : List Nat) (e1 : renV (resR js n) r.v = some v') (e2 : newOK H' (resR js n) js r.new) (e3 : js.Nodup) (e4 : jsOK n r.wr js) (e5 : wrOK H' (resR js n) 0 r.wr) : Res n r v' H' :=
  ⟨⟨js, e1, e2, e3, jsOK_mem e4, e5⟩⟩
theorem hs_cells {H : Hp} {j : Nat} {c : List Value} (h : aget H j = some (.cells c)) : Has H j c := .inr (.inl h)
abbrev Dec := List Value → List (Option (List Value)) → Option SRes
def dV {α : Type} (un : Value → Option α) (K : α → Dec) : Dec := fun vs cs => match vs with
  | v :: vs' => match un v with
    | some x => K x vs' cs
    | none => none
  | [] => none
theorem dV_eq {α : Type} {un : Value → Option α} {K : α → Dec} {v : Value} {vs : List Value} {cs : List (Option (List Value))} {x : α} (h : un v = some x) : dV un K (v :: vs) cs = K x vs cs := by simp only [dV, h]
theorem dV.elim {α : Type} {un : Value → Option α} {K : α → Dec} {vs : List Value} {cs : List (Option (List Value))} {r : SRes} (h : dV un K vs cs = some r) : ∃ v vs' x, vs = v :: vs' ∧ un v = some x ∧ K x vs' cs = some r := by
  unfold dV at h
  split at h <;> try (cases h; done)
  split at h <;> try (cases h; done)
  exact ⟨_, _, _, rfl, by assumption, h⟩
def dSl {α : Type} (k sz : Nat) (un : List Value → Option (List α)) (K : List α → Dec) : Dec := fun vs cs => match vs, cs with
  | .slice (some ⟨k', 0, none⟩) n sz' :: vs', some c :: cs' => match un c with
    | some xs => if k' = k ∧ sz' = sz ∧ n = xs.length then K xs vs' cs' else none
    | none => none
  | _, _ => none
theorem dSl_eq {α : Type} {k sz : Nat} {un : List Value → Option (List α)} {K : List α → Dec} {vs : List Value} {c : List Value} {cs : List (Option (List Value))} {xs : List α} (h : un c = some xs) : dSl k sz un K (.slice (some ⟨k, 0, none⟩) xs.length sz :: vs) (some c :: cs) = K xs vs cs := by simp [dSl, h]
theorem dSl.elim {α : Type} {k sz : Nat} {un : List Value → Option (List α)} {K : List α → Dec} {vs : List Value} {cs : List (Option (List Value))} {r : SRes} (h : dSl k sz un K vs cs = some r) : ∃ c vs' cs' xs, vs = .slice (some ⟨k, 0, none⟩) xs.length sz :: vs' ∧ cs = some c :: cs' ∧ un c = some xs ∧ K xs vs' cs' = some r := by
  unfold dSl at h
  split at h <;> try (cases h; done)
  split at h <;> try (cases h; done)
  split at h <;> try (cases h; done)
  rename_i hc
  obtain ⟨rfl, rfl, rfl⟩ := hc
  exact ⟨_, _, _, _, rfl, rfl, by assumption, h⟩
def dTr {α : Type} (n : Nat) (un : Value → List (Option (List Value)) → Option α) (K : α → Dec) : Dec := fun vs cs => match vs with
  | v :: vs' => match un v (cs.take n) with
    | some x => K x vs' (cs.drop n)
    | none => none
  | [] => none
theorem dTr.elim {α : Type} {n : Nat} {un : Value → List (Option (List Value)) → Option α} {K : α → Dec} {vs : List Value} {cs : List (Option (List Value))} {r : SRes} (h : dTr n un K vs cs = some r) : ∃ v vs' cs1 cs2 x, vs = v :: vs' ∧ cs = cs1 ++ cs2 ∧ un v cs1 = some x ∧ K x vs' cs2 = some r := by
  unfold dTr at h
  split at h <;> try (cases h; done)
  split at h <;> try (cases h; done)
  exact ⟨_, _, _, _, _, rfl, (List.take_append_drop n cs).symm, by assumption, h⟩
def dPt {α : Type} (k : Nat) (un : List Value → Option α) (K : α → Dec) : Dec := fun vs cs => match vs, cs with
  | .pointer (some ⟨k', 0, none⟩) :: vs', some c :: cs' => match un c with
    | some x => if k' = k then K x vs' cs' else none
    | none => none
  | _, _ => none
theorem dPt_eq {α : Type} {k : Nat} {un : List Value → Option α} {K : α → Dec} {vs : List Value} {c : List Value} {cs : List (Option (List Value))} {x : α} (h : un c = some x) : dPt k un K (.pointer (some ⟨k, 0, none⟩) :: vs) (some c :: cs) = K x vs cs := by simp [dPt, h]
theorem dPt.elim {α : Type} {k : Nat} {un : List Value → Option α} {K : α → Dec} {vs : List Value} {cs : List (Option (List Value))} {r : SRes} (h : dPt k un K vs cs = some r) : ∃ c vs' cs' x, vs = .pointer (some ⟨k, 0, none⟩) :: vs' ∧ cs = some c :: cs' ∧ un c = some x ∧ K x vs' cs' = some r := by
  unfold dPt at h
  split at h <;> try (cases h; done)
  split at h <;> try (cases h; done)
  split at h <;> try (cases h; done)
  rename_i hc
  subst hc
  exact ⟨_, _, _, _, rfl, rfl, by assumption, h⟩
def dNo : Nat → Dec → Dec
  | 0, K => K
  | n + 1, K => fun vs cs => match cs with
    | none :: cs' => dNo n K vs cs'
    | _ => none
theorem dNo.elim {K : Dec} {vs : List Value} {r : SRes} : ∀ {n : Nat} {cs : List (Option (List Value))}, dNo n K vs cs = some r → ∃ cs', cs = List.replicate n none ++ cs' ∧ K vs cs' = some r
  | 0, cs, h => ⟨cs, rfl, h⟩
  | n + 1, cs, h => by
    simp only [dNo] at h
    split at h <;> try (cases h; done)
    obtain ⟨cs', rfl, h2⟩ := dNo.elim h
    exact ⟨cs', rfl, h2⟩
def dNl (n : Nat) (K : Dec) : Dec := fun vs cs => match vs with
  | .pointer none :: vs' => dNo n K vs' cs
  | _ => none
theorem dNl.elim {n : Nat} {K : Dec} {vs : List Value} {cs : List (Option (List Value))} {r : SRes} (h : dNl n K vs cs = some r) : ∃ vs' cs', vs = .pointer none :: vs' ∧ cs = List.replicate n none ++ cs' ∧ K vs' cs' = some r := by
  unfold dNl at h
  split at h <;> try (cases h; done)
  obtain ⟨cs', rfl, h2⟩ := dNo.elim h
  exact ⟨_, cs', rfl, rfl, h2⟩
def dEnd (r : Option SRes) : Dec := fun vs cs => match vs, cs with
  | [], [] => r
  | _, _ => none
theorem dEnd.elim {o : Option SRes} {vs : List Value} {cs : List (Option (List Value))} {r : SRes} (h : dEnd o vs cs = some r) : vs = [] ∧ cs = [] ∧ o = some r := by
  unfold dEnd at h
  split at h <;> try (cases h; done)
  exact ⟨rfl, rfl, h⟩
def orD (a b : Dec) : Dec := fun vs cs => match a vs cs with
  | some r => some r
  | none => b vs cs
theorem orD.elim {a b : Dec} {vs : List Value} {cs : List (Option (List Value))} {r : SRes} (h : orD a b vs cs = some r) : a vs cs = some r ∨ b vs cs = some r := by
  unfold orD at h
  split at h
  · cases h; left; assumption
  · exact .inr h
def ofG {α : Type} (o : Option α) (f : α → SRes) : Option SRes := match o with
  | some x => some (f x)
  | none => none
theorem ofG_eq {α : Type} {o : Option α} {f : α → SRes} {x : α} (h : o = some x) : ofG o f = some (f x) := by subst h; rfl
theorem ofG.elim {α : Type} {o : Option α} {f : α → SRes} {r : SRes} (h : ofG o f = some r) : ∃ x, o = some x ∧ f x = r := by
  cases o with
  | none => cases h
  | some x => exact ⟨x, rfl, by cases h; rfl⟩
def asS : Value → Option (List UInt8) | .string s => some s.data.toList | _ => none
theorem asS_eq (v : Value) (x : List UInt8) (h : asS v = some x) : v = .string ⟨⟨x⟩⟩ := by cases v <;> simp [asS] at h; subst h; rfl
theorem unI_vI (k : IntKind) (xs : List Int) : unL (asI k) (vI k xs) = some xs := unL_map (fun x => by simp [asI]) xs
theorem unI_eq {k : IntKind} {cs : List Value} {xs : List Int} (h : unL (asI k) cs = some xs) : cs = vI k xs := unL_eq (asI_eq k) h
end Go.Vm
namespace Go.Vm
open Go Go.RowKit
end Go.Vm
namespace Go.Vm
open Go Go.RowKit
theorem st_I {k : IntKind} {xs : List Int} {o i : Nat} {x : Int} {K : List Value → Prop} (hb : decide (i < xs.length) = true) (e : o = i) (h : K (vI k (xs.set i x))) :
    req (decide ((cellsL (.int k x)).length = 1 ∧ o + 1 ≤ (vI k xs).length) && (cellsL (.int k x)).all oneC) (∃ cs', setAt (vI k xs) o (cellsL (.int k x)) = cs' ∧ K cs') := req.intro (req_stI hb e) (pk_stI e h)
end Go.Vm
namespace Go.Vm
theorem br.h2 {α : Type} {b b' : Bool} {X Y : Option α} {r : α} {p q : Prop} (h : cond b' X Y = some r) (e : b = b') (k2 : b' = false → Y = some r → q) (k1 : b' = true → X = some r → p) : br b p q := br.h h e k1 k2
end Go.Vm
namespace Go.Vm
open Go Go.RowKit
theorem VR.ofNil {ρ : Ren} {s : Nat} {rv : Value} (h : VR ρ (.slice none 0 s) rv) (j sz : Nat) : VR ρ (.slice (some ⟨j, 0, none⟩) 0 sz) rv := by
  cases h; exact .slice0 none
theorem Leads.nilT {P : Program} {f base fn nt s : Nat} {e : Env} {todo : List VItem} {ds : List Nat} {ret : Bool} {rd : Option Nat} {up : List VFrame} {H : Hp} {top : Nat} {R : Value → Hp → Nat → Prop} (t sz : Nat)
    (h : Leads P f base ⟨⟨fn, nt, aput e t (.slice (some ⟨top, 0, none⟩) 0 sz), todo, ds, ret, rd⟩, up, aput H top (.row true []), top + 1⟩ R) (he : aget e t = some (.slice none 0 s) := by rfl) :
    Leads P f base ⟨⟨fn, nt, e, todo, ds, ret, rd⟩, up, H, top⟩ R := by
  refine ⟨fun w0 U ρ rf rfs w cs hr => ?_⟩
  have hx := Ext.upd (l := ⟨0, 0, 0⟩) hr.heap.off0
  have hcur : FrR P (upd ρ top ⟨0, 0, 0⟩) ⟨fn, nt, aput e t (.slice (some ⟨top, 0, none⟩) 0 sz), todo, ds, ret, rd⟩ rf :=
    { hr.cur.mono hx with
      env := fun i v hv => by
        rw [aget_aput] at hv
        split at hv
        · rename_i hi; subst hi; cases hv
          obtain ⟨v', a, b⟩ := hr.cur.env t _ he
          exact ⟨v', a, (VR.ofNil b _ _).mono hx⟩
        · exact (hr.cur.env.mono hx) i v hv }
  obtain ⟨ρ', rv, fr', w', v, H', top', h1, h2, h3, h4, h5, h6, h7⟩ := h.get w0 U _ rf rfs w cs ⟨hcur, hr.up.mono (fun _ _ x => x.mono hx), empty_row hr.heap⟩
  exact ⟨ρ', rv, fr', w', v, H', top', h1, h2, h3, h4, h5, fun i l hi hl => h6 i l hi (hx _ _ hl), h7⟩
mutual
inductive Nv (j : Nat) : Value → Value → Prop
  | same (v) : Nv j v v
  | nil (s sz) : Nv j (.slice none 0 s) (.slice (some ⟨j, 0, none⟩) 0 sz)
  | tup {a b : List Value} (h : NvL j a b) : Nv j (.tuple ⟨a⟩) (.tuple ⟨b⟩)
  | agg {a b : List Value} (h : NvL j a b) : Nv j (.agg ⟨a⟩) (.agg ⟨b⟩)
inductive NvL (j : Nat) : List Value → List Value → Prop
  | nil : NvL j [] []
  | cons {v v' : Value} {l l' : List Value} (h : Nv j v v') (t : NvL j l l') : NvL j (v :: l) (v' :: l')
end
mutual
theorem Nv.vr {j : Nat} {ρ : Ren} : ∀ {v v' : Value}, Nv j v v' → ∀ {rv : Value}, VR ρ v rv → VR ρ v' rv
  | _, _, .same v, _, h => h
  | _, _, .nil s sz, _, h => VR.ofNil h _ _
  | _, _, .tup hl, _, h => by cases h with | tuple ht => exact .tuple (NvL.vr hl ht)
  | _, _, .agg hl, _, h => by cases h with | agg ht => exact .agg (NvL.vr hl ht)
theorem NvL.vr {j : Nat} {ρ : Ren} : ∀ {l l' : List Value}, NvL j l l' → ∀ {rl : List Value}, VRL ρ l rl → VRL ρ l' rl
  | _, _, .nil, _, h => h
  | _, _, .cons hv ht, _, h => by cases h with | cons a b => exact .cons (Nv.vr hv a) (NvL.vr ht b)
end
end Go.Vm
namespace Go.Vm
theorem ap_req {A B C D : Prop} [Decidable (A ∧ B ∧ C ∧ D)] {p q : Bool} (a : A) (b : B) (c : C) (d : D) (e : p = true) (g : q = true) : (decide (A ∧ B ∧ C ∧ D) && p && q) = true := by
  rw [decide_eq_true ⟨a, b, c, d⟩, e, g]; rfl
end Go.Vm
namespace Go.Vm
open Go Go.RowKit
def forceOL (o : VObj) (K : VObj → Prop) : Prop :=
  match o with
  | .cells cs => forceL cs fun cs => K (.cells cs)
  | .row own cs => forceL cs fun cs => K (.row own cs)
  | .ty t cs => K (.ty t cs)
  | .siter s p => K (.siter s p)
  | .loop l => K (.loop l)
  | .marks => K .marks
theorem forceOL_eq (o : VObj) (K : VObj → Prop) : forceOL o K = K o := by
  cases o <;> simp only [forceOL, forceL_eq]
def forceH2 (bs : List Nat) (h : Hp) (K : Hp → Prop) : Prop :=
  match h with
  | [] => K []
  | (i, o) :: l => cond (memB i bs) (forceOL o fun o => forceH2 bs l fun l => K ((i, o) :: l)) (forceO o fun o => forceH2 bs l fun l => K ((i, o) :: l))
theorem forceH2_eq (bs : List Nat) : ∀ (h : Hp) (K : Hp → Prop), forceH2 bs h K = K h
  | [], K => rfl
  | (i, o) :: l, K => by
    rw [forceH2]
    cases memB i bs
    · rw [cond_false, forceO_eq, forceH2_eq bs l]
    · rw [cond_true, forceOL_eq, forceH2_eq bs l]
theorem sumK.introF {s : Summ} {vals : List Value} {h : Hp} {top : Nat} {K : Value → Hp → Nat → Prop} {v : Value} {h' : Hp} {top' : Nat} (bs : List Nat) (e : sumRun s vals h top = some (v, h', top')) (k : forceV v fun v => forceH2 bs h' fun h' => K v h' top') : sumK s vals h top K :=
  sumK.intro e (by simpa only [forceV_eq, forceH2_eq] using k)
end Go.Vm
namespace Go.Vm
open Go Go.RowKit
inductive NilW : Value → Hp → Nat → Value → Hp → Nat → Prop
  | refl (v : Value) (H : Hp) (t : Nat) : NilW v H t v H t
  | val {v v' v2 : Value} {H H2 : Hp} {t t2 : Nat} (h : Nv t v v') (k : NilW v' (aput H t (.row true [])) (t + 1) v2 H2 t2) : NilW v H t v2 H2 t2
  | cell {v v2 : Value} {H H2 : Hp} {t t2 s : Nat} (b i sz : Nat) {cs : List Value} (hb : aget H b = some (.cells cs)) (hi : cs[i]? = some (.slice none 0 s)) (k : NilW v (aput (aput H b (.cells (cs.set i (.slice (some ⟨t, 0, none⟩) 0 sz)))) t (.row true [])) (t + 1) v2 H2 t2) : NilW v H t v2 H2 t2
theorem nilC_hp {P : Program} {w0 : World} {U : UG} {ρ : Ren} {H : Hp} {top s : Nat} {w : World} (h : HpR P w0 U ρ H top w) {b i : Nat} (sz : Nat) {cs : List Value} (hb : aget H b = some (.cells cs)) (hi : cs[i]? = some (.slice none 0 s)) : HpR P w0 U ρ (aput H b (.cells (cs.set i (.slice (some ⟨top, 0, none⟩) 0 sz)))) top w :=
  { h with
    obj := fun j o ho => by
      rw [aget_aput] at ho
      split at ho
      · rename_i hj; subst hj; cases ho
        obtain ⟨l, hl, hc, hw⟩ := h.obj b _ hb
        refine ⟨l, hl, ?_, fun _ => hw rfl⟩
        obtain ⟨g1, g2, g3⟩ := (hc : CellsR ρ w l true cs)
        refine ⟨by simpa using g1, fun k v hv => ?_, g3⟩
        rw [List.getElem?_set] at hv
        split at hv
        · rename_i hk; subst hk
          split at hv
          · cases hv
            obtain ⟨v', a, b'⟩ := g2 i _ hi
            exact ⟨v', a, VR.ofNil b' _ _⟩
          · cases hv
        · exact g2 k v hv
      · exact h.obj j o ho
    dis := fun j k oj ok lj lk hjk hj hk hlj hlk hw => by
      have key : ∀ j o, aget (aput H b (.cells (cs.set i (.slice (some ⟨top, 0, none⟩) 0 sz)))) j = some o → ∃ o', aget H j = some o' ∧ (writable o = true → writable o' = true) := fun j o ho => by
        rw [aget_aput] at ho
        split at ho
        · rename_i hj; subst hj; exact ⟨_, hb, fun _ => rfl⟩
        · exact ⟨o, ho, id⟩
      obtain ⟨oj', a1, a2⟩ := key j oj hj
      obtain ⟨ok', b1, _⟩ := key k ok hk
      exact h.dis j k oj' ok' lj lk hjk a1 b1 hlj hlk (a2 hw) }
theorem NilW.ok {P : Program} {w0 : World} {U : Nat → Nat → Prop} {v v2 rv : Value} {H H2 : Hp} {t t2 : Nat} (k : NilW v H t v2 H2 t2) : ∀ {ρ : Ren} {w : World}, VR ρ v rv → HpR P w0 (.of U) ρ H t w → ∃ ρ', Ext ρ ρ' ∧ VR ρ' v2 rv ∧ HpR P w0 (.of U) ρ' H2 t2 w := by
  induction k with
  | refl => intro ρ w h1 h2; exact ⟨ρ, Ext.refl ρ, h1, h2⟩
  | val h k ih =>
    intro ρ w h1 h2
    have hx := Ext.upd (l := ⟨0, 0, 0⟩) h2.off0
    obtain ⟨ρ', e1, e2, e3⟩ := ih ((h.vr h1).mono hx) (empty_row h2)
    exact ⟨ρ', hx.trans e1, e2, e3⟩
  | cell b i sz hb hi k ih =>
    intro ρ w h1 h2
    have hx := Ext.upd (l := ⟨0, 0, 0⟩) h2.off0
    obtain ⟨ρ', e1, e2, e3⟩ := ih (h1.mono hx) (empty_row (nilC_hp h2 sz hb hi))
    exact ⟨ρ', hx.trans e1, e2, e3⟩
end Go.Vm
namespace Go.Vm
end Go.Vm
namespace Go.Vm
open Go Go.RowKit
@[simp] theorem ofBytes_len (l : List UInt8) : (ofBytes l).length = l.length := by simp [ofBytes]
theorem asB_c {b : Bool} : asB (.bool b) = some b := rfl
theorem asI_c (k : IntKind) {n : Int} : asI k (.int k n) = some n := by simp [asI]
theorem asS_c {s : List UInt8} : asS (.string ⟨⟨s⟩⟩) = some s := rfl
theorem dNl_1 {K : Dec} {vs : List Value} {cs : List (Option (List Value))} : dNl 1 K (.pointer none :: vs) (none :: cs) = K vs cs := rfl
def pickN (i : Nat) (a b : Dec) : Dec := fun vs cs => match vs[i]? with
  | some (.pointer none) => b vs cs
  | _ => a vs cs
theorem pickN.elim {i : Nat} {a b : Dec} {vs : List Value} {cs : List (Option (List Value))} {r : SRes} (h : pickN i a b vs cs = some r) : a vs cs = some r ∨ b vs cs = some r := by
  unfold pickN at h
  split at h
  · exact .inr h
  · exact .inl h
theorem nw_0 {H : Hp} {s : Nat → Option Nat} : newOK H s [] [] := trivial
theorem nw_s {H : Hp} {s : Nat → Option Nat} {j : Nat} {js : List Nat} {c c' : List Value} {cs : List (List Value)} (e : renV.renL s c = some c') (h : Has H j c') (t : newOK H s js cs) : newOK H s (j :: js) (c :: cs) := ⟨⟨_, e, h⟩, t⟩
theorem js_0 {n : Nat} {wr : List (Option (List Value))} : jsOK n wr [] := trivial
theorem js_l {n j : Nat} {wr : List (Option (List Value))} {js : List Nat} (h : n ≤ j) (t : jsOK n wr js) : jsOK n wr (j :: js) := ⟨.inl h, t⟩
theorem wr_0 {H : Hp} {s : Nat → Option Nat} {k : Nat} : wrOK H s k [] := trivial
theorem wr_n {H : Hp} {s : Nat → Option Nat} {k : Nat} {l : List (Option (List Value))} (t : wrOK H s (k + 1) l) : wrOK H s k (none :: l) := t
theorem wr_s {H : Hp} {s : Nat → Option Nat} {k : Nat} {c c' : List Value} {l : List (Option (List Value))} (e : renV.renL s c = some c') (h : Has H k c') (t : wrOK H s (k + 1) l) : wrOK H s k (some c :: l) := ⟨⟨_, e, h⟩, t⟩
theorem Res.flat {n : Nat} {r : SRes} {v' : Value} {H' : Hp} {b : Bool} (e : r.v = .bool b) (_ : r.new = []) (h : Res n r v' H') : v' = .bool b := by
  obtain ⟨js, h1, h2, -⟩ := h.ex
  rw [e] at h1
  cases h1; rfl
theorem sumK.q {s : Summ} {vals : List Value} {h : Hp} {top : Nat} {K : Value → Hp → Nat → Prop} {r : SRes} {v' : Value} (e1 : readArgs h 0 s.modes vals = some (vals, [])) (ew : winL h s.modes vals = []) (e2 : s.run vals [] = some r) (hn : r.new = []) (hw : r.wr = []) (e6 : renV (numR top 0 []) r.v = some v')
    (k : forceV v' fun v => forceH2 [] h fun h' => K v h' top) : sumK s vals h top K := by
  refine sumK.introF [] (sumRun_of (n := 0) (m := 0) (t' := top) e1 ew rfl e2 rfl (by rw [hn]; rfl) rfl rfl (by rw [hw]; exact wb_nil) (by rw [hn]; exact an_nil) e6) k
theorem dFin {α : Type} {o : Option α} {f : α → SRes} {vs : List Value} {cs : List (Option (List Value))} {r : SRes} (h : dEnd (ofG o f) vs cs = some r) : vs = [] ∧ cs = [] ∧ ∃ x, o = some x ∧ f x = r := by
  obtain ⟨a, b, c⟩ := dEnd.elim h
  exact ⟨a, b, ofG.elim c⟩
theorem Res.z {n : Nat} {r : SRes} {v' : Value} {H' : Hp} (e1 : renV (resR [] n) r.v = some v') (e2 : r.new = []) (e3 : r.wr = []) : Res n r v' H' :=
  Res.of [] e1 (by rw [e2]; exact nw_0) (by decide) js_0 (by rw [e3]; exact wr_0)
end Go.Vm
namespace Go.Vm
open Go Go.RowKit
section
variable {α : Type} {f : α → List Value} {c : Nat}
end
end Go.Vm
namespace Go.Vm
end Go.Vm
namespace Go.Vm
open Go Go.RowKit Go.WideShapes
section
variable {H : Type} {enc : TypeId × Value → H} {P : Program} {w : World} {base : Nat} {held : Bool}
theorem cellsOK.flatC : ∀ {ks : List SK} {cs : List Value}, cellsOK ks cs → ∀ v ∈ cs, flatV v = true
  | [], [], _, v, hv => by cases hv
  | [], _ :: _, h, _, _ => h.elim
  | _ :: _, [], h, _, _ => h.elim
  | k :: ks, c :: cs, h, v, hv => by
    rcases List.mem_cons.1 hv with rfl | hv
    · exact leafOK.flat h.1
    · exact cellsOK.flatC h.2 v hv
def RowN (w : World) (ks : List SK) (a : Option Addr) (len cap : Nat) (zs : List Value) : Prop :=
  (a = none ∧ len = 0 ∧ cap = 0 ∧ zs = []) ∨ ∃ x, a = some x ∧ len ≤ cap ∧ cap ≤ maxLen ∧ zs.length = cap * ks.length ∧ (∀ (i : Nat) v, zs[i]? = some v → w.cell? (x.add i) = some v) ∧ ∀ i, i < cap → cellsOK ks ((zs.drop (i * ks.length)).take ks.length)
theorem open_rowN {r : Reach} {b0 n : Nat} {t e : TypeId} {ks : List SK} {v : Value} {d : DataW H} {ps : List MemPlace} (ht : P.underlying t = some (.slice e)) (hc : P.cellsOf e = ks.length) (hk : leafK P n e = some ks) (hval : Value.okWide P w r b0 t v)
    (hd : DataW.Trod enc P w base (fun _ => true) held t v d ps) : ∃ a len cap zs, v = .slice a len cap ∧ RowN w ks a len cap zs := by
  obtain ⟨a, len, cap, rfl⟩ := okWide_slice ht hval
  obtain ⟨fuel, hf⟩ := hd
  rcases Go.Deep.open_slice ht hf with ⟨h0, _⟩ | ⟨x, l, c, m, n', D, Pl, hcs, hb, hl, hm, hmm, _, hx⟩
  · simp [Value.cells] at h0
    obtain ⟨rfl, rfl, rfl⟩ := h0
    exact ⟨_, _, _, [], rfl, .inl ⟨rfl, rfl, rfl, rfl⟩⟩
  · simp [Value.cells] at hcs
    obtain ⟨rfl, rfl, rfl⟩ := hcs
    simp only [if_true] at hmm
    subst hmm
    obtain ⟨CS, hCS⟩ := Go.Deep.choose_lt (α := List Value) (p := fun i cs => w.cells? base (x.add (i * P.cellsOf e)) (P.cellsOf e) = some cs ∧ DataW.trod enc P w base (fun _ => true) held n' e cs = some (D i, Pl i)) hx
    rw [hc] at hCS
    have hlen : ∀ i, i < m → (CS i).length = ks.length := fun i hi => (World.cells?_some (hCS i hi).1).2.1
    refine ⟨_, _, _, vT (fun i => if i < m then CS i else List.replicate ks.length (.bool false)) (List.range m), rfl, .inr ⟨x, rfl, hl, hm, ?_, ?_, ?_⟩⟩
    all_goals
      have hF : ∀ i, (if i < m then CS i else List.replicate ks.length (.bool false)).length = ks.length := fun i => by
        split
        · rename_i hi; exact hlen i hi
        · simp
    · rw [vT_len hF, List.length_range]
    · intro k v ev
      have hk0 : k < m * ks.length := by
        rcases Nat.lt_or_ge k (m * ks.length) with h | h
        · exact h
        · rw [List.getElem?_eq_none (by rw [vT_len hF, List.length_range]; exact h)] at ev; cases ev
      have hpos : 0 < ks.length := by
        rcases Nat.eq_zero_or_pos ks.length with h | h
        · rw [h] at hk0; omega
        · exact h
      have hi : k / ks.length < m := (Nat.div_lt_iff_lt_mul hpos).2 hk0
      have hj : k % ks.length < ks.length := Nat.mod_lt _ hpos
      have e1 : k / ks.length * ks.length + k % ks.length = k := by rw [Nat.mul_comm]; exact Nat.div_add_mod k ks.length
      have e2 := vT_get hF (xs := List.range m) (i := k / ks.length) (j := k % ks.length) (x := k / ks.length) (List.getElem?_range hi) hj
      rw [e1, if_pos hi] at e2
      rw [e2] at ev
      have h3 := (World.cells?_some (hCS _ hi).1).2.2 (k % ks.length) hj
      rw [Go.Deep.add_add, e1] at h3
      rw [h3]; exact ev
    · intro i hi
      rw [vT_drop hF]
      have e1 := vT_take hF ((List.range m).drop i) 1
      rw [Nat.one_mul] at e1
      rw [e1]
      have e2 : ((List.range m).drop i).take 1 = [i] := by
        rw [List.drop_eq_getElem_cons (by simpa using hi)]
        simp
      rw [e2]
      show cellsOK ks ((if i < m then CS i else List.replicate ks.length (.bool false)) ++ [])
      rw [List.append_nil, if_pos hi]
      exact trod_flat hk (hCS i hi).2
theorem ArgR.rowN {ks : List SK} {w : World} {a : Option Addr} {len cap : Nat} {zs : List Value} (h : RowN w ks a len cap zs) (hpos : 0 < ks.length) : ArgR w (.sl ks.length) (.sl len (zs.take (len * ks.length))) (.slice a len cap) ∧ (zs.take (len * ks.length)).length = len * ks.length ∧ (∀ i, i < len → cellsOK ks (((zs.take (len * ks.length)).drop (i * ks.length)).take ks.length)) ∧ len ≤ maxLen := by
  rcases h with ⟨rfl, rfl, rfl, rfl⟩ | ⟨x, rfl, hl, hm, hz, hc, ho⟩
  · exact ⟨.inl ⟨⟨_, rfl⟩, rfl, by simp⟩, by simp, fun i hi => absurd hi (Nat.not_lt_zero _), by simp [maxLen]⟩
  · have hmul : len * ks.length ≤ cap * ks.length := Nat.mul_le_mul_right _ hl
    have hcell : ∀ i, i < len → cellsOK ks (((zs.take (len * ks.length)).drop (i * ks.length)).take ks.length) := fun i hi => by
      have h1 := ho i (by omega)
      have h2 : (i + 1) * ks.length ≤ len * ks.length := Nat.mul_le_mul_right _ (by omega)
      rw [Nat.succ_mul] at h2
      rw [List.drop_take, List.take_take, Nat.min_eq_left (by omega)]
      exact h1
    refine ⟨?_, by rw [List.length_take]; omega, hcell, by omega⟩
    rcases Nat.eq_zero_or_pos cap with h0 | h0
    · subst h0
      obtain rfl : len = 0 := by omega
      exact .inl ⟨⟨_, rfl⟩, rfl, by simp⟩
    · have hcap : 0 < cap * ks.length := Nat.mul_pos h0 hpos
      have hs : x.spot = none := by
        have := hc 0 zs[0] (List.getElem?_eq_getElem (by omega))
        cases hx : x.spot with
        | none => rfl
        | some q =>
          simp only [Addr.add, ↓reduceIte, World.cell?] at this
          split at this
          · simp [hx] at this
          · cases this
      obtain ⟨b, o, q⟩ := x
      simp only at hs
      subst hs
      have hadd : ∀ i, (⟨b, o, none⟩ : Addr).add i = ⟨b, o + i, none⟩ := fun i => by
        unfold Addr.add; split
        · rename_i e; subst e; rfl
        · rfl
      have hflat : ∀ (i : Nat) v, zs[i]? = some v → flatV v = true := fun i v e => by
        have hi : i < cap * ks.length := by
          rcases Nat.lt_or_ge i (cap * ks.length) with h | h
          · exact h
          · rw [List.getElem?_eq_none (by omega)] at e; cases e
        have hq : i / ks.length < cap := (Nat.div_lt_iff_lt_mul hpos).2 hi
        have hj : i % ks.length < ks.length := Nat.mod_lt _ hpos
        have e1 : i / ks.length * ks.length + i % ks.length = i := by rw [Nat.mul_comm]; exact Nat.div_add_mod i ks.length
        refine cellsOK.flatC (ho _ hq) v (List.mem_of_getElem? (i := i % ks.length) ?_)
        rw [List.getElem?_take_of_lt hj, List.getElem?_drop, e1]; exact e
      refine .inr ⟨b, o, cap, rfl, hl, fun ρ => ⟨by rw [List.length_take]; simp only; omega, fun i v e => ?_, fun i hi => ?_⟩⟩
      · have hi : i < len * ks.length := by
          rcases Nat.lt_or_ge i (len * ks.length) with h | h
          · exact h
          · rw [List.getElem?_eq_none (by rw [List.length_take]; omega)] at e; cases e
        rw [List.getElem?_take_of_lt hi] at e
        have h1 := hc i v e
        rw [hadd] at h1
        exact ⟨v, h1, VR.flat ρ v (hflat i v e)⟩
      · have hi' : i < zs.length := by simp only at hi; omega
        have h1 := hc i zs[i] (List.getElem?_eq_getElem hi')
        rw [hadd] at h1
        exact ⟨by simp [h1], fun e => by cases e⟩
end
theorem rows_of {α : Type} {ks : List SK} {c : α → List Value} {ok : α → Prop} (hc : ∀ cs, cellsOK ks cs → ∃ x, cs = c x ∧ ok x) : ∀ (len : Nat) (zs : List Value), zs.length = len * ks.length → (∀ i, i < len → cellsOK ks ((zs.drop (i * ks.length)).take ks.length)) → ∃ xs : List α, zs = vT c xs ∧ xs.length = len ∧ ∀ x ∈ xs, ok x
  | 0, zs, hl, _ => ⟨[], by rw [Nat.zero_mul] at hl; rw [List.eq_nil_of_length_eq_zero hl]; rfl, rfl, fun _ h => by cases h⟩
  | len + 1, zs, hl, h => by
    have h0 := h 0 (by omega)
    rw [Nat.zero_mul, List.drop_zero] at h0
    obtain ⟨x, hx, ox⟩ := hc _ h0
    obtain ⟨xs, h1, h2, h3⟩ := rows_of hc len (zs.drop ks.length) (by rw [List.length_drop, hl, Nat.succ_mul]; omega) (fun i hi => by
      have := h (i + 1) (by omega)
      rw [List.drop_drop, show ks.length + i * ks.length = (i + 1) * ks.length by rw [Nat.succ_mul, Nat.add_comm]]; exact this)
    refine ⟨x :: xs, ?_, by simp [h2], fun y hy => ?_⟩
    · have : vT c (x :: xs) = c x ++ vT c xs := rfl
      rw [this, ← hx, ← h1, List.take_append_drop]
    · rcases List.mem_cons.1 hy with rfl | hy
      · exact ox
      · exact h3 y hy
end Go.Vm
namespace Go.Vm
open Go
theorem wI64 {n : Int} (h1 : -9223372036854775808 ≤ n) (h2 : n < 9223372036854775808) : wI .i64 n = n := by
  show IntKind.wrap .i64 n = n; rw [IntKind.wrap_i64]; omega
theorem wU64 {n : Int} (h1 : 0 ≤ n) (h2 : n < 18446744073709551616) : wI .u64 n = n := by
  show IntKind.wrap .u64 n = n
  simp only [IntKind.wrap, IntKind.bits, IntKind.signed]; simp; omega
theorem wU8 {n : Int} (h1 : 0 ≤ n) (h2 : n < 256) : wI .u8 n = n := by
  show IntKind.wrap .u8 n = n
  simp only [IntKind.wrap, IntKind.bits, IntKind.signed]; simp; omega
theorem wU64m (n : Int) : wI .u64 n = n % 18446744073709551616 := by
  show IntKind.wrap .u64 n = _
  simp only [IntKind.wrap, IntKind.bits, IntKind.signed]; simp
theorem wU8m (n : Int) : wI .u8 n = n % 256 := by
  show IntKind.wrap .u8 n = _
  simp only [IntKind.wrap, IntKind.bits, IntKind.signed]; simp
theorem bv64 {n : Nat} (h : n < 18446744073709551616) : (BitVec.ofInt 64 (n : Int)).toNat = n := by
  rw [BitVec.toNat_ofInt]; omega
theorem iorI64 {a b : Nat} (ha : a < 9223372036854775808) (hb : b < 9223372036854775808) : iorI .i64 (a : Int) (b : Int) = ((a ||| b : Nat) : Int) := by
  have h : a ||| b < 2 ^ 63 := Nat.or_lt_two_pow (by omega) (by omega)
  show IntKind.wrap .i64 _ = _
  rw [show IntKind.bits .i64 = 64 from rfl, BitVec.toNat_or, bv64 (by omega), bv64 (by omega)]
  exact wI64 (by omega) (by omega)
theorem andU64 {a b : Nat} (ha : a < 18446744073709551616) (hb : b < 18446744073709551616) : andI .u64 (a : Int) (b : Int) = ((a &&& b : Nat) : Int) := by
  have h : a &&& b ≤ a := Nat.and_le_left
  show IntKind.wrap .u64 _ = _
  rw [show IntKind.bits .u64 = 64 from rfl, BitVec.toNat_and, bv64 (by omega), bv64 (by omega)]
  exact wU64 (by omega) (by omega)
theorem iorU64 {a b : Nat} (ha : a < 18446744073709551616) (hb : b < 18446744073709551616) : iorI .u64 (a : Int) (b : Int) = ((a ||| b : Nat) : Int) := by
  have h : a ||| b < 2 ^ 64 := Nat.or_lt_two_pow (by omega) (by omega)
  show IntKind.wrap .u64 _ = _
  rw [show IntKind.bits .u64 = 64 from rfl, BitVec.toNat_or, bv64 (by omega), bv64 (by omega)]
  exact wU64 (by omega) (by omega)
theorem ixorU64 {a b : Nat} (ha : a < 18446744073709551616) (hb : b < 18446744073709551616) : ixorI .u64 (a : Int) (b : Int) = ((a ^^^ b : Nat) : Int) := by
  have h : a ^^^ b < 2 ^ 64 := Nat.xor_lt_two_pow (by omega) (by omega)
  show IntKind.wrap .u64 _ = _
  rw [show IntKind.bits .u64 = 64 from rfl, BitVec.toNat_xor, bv64 (by omega), bv64 (by omega)]
  exact wU64 (by omega) (by omega)
theorem and_mask (a k : Nat) : a &&& (2 ^ k - 1) = a % 2 ^ k := Nat.and_two_pow_sub_one_eq_mod a k
theorem or_low {a b k : Nat} (hb : b < 2 ^ k) : (a * 2 ^ k) ||| b = a * 2 ^ k + b := by
  rw [Nat.mul_comm]; exact (Nat.two_pow_add_eq_or_of_lt hb a).symm
theorem andU64_mask (k : Nat) {a m : Int} (hm : m = 2 ^ k - 1) (hk : k ≤ 64) (h0 : 0 ≤ a) (h1 : a < 18446744073709551616) : andI .u64 a m = a % 2 ^ k := by
  obtain ⟨n, rfl⟩ := Int.eq_ofNat_of_zero_le h0
  have hp : 2 ^ k ≤ 2 ^ 64 := Nat.pow_le_pow_right (by decide) hk
  have hp1 : 1 ≤ 2 ^ k := Nat.one_le_two_pow
  have : m = ((2 ^ k - 1 : Nat) : Int) := by rw [hm]; push_cast [hp1]; rfl
  rw [this, andU64 (by omega) (by omega), and_mask]; push_cast; rfl
theorem iorI64_low (k : Nat) {a b : Int} (h0 : 0 ≤ a) (h1 : a * 2 ^ k < 9223372036854775808) (hb0 : 0 ≤ b) (hb : b < 2 ^ k) (hb1 : b < 9223372036854775808) : iorI .i64 (a * 2 ^ k) b = a * 2 ^ k + b := by
  obtain ⟨n, rfl⟩ := Int.eq_ofNat_of_zero_le h0
  obtain ⟨m, rfl⟩ := Int.eq_ofNat_of_zero_le hb0
  have e : ((n : Int) * 2 ^ k) = ((n * 2 ^ k : Nat) : Int) := by push_cast; rfl
  rw [e] at h1 ⊢
  rw [iorI64 (by omega) (by omega), or_low (by exact_mod_cast hb)]; push_cast; rfl
theorem iorU64_low (k : Nat) {a b : Int} (h0 : 0 ≤ a) (h1 : a * 2 ^ k < 18446744073709551616) (hb0 : 0 ≤ b) (hb : b < 2 ^ k) (hb1 : b < 18446744073709551616) : iorI .u64 (a * 2 ^ k) b = a * 2 ^ k + b := by
  obtain ⟨n, rfl⟩ := Int.eq_ofNat_of_zero_le h0
  obtain ⟨m, rfl⟩ := Int.eq_ofNat_of_zero_le hb0
  have e : ((n : Int) * 2 ^ k) = ((n * 2 ^ k : Nat) : Int) := by push_cast; rfl
  rw [e] at h1 ⊢
  rw [iorU64 (by omega) (by omega), or_low (by exact_mod_cast hb)]; push_cast; rfl
theorem fdivP (a : Int) (k : Nat) : a.fdiv (2 ^ k) = a / 2 ^ k := Int.fdiv_eq_ediv_of_nonneg a (Int.le_of_lt (Int.pow_pos (by decide)))
theorem oreq_p {α : Type} {p : Prop} [Decidable p] {x : Option α} (h : p) : oreq (decide p) x = x := oreq.mk (decide_eq_true h)
theorem cond_p {α : Type} {p : Prop} [Decidable p] {x y : α} (h : p) : cond (decide p) x y = x := by rw [decide_eq_true h, cond_true]
theorem cond_n {α : Type} {p : Prop} [Decidable p] {x y : α} (h : ¬ p) : cond (decide p) x y = y := by rw [decide_eq_false h, cond_false]
theorem cond_dec {α : Type} {p : Prop} [Decidable p] {x y : α} : cond (decide p) x y = if p then x else y := by
  by_cases h : p <;> simp [h]
theorem iter_eq {σ ρ : Type} {step : σ → Option (Sum σ ρ)} (F : σ → ρ) (P : σ → Prop) (μ : σ → Nat)
    (h : ∀ s, P s → step s = some (.inr (F s)) ∨ ∃ s', step s = some (.inl s') ∧ P s' ∧ μ s' < μ s ∧ F s' = F s) : ∀ n s, P s → μ s < n → iter step n s = some (F s)
  | 0, s, hp, hn => by omega
  | n + 1, s, hp, hn => by
    rw [iter]
    rcases h s hp with e | ⟨s', e, hp', hm, hf⟩
    · rw [e]
    · rw [e]; exact hf ▸ iter_eq F P μ h n s' hp' (by omega)
theorem FUEL_eq : FUEL = 18446744073709551616 := rfl
def be (n : Nat) : Nat → List UInt8
  | 0 => []
  | r + 1 => UInt8.ofNat (n / 256 ^ r) :: be n r
def valL (l : List UInt8) : Nat := l.foldl (fun n b => n * 256 + b.toNat) 0
@[simp] theorem be_len (n : Nat) : ∀ k, (be n k).length = k
  | 0 => rfl
  | k + 1 => by simp [be, be_len n k]
theorem be_snoc (n : Nat) : ∀ k, be n (k + 1) = be (n / 256) k ++ [UInt8.ofNat n]
  | 0 => by simp [be]
  | k + 1 => by
    rw [be, be_snoc n k, be, Nat.div_div_eq_div_mul, Nat.pow_succ, Nat.mul_comm 256]; rfl
theorem be_mod (n : Nat) : ∀ k, be (n % 256 ^ k) k = be n k
  | 0 => rfl
  | k + 1 => by
    rw [be_snoc, be_snoc, Nat.pow_succ, Nat.mul_comm, Nat.mod_mul_right_div_self, be_mod (n / 256) k]
    congr 2
    apply UInt8.toNat_inj.1
    simp only [UInt8.toNat_ofNat']
    rw [Nat.mod_mul_right_mod]
theorem val_foldl (l : List UInt8) : ∀ n : Nat, l.foldl (fun n b => n * 256 + b.toNat) n = n * 256 ^ l.length + valL l := by
  induction l with
  | nil => intro n; simp [valL]
  | cons b l ih =>
    intro n
    rw [valL, List.foldl_cons, ih, List.foldl_cons, ih, List.length_cons, Nat.pow_succ]
    rw [Nat.zero_mul, Nat.zero_add, Nat.add_mul, Nat.mul_assoc, Nat.mul_comm (256 ^ _) 256, Nat.add_assoc]
@[simp] theorem val_nil : valL [] = 0 := rfl
theorem val_cons (b : UInt8) (l : List UInt8) : valL (b :: l) = b.toNat * 256 ^ l.length + valL l := by
  rw [valL, List.foldl_cons, val_foldl]; simp
theorem val_append (l m : List UInt8) : valL (l ++ m) = valL l * 256 ^ m.length + valL m := by
  rw [valL, List.foldl_append, val_foldl]; rfl
theorem val_snoc (l : List UInt8) (b : UInt8) : valL (l ++ [b]) = valL l * 256 + b.toNat := by
  rw [val_append]; simp [val_cons]
theorem val_lt : ∀ l : List UInt8, valL l < 256 ^ l.length
  | [] => by simp
  | b :: l => by
    have h := val_lt l
    have hb := b.toNat_lt
    rw [val_cons, List.length_cons, Nat.pow_succ]
    have : b.toNat * 256 ^ l.length + 256 ^ l.length ≤ 256 * 256 ^ l.length := by
      rw [← Nat.succ_mul]; exact Nat.mul_le_mul_right _ (by omega)
    rw [Nat.mul_comm (256 ^ l.length)]; omega
theorem val_be (n : Nat) : ∀ k, valL (be n k) = n % 256 ^ k
  | 0 => by simp [be, Nat.mod_one]
  | k + 1 => by
    have e : n % 256 ^ (k + 1) = n % 256 + 256 * (n / 256 % 256 ^ k) := by rw [Nat.pow_succ', Nat.mod_mul]
    rw [be_snoc, val_snoc, val_be (n / 256) k, UInt8.toNat_ofNat', e]
    generalize n / 256 % 256 ^ k = x
    omega
theorem be_val : ∀ l : List UInt8, be (valL l) l.length = l
  | [] => rfl
  | b :: l => by
    have h := val_lt l
    rw [List.length_cons, be]
    have e1 : valL (b :: l) / 256 ^ l.length = b.toNat := by
      rw [val_cons, Nat.mul_comm, Nat.mul_add_div (Nat.pow_pos (by decide)), Nat.div_eq_of_lt h, Nat.add_zero]
    have e2 : be (valL (b :: l)) l.length = be (valL l) l.length := by
      rw [← be_mod (valL (b :: l)), val_cons, Nat.mul_add_mod', be_mod]
    rw [e1, e2, be_val l]
    simp
theorem be_val' {l : List UInt8} {k : Nat} (h : l.length = k) : be (valL l) k = l := by subst h; exact be_val l
theorem be_of {l : List UInt8} {n k : Nat} (h : l.length = k) (hv : valL l = n) : be n k = l := by subst hv; exact be_val' h
end Go.Vm
namespace Go.Vm.Code
open Go Go.Vm Go.Proofs
def τ0:Operand:=.tmp 0
def τ1:Operand:=.tmp 1
def τ2:Operand:=.tmp 2
def τ3:Operand:=.tmp 3
def τ4:Operand:=.tmp 4
def τ5:Operand:=.tmp 5
def τ6:Operand:=.tmp 6
def τ7:Operand:=.tmp 7
def τ8:Operand:=.tmp 8
def τ9:Operand:=.tmp 9
def τ10:Operand:=.tmp 10
def τ11:Operand:=.tmp 11
def τ12:Operand:=.tmp 12
def τ13:Operand:=.tmp 13
def τ14:Operand:=.tmp 14
def τ15:Operand:=.tmp 15
def τ16:Operand:=.tmp 16
def τ17:Operand:=.tmp 17
def τ18:Operand:=.tmp 18
def τ19:Operand:=.tmp 19
def τ20:Operand:=.tmp 20
def τ21:Operand:=.tmp 21
def τ22:Operand:=.tmp 22
def τ23:Operand:=.tmp 23
def τ24:Operand:=.tmp 24
def τ25:Operand:=.tmp 25
def τ26:Operand:=.tmp 26
def τ27:Operand:=.tmp 27
def τ28:Operand:=.tmp 28
def τ29:Operand:=.tmp 29
def τ30:Operand:=.tmp 30
def τ31:Operand:=.tmp 31
def τ32:Operand:=.tmp 32
def τ33:Operand:=.tmp 33
def τ34:Operand:=.tmp 34
def τ35:Operand:=.tmp 35
def τ36:Operand:=.tmp 36
def τ37:Operand:=.tmp 37
def τ38:Operand:=.tmp 38
def τ39:Operand:=.tmp 39
def τ40:Operand:=.tmp 40
def τ41:Operand:=.tmp 41
def τ42:Operand:=.tmp 42
def τ43:Operand:=.tmp 43
def τ44:Operand:=.tmp 44
def τ45:Operand:=.tmp 45
def τ46:Operand:=.tmp 46
def τ47:Operand:=.tmp 47
def τ48:Operand:=.tmp 48
def τ49:Operand:=.tmp 49
def τ50:Operand:=.tmp 50
def τ51:Operand:=.tmp 51
def τ52:Operand:=.tmp 52
def τ53:Operand:=.tmp 53
def τ54:Operand:=.tmp 54
def τ55:Operand:=.tmp 55
def τ56:Operand:=.tmp 56
def τ57:Operand:=.tmp 57
def τ58:Operand:=.tmp 58
def τ59:Operand:=.tmp 59
def τ60:Operand:=.tmp 60
def τ61:Operand:=.tmp 61
def τ62:Operand:=.tmp 62
def τ63:Operand:=.tmp 63
def τ64:Operand:=.tmp 64
def τ65:Operand:=.tmp 65
def τ66:Operand:=.tmp 66
def τ67:Operand:=.tmp 67
def τ68:Operand:=.tmp 68
def τ69:Operand:=.tmp 69
def τ70:Operand:=.tmp 70
def τ71:Operand:=.tmp 71
def τ72:Operand:=.tmp 72
def τ73:Operand:=.tmp 73
def τ74:Operand:=.tmp 74
def τ75:Operand:=.tmp 75
def τ76:Operand:=.tmp 76
def τ77:Operand:=.tmp 77
def τ78:Operand:=.tmp 78
def τ79:Operand:=.tmp 79
def τ80:Operand:=.tmp 80
def τ81:Operand:=.tmp 81
def τ82:Operand:=.tmp 82
def τ83:Operand:=.tmp 83
def τ84:Operand:=.tmp 84
def τ85:Operand:=.tmp 85
def τ86:Operand:=.tmp 86
def τ87:Operand:=.tmp 87
def τ88:Operand:=.tmp 88
def τ89:Operand:=.tmp 89
def τ90:Operand:=.tmp 90
def τ91:Operand:=.tmp 91
def τ92:Operand:=.tmp 92
def τ93:Operand:=.tmp 93
def τ94:Operand:=.tmp 94
def τ95:Operand:=.tmp 95
def τ96:Operand:=.tmp 96
def τ97:Operand:=.tmp 97
def τ98:Operand:=.tmp 98
def τ99:Operand:=.tmp 99
def τ100:Operand:=.tmp 100
def τ101:Operand:=.tmp 101
def τ102:Operand:=.tmp 102
def τ103:Operand:=.tmp 103
def τ104:Operand:=.tmp 104
def τ105:Operand:=.tmp 105
def τ106:Operand:=.tmp 106
def τ107:Operand:=.tmp 107
def τ108:Operand:=.tmp 108
def τ109:Operand:=.tmp 109
def τ110:Operand:=.tmp 110
def τ111:Operand:=.tmp 111
def τ112:Operand:=.tmp 112
def τ113:Operand:=.tmp 113
def τ114:Operand:=.tmp 114
def τ115:Operand:=.tmp 115
def τ116:Operand:=.tmp 116
def τ117:Operand:=.tmp 117
def τ118:Operand:=.tmp 118
def τ119:Operand:=.tmp 119
def τ120:Operand:=.tmp 120
def τ121:Operand:=.tmp 121
def τ122:Operand:=.tmp 122
def τ123:Operand:=.tmp 123
def τ124:Operand:=.tmp 124
def τ125:Operand:=.tmp 125
def τ126:Operand:=.tmp 126
def τ127:Operand:=.tmp 127
def τ128:Operand:=.tmp 128
def τ129:Operand:=.tmp 129
def τ130:Operand:=.tmp 130
def τ131:Operand:=.tmp 131
def τ132:Operand:=.tmp 132
def τ133:Operand:=.tmp 133
def τ134:Operand:=.tmp 134
def τ135:Operand:=.tmp 135
def τ136:Operand:=.tmp 136
def τ137:Operand:=.tmp 137
def τ138:Operand:=.tmp 138
def τ139:Operand:=.tmp 139
def τ140:Operand:=.tmp 140
def τ141:Operand:=.tmp 141
def τ142:Operand:=.tmp 142
def τ143:Operand:=.tmp 143
def τ144:Operand:=.tmp 144
def τ145:Operand:=.tmp 145
def τ146:Operand:=.tmp 146
def τ147:Operand:=.tmp 147
def τ148:Operand:=.tmp 148
def τ149:Operand:=.tmp 149
def τ150:Operand:=.tmp 150
def τ151:Operand:=.tmp 151
def τ152:Operand:=.tmp 152
def τ153:Operand:=.tmp 153
def τ154:Operand:=.tmp 154
def τ155:Operand:=.tmp 155
def τ156:Operand:=.tmp 156
def τ157:Operand:=.tmp 157
def τ158:Operand:=.tmp 158
def τ159:Operand:=.tmp 159
def τ160:Operand:=.tmp 160
def τ161:Operand:=.tmp 161
def τ162:Operand:=.tmp 162
def τ163:Operand:=.tmp 163
def τ164:Operand:=.tmp 164
def τ165:Operand:=.tmp 165
def τ166:Operand:=.tmp 166
def τ167:Operand:=.tmp 167
def τ168:Operand:=.tmp 168
def τ169:Operand:=.tmp 169
def τ170:Operand:=.tmp 170
def τ171:Operand:=.tmp 171
def τ172:Operand:=.tmp 172
def τ173:Operand:=.tmp 173
def τ174:Operand:=.tmp 174
def τ175:Operand:=.tmp 175
def τ176:Operand:=.tmp 176
def τ177:Operand:=.tmp 177
def τ178:Operand:=.tmp 178
def τ179:Operand:=.tmp 179
def τ180:Operand:=.tmp 180
def oD (n:Nat) (o:VOp):VOper:=⟨some n,o,none⟩
def oN (o:VOp):VOper:=⟨none,o,none⟩
def oM (n:Nat) (x:Operand):VOper:=⟨some n,.mv x,none⟩
def oG (n:Nat) (o:VOp) (j:Nat) (b:Bool):VOper:=⟨some n,o,some (j,b)⟩
def oE (n i:Nat) (x:Operand):VOper:=⟨some n,.extract i x,none⟩
def k6_0 : VC := .reg [oD 2 (.box τ0),oD 4 (.mv (.const (.bool false)))]
def k6_1 : VC := .reg [oM 21 τ1,oD 22 (.lenL τ21),oD 23 (.bin .gtr τ22 (.const (.int .i64 30)))]
def k6_2 : VC := .reg [oD 24 (.callF 32 []),oM 4 τ24]
def k6_3 : VC := .seq k6_2 .ret
def k6_4 : VC := .cond τ23 k6_3 .skip
def k6_5 : VC := .seq k6_1 k6_4
def k6_6 : VC := .regD [oD 25 (.loadN [(.int .u64), (.int .u64)] τ2),oD 26 (.callF 33 [τ25]),oD 27 (.loadN [(.int .u64), (.int .u64)] τ2),oD 28 (.build [(.int .u64 0), (.int .u64 0), (.int .u64 0), (.int .u64 0), (.bool false), (.int .i64 0), (.int .i64 0)] [(0, 2, τ27)]),oD 29 (.box τ28),oM 5 τ26] [(0, 4), (1, 2), (1, 4)] [oM 6 τ29]
def k6_7 : VC := .reg [oD 7 (.mv (.const (.slice none 0 0)))]
def k6_8 : VC := .reg [oD 8 (.mv (.const (.int .i64 0)))]
def k6_9 : VC := .reg [oM 30 τ8,oM 31 τ1,oD 32 (.lenL τ31),oD 33 (.bin .lss τ30 τ32)]
def k6_10 : VC := .cond τ33 .skip (.exit 0)
def k6_11 : VC := .seq k6_9 k6_10
def k6_12 : VC := .reg [oM 36 τ1,oM 37 τ8,oD 38 (.idxAL 13 τ36 τ37),oD 39 (.loadN [(.int .i64), (.int .i64), (.int .i64), .bool, (.int .u64), (.int .u64), .bool, (.int .u64), (.int .u64), (.int .i64), (.int .i64), (.int .u64), (.int .i64)] τ38),oD 9 (.alloc [(.int .i64 0), (.int .i64 0), (.int .i64 0), (.bool false), (.int .u64 0), (.int .u64 0), (.bool false), (.int .u64 0), (.int .u64 0), (.int .i64 0), (.int .i64 0), (.int .u64 0), (.int .i64 0)]),oN (.store 13 τ9 τ39)]
def k6_13 : VC := .reg [oD 40 (.fieldA 0 τ9),oD 41 (.load1 (.int .i64) τ40)]
def k6_14 : VC := .reg [oD 92 (.bin .eql τ41 (.const (.int .i64 0))),oM 91 τ92]
def k6_15 : VC := .regD [oM 93 τ5,oD 94 (.fieldA 1 τ9),oD 95 (.load1 (.int .i64) τ94),oD 96 (.callF 34 [τ93, τ95]),oM 97 τ6,oD 98 (.fieldA 1 τ9),oD 99 (.load1 (.int .i64) τ98)] [(3, 6)] [oD 100 (.callF 35 [τ97, τ99]),oD 101 (.bin .neq τ96 τ100)]
def k6_16 : VC := .reg [oD 4 (.mv (.const (.bool false)))]
def k6_17 : VC := .seq k6_16 .ret
def k6_18 : VC := .cond τ101 k6_17 .skip
def k6_19 : VC := .seq k6_15 k6_18
def k6_20 : VC := .reg [oD 103 (.bin .eql τ41 (.const (.int .i64 1))),oM 102 τ103]
def k6_21 : VC := .regD [oM 104 τ5,oD 105 (.fieldA 1 τ9),oD 106 (.load1 (.int .i64) τ105),oD 107 (.callF 36 [τ104, τ106]),oM 108 τ6,oD 109 (.fieldA 1 τ9),oD 110 (.load1 (.int .i64) τ109)] [(3, 6)] [oD 111 (.callF 37 [τ108, τ110]),oD 112 (.bin .neq τ107 τ111)]
def k6_22 : VC := .reg [oD 4 (.mv (.const (.bool false)))]
def k6_23 : VC := .seq k6_22 .ret
def k6_24 : VC := .cond τ112 k6_23 .skip
def k6_25 : VC := .seq k6_21 k6_24
def k6_26 : VC := .reg [oD 114 (.bin .eql τ41 (.const (.int .i64 2))),oM 113 τ114]
def k6_27 : VC := .regD [oM 115 τ6,oD 116 (.nilCheck τ115),oD 117 (.fieldA 0 τ116),oD 118 (.loadN [(.int .u64), (.int .u64)] τ117),oD 119 (.fieldA 2 τ9),oD 120 (.loadN [(.int .i64), .bool, (.int .u64), (.int .u64), .bool, (.int .u64), (.int .u64), (.int .i64), (.int .i64)] τ119),oD 121 (.fieldA 1 τ9),oD 122 (.load1 (.int .i64) τ121)] [] [oD 123 (.callF 38 [τ118, τ120, τ122]),oM 10 τ123]
def k6_28 : VC := .reg [oM 124 τ5,oD 125 (.fieldA 2 τ9),oD 126 (.loadN [(.int .i64), .bool, (.int .u64), (.int .u64), .bool, (.int .u64), (.int .u64), (.int .i64), (.int .i64)] τ125),oD 127 (.fieldA 1 τ9),oD 128 (.load1 (.int .i64) τ127),oD 129 (.callF 39 [τ124, τ126, τ128]),oM 130 τ10,oD 131 (.bin .neq τ129 τ130)]
def k6_29 : VC := .reg [oD 4 (.mv (.const (.bool false)))]
def k6_30 : VC := .seq k6_29 .ret
def k6_31 : VC := .cond τ131 k6_30 .skip
def k6_32 : VC := .seq k6_28 k6_31
def k6_33 : VC := .reg [oM 132 τ7,oM 133 τ10,oD 134 (.buildSl 1 1 [(.int .u64 0)] [(0, 1, τ133)]),oD 135 (.app 33 1 8 τ132 τ134),oM 7 τ135]
def k6_34 : VC := .seq k6_32 k6_33
def k6_35 : VC := .seq k6_27 k6_34
def k6_36 : VC := .reg [oD 42 (.fieldA 11 τ9),oD 43 (.load1 (.int .u64) τ42),oM 11 τ43]
def k6_37 : VC := .reg [oD 44 (.fieldA 12 τ9),oD 45 (.load1 (.int .i64) τ44),oD 46 (.bin .geq τ45 (.const (.int .i64 0))),oM 47 τ46,oG 48 (.mv τ7) 47 true,oG 49 (.lenL τ48) 47 true,oG 50 (.bin .gtr τ49 (.const (.int .i64 0))) 47 true,oD 51 (.pick τ47 τ50 (.const (.bool false)))]
def k6_38 : VC := .reg [oM 52 τ7,oD 53 (.fieldA 12 τ9),oD 54 (.load1 (.int .i64) τ53),oM 55 τ7,oD 56 (.lenL τ55),oD 57 (.bin .rem τ54 τ56),oD 58 (.idxAL 1 τ52 τ57),oD 59 (.load1 (.int .u64) τ58),oM 11 τ59]
def k6_39 : VC := .cond τ51 k6_38 .skip
def k6_40 : VC := .seq k6_37 k6_39
def k6_41 : VC := .reg [oM 61 τ5,oD 62 (.fieldA 2 τ9),oD 63 (.loadN [(.int .i64), .bool, (.int .u64), (.int .u64), .bool, (.int .u64), (.int .u64), (.int .i64), (.int .i64)] τ62),oM 64 τ11,oD 65 (.callF 40 [τ61, τ63, τ64]),oM 60 τ65,oE 66 0 τ60,oE 67 1 τ60,oE 68 2 τ60,oM 12 τ66,oM 13 τ67,oM 14 τ68]
def k6_42 : VC := .reg [oM 70 τ6,oD 71 (.fieldA 2 τ9),oD 72 (.loadN [(.int .i64), .bool, (.int .u64), (.int .u64), .bool, (.int .u64), (.int .u64), (.int .i64), (.int .i64)] τ71),oM 73 τ11,oD 74 (.callF 41 [τ70, τ72, τ73]),oM 69 τ74,oE 75 0 τ69,oE 76 1 τ69,oE 77 2 τ69,oM 15 τ75,oM 16 τ76,oM 17 τ77]
def k6_43 : VC := .reg [oM 78 τ12,oM 79 τ15,oD 80 (.bin .neq τ78 τ79),oM 81 τ80,oG 82 (.mv τ13) 81 false,oG 83 (.mv τ16) 81 false,oG 84 (.eqB true τ82 τ83) 81 false,oD 85 (.pick τ81 (.const (.bool true)) τ84),oM 86 τ85,oG 87 (.mv τ14) 86 false,oG 88 (.mv τ17) 86 false,oG 89 (.eqB true τ87 τ88) 86 false,oD 90 (.pick τ86 (.const (.bool true)) τ89)]
def k6_44 : VC := .reg [oD 4 (.mv (.const (.bool false)))]
def k6_45 : VC := .seq k6_44 .ret
def k6_46 : VC := .cond τ90 k6_45 .skip
def k6_47 : VC := .seq k6_43 k6_46
def k6_48 : VC := .seq k6_42 k6_47
def k6_49 : VC := .seq k6_41 k6_48
def k6_50 : VC := .seq k6_40 k6_49
def k6_51 : VC := .seq k6_36 k6_50
def k6_52 : VC := .cond τ113 k6_35 k6_51
def k6_53 : VC := .seq k6_26 k6_52
def k6_54 : VC := .cond τ102 k6_25 k6_53
def k6_55 : VC := .seq k6_20 k6_54
def k6_56 : VC := .cond τ91 k6_19 k6_55
def k6_57 : VC := .seq k6_14 k6_56
def k6_58 : VC := .block 2 k6_57
def k6_59 : VC := .seq k6_13 k6_58
def k6_60 : VC := .reg [oM 137 τ5,oD 138 (.callF 42 [τ137]),oM 136 τ138,oE 139 0 τ136,oE 140 1 τ136,oE 141 2 τ136,oD 18 (.alloc [(.int .u64 0), (.int .u64 0)]),oN (.store 2 τ18 τ139),oM 19 τ140,oM 20 τ141]
def k6_61 : VC := .regD [oM 142 τ5,oD 143 (.callF 43 [τ142]),oM 144 τ6,oD 145 (.nilCheck τ144),oD 146 (.fieldA 0 τ145),oD 147 (.loadN [(.int .u64), (.int .u64)] τ146),oD 148 (.eqAgg true [(0, (.int .u64)), (1, (.int .u64))] τ143 τ147),oM 149 τ148,oG 150 (.loadN [(.int .u64), (.int .u64)] τ18) 149 false,oG 151 (.mv τ6) 149 false,oG 152 (.nilCheck τ151) 149 false,oG 153 (.fieldA 2 τ152) 149 false,oG 154 (.loadN [(.int .u64), (.int .u64)] τ153) 149 false,oG 155 (.eqAgg true [(0, (.int .u64)), (1, (.int .u64))] τ150 τ154) 149 false,oD 156 (.pick τ149 (.const (.bool true)) τ155),oM 157 τ156,oG 158 (.mv τ19) 157 false,oG 159 (.mv τ6) 157 false,oG 160 (.nilCheck τ159) 157 false,oG 161 (.fieldA 5 τ160) 157 false,oG 162 (.load1 (.int .i64) τ161) 157 false,oG 163 (.bin .neq τ158 τ162) 157 false,oD 164 (.pick τ157 (.const (.bool true)) τ163),oM 165 τ164,oG 166 (.mv τ20) 165 false,oG 167 (.mv τ6) 165 false,oG 168 (.nilCheck τ167) 165 false,oG 169 (.fieldA 4 τ168) 165 false,oG 170 (.load1 .bool τ169) 165 false] [(1, 5)] [oG 171 (.eqB true τ166 τ170) 165 false,oD 172 (.pick τ165 (.const (.bool true)) τ171)]
def k6_62 : VC := .reg [oD 4 (.mv (.const (.bool false)))]
def k6_63 : VC := .seq k6_62 .ret
def k6_64 : VC := .cond τ172 k6_63 .skip
def k6_65 : VC := .seq k6_61 k6_64
def k6_66 : VC := .seq k6_60 k6_65
def k6_67 : VC := .seq k6_59 k6_66
def k6_68 : VC := .seq k6_12 k6_67
def k6_69 : VC := .block 1 k6_68
def k6_70 : VC := .reg [oM 34 τ8,oD 35 (.bin .add τ34 (.const (.int .i64 1))),oM 8 τ35]
def k6_71 : VC := .seq k6_69 k6_70
def k6_72 : VC := .seq k6_11 k6_71
def k6_73 : VC := .loop k6_72
def k6_74 : VC := .block 0 k6_73
def k6_75 : VC := .seq k6_8 k6_74
def k6_76 : VC := .regD [oD 173 (.loadN [(.int .u64), (.int .u64)] τ2),oD 174 (.callF 44 [τ173]),oD 175 (.loadN [(.int .u64), (.int .u64)] τ2)] [(1, 2)] [oD 176 (.callF 45 [τ175]),oD 177 (.eqAgg false [(0, (.int .u64)), (1, (.int .u64))] τ174 τ176),oM 178 τ177,oG 179 (.callF 32 []) 178 true,oD 180 (.pick τ178 τ179 (.const (.bool false))),oM 4 τ180]
def k6_77 : VC := .seq k6_76 .ret
def k6_78 : VC := .seq k6_75 k6_77
def k6_79 : VC := .seq k6_7 k6_78
def k6_80 : VC := .seq k6_6 k6_79
def k6_81 : VC := .seq k6_5 k6_80
def k6_82 : VC := .seq k6_0 k6_81
def fn6 : VFn := ⟨181, k6_82, [.tmp 4]⟩
def k32_0 : VC := .reg [oD 0 (.mv (.const (.bool false)))]
def k32_1 : VC := .reg [oD 18 (.build [(.int .u64 0), (.int .u64 0)] [(0, 1, (.const (.int .u64 1))), (1, 1, (.const (.int .u64 2)))]),oD 19 (.callF 33 [τ18]),oM 1 τ19]
def k32_2 : VC := .reg [oD 20 (.build [(.int .i64 0), (.bool false), (.int .u64 0), (.int .u64 0), (.bool false), (.int .u64 0), (.int .u64 0), (.int .i64 0), (.int .i64 0)] [(0, 1, (.const (.int .i64 17)))]),oD 2 (.alloc [(.int .i64 0), (.bool false), (.int .u64 0), (.int .u64 0), (.bool false), (.int .u64 0), (.int .u64 0), (.int .i64 0), (.int .i64 0)]),oN (.store 9 τ2 τ20)]
def k32_3 : VC := .reg [oM 21 τ1,oD 22 (.loadN [(.int .i64), .bool, (.int .u64), (.int .u64), .bool, (.int .u64), (.int .u64), (.int .i64), (.int .i64)] τ2),oD 23 (.callF 39 [τ21, τ22, (.const (.int .i64 7))]),oM 3 τ23]
def k32_4 : VC := .reg [oM 24 τ1,oD 25 (.callF 34 [τ24, (.const (.int .i64 5))]),oM 4 τ25]
def k32_5 : VC := .reg [oM 26 τ1,oD 27 (.callF 36 [τ26, (.const (.int .i64 4))]),oM 5 τ27]
def k32_6 : VC := .reg [oM 29 τ1,oD 30 (.loadN [(.int .i64), .bool, (.int .u64), (.int .u64), .bool, (.int .u64), (.int .u64), (.int .i64), (.int .i64)] τ2),oM 31 τ3,oD 32 (.callF 40 [τ29, τ30, τ31]),oM 28 τ32,oE 33 0 τ28,oE 34 1 τ28,oE 35 2 τ28,oM 6 τ33,oM 7 τ34,oM 8 τ35]
def k32_7 : VC := .reg [oM 36 τ1,oD 37 (.callF 36 [τ36, (.const (.int .i64 5))]),oM 9 τ37]
def k32_8 : VC := .reg [oM 39 τ1,oD 40 (.callF 42 [τ39]),oM 38 τ40,oE 41 0 τ38,oE 42 1 τ38,oE 43 2 τ38,oD 10 (.alloc [(.int .u64 0), (.int .u64 0)]),oN (.store 2 τ10 τ41),oM 11 τ42,oM 12 τ43]
def k32_9 : VC := .reg [oD 13 (.mv (.const (.pointer none)))]
def k32_10 : VC := .reg [oD 44 (.build [(.int .u64 0), (.int .u64 0), (.int .u64 0), (.int .u64 0), (.int .i64 0), (.int .i64 0), (.int .i64 0)] []),oD 45 (.box τ44),oM 14 τ45]
def k32_11 : VC := .reg [oM 47 τ13,oD 48 (.loadN [(.int .i64), .bool, (.int .u64), (.int .u64), .bool, (.int .u64), (.int .u64), (.int .i64), (.int .i64)] τ2),oM 49 τ3,oD 50 (.callF 40 [τ47, τ48, τ49]),oM 46 τ50,oE 51 0 τ46,oE 52 1 τ46,oE 53 2 τ46,oM 15 τ51,oM 16 τ52,oM 17 τ53]
def k32_12 : VC := .reg [oM 54 τ4,oD 55 (.bin .eql τ54 (.const (.int .i64 0))),oM 56 τ55,oG 57 (.mv τ5) 56 true,oG 58 (.bin .eql τ57 (.const (.int .i64 0))) 56 true,oD 59 (.pick τ56 τ58 (.const (.bool false))),oM 60 τ59,oG 61 (.mv τ6) 60 true,oG 62 (.bin .eql τ61 (.const (.int .i64 7))) 60 true,oD 63 (.pick τ60 τ62 (.const (.bool false))),oM 64 τ63,oG 65 (.mv τ7) 64 true,oD 66 (.pick τ64 τ65 (.const (.bool false))),oM 67 τ66,oG 68 (.mv τ8) 67 true,oD 69 (.pick τ67 τ68 (.const (.bool false))),oM 70 τ69,oG 71 (.mv τ9) 70 true,oG 72 (.bin .eql τ71 (.const (.int .i64 0))) 70 true,oD 73 (.pick τ70 τ72 (.const (.bool false))),oM 74 τ73,oG 75 (.mv τ12) 74 true,oG 76 (.not τ75) 74 true,oD 77 (.pick τ74 τ76 (.const (.bool false))),oM 78 τ77,oG 79 (.mv τ17) 78 true,oG 80 (.not τ79) 78 true,oD 81 (.pick τ78 τ80 (.const (.bool false))),oM 82 τ81,oG 83 (.mv τ13) 82 true,oG 84 (.callF 34 [τ83, (.const (.int .i64 1))]) 82 true,oG 85 (.bin .eql τ84 (.const (.int .i64 1))) 82 true,oD 86 (.pick τ82 τ85 (.const (.bool false))),oM 87 τ86,oG 88 (.mv τ14) 87 true,oG 89 (.callF 36 [τ88, (.const (.int .i64 1))]) 87 true,oG 90 (.bin .eql τ89 (.const (.int .i64 1))) 87 true,oD 91 (.pick τ87 τ90 (.const (.bool false))),oM 92 τ91,oG 93 (.mv τ14) 92 true,oG 94 (.loadN [(.int .i64), .bool, (.int .u64), (.int .u64), .bool, (.int .u64), (.int .u64), (.int .i64), (.int .i64)] τ2) 92 true,oG 95 (.callF 39 [τ93, τ94, (.const (.int .i64 1))]) 92 true,oG 96 (.bin .eql τ95 (.const (.int .u64 0))) 92 true,oD 97 (.pick τ92 τ96 (.const (.bool false))),oM 98 τ97,oG 99 (.mv τ13) 98 true,oG 100 (.callF 43 [τ99]) 98 true,oG 101 (.build [(.int .u64 0), (.int .u64 0)] []) 98 true,oG 102 (.eqAgg false [(0, (.int .u64)), (1, (.int .u64))] τ100 τ101) 98 true,oD 103 (.pick τ98 τ102 (.const (.bool false))),oM 0 τ103]
def k32_13 : VC := .seq k32_12 .ret
def k32_14 : VC := .seq k32_11 k32_13
def k32_15 : VC := .seq k32_10 k32_14
def k32_16 : VC := .seq k32_9 k32_15
def k32_17 : VC := .seq k32_8 k32_16
def k32_18 : VC := .seq k32_7 k32_17
def k32_19 : VC := .seq k32_6 k32_18
def k32_20 : VC := .seq k32_5 k32_19
def k32_21 : VC := .seq k32_4 k32_20
def k32_22 : VC := .seq k32_3 k32_21
def k32_23 : VC := .seq k32_2 k32_22
def k32_24 : VC := .seq k32_1 k32_23
def k32_25 : VC := .seq k32_0 k32_24
def fn32 : VFn := ⟨104, k32_25, [.tmp 0]⟩
def k33_0 : VC := .reg [oD 1 (.box τ0),oD 2 (.mv (.const (.pointer none)))]
def k33_1 : VC := .reg [oD 3 (.loadN [(.int .u64), (.int .u64)] τ1),oD 4 (.build [(.int .u64 0), (.int .u64 0), (.int .u64 0), (.int .u64 0)] [(0, 2, τ3)]),oD 5 (.build [(.int .u64 0), (.int .u64 0), (.int .u64 0), (.int .u64 0), (.int .i64 0), (.int .i64 0), (.int .i64 0)] [(0, 4, τ4), (4, 1, (.const (.int .i64 1)))]),oD 6 (.box τ5),oM 2 τ6]
def k33_2 : VC := .seq k33_1 .ret
def k33_3 : VC := .seq k33_0 k33_2
def fn33 : VFn := ⟨7, k33_3, [.tmp 2]⟩
def k39_0 : VC := .reg [oD 4 (.box τ1),oD 6 (.mv (.const (.int .u64 0)))]
def k39_1 : VC := .reg [oM 7 τ0,oD 8 (.callF 91 [τ7]),oD 9 (.not τ8)]
def k39_2 : VC := .reg [oD 6 (.mv (.const (.int .u64 0)))]
def k39_3 : VC := .seq k39_2 .ret
def k39_4 : VC := .cond τ9 k39_3 .skip
def k39_5 : VC := .seq k39_1 k39_4
def k39_6 : VC := .regD [oM 10 τ0,oD 11 (.nilCheck τ10),oD 12 (.fieldA 0 τ11),oD 13 (.idxAA 2 2 τ12 (.const (.int .i64 0))),oD 14 (.loadN [(.int .u64), (.int .u64)] τ13),oD 15 (.loadN [(.int .i64), .bool, (.int .u64), (.int .u64), .bool, (.int .u64), (.int .u64), (.int .i64), (.int .i64)] τ4),oM 16 τ2] [] [oD 17 (.callF 64 [τ14, τ15, τ16]),oM 6 τ17]
def k39_7 : VC := .seq k39_6 .ret
def k39_8 : VC := .seq k39_5 k39_7
def k39_9 : VC := .seq k39_0 k39_8
def fn39 : VFn := ⟨18, k39_9, [.tmp 6]⟩
def k91_0 : VC := .reg [oD 2 (.mv (.const (.bool false)))]
def k91_1 : VC := .reg [oM 3 τ0,oD 4 (.isNil 0 true τ3),oM 5 τ4,oG 6 (.mv τ0) 5 true,oG 7 (.nilCheck τ6) 5 true,oG 8 (.fieldA 4 τ7) 5 true,oG 9 (.load1 (.int .i64) τ8) 5 true,oG 10 (.bin .gtr τ9 (.const (.int .i64 0))) 5 true,oD 11 (.pick τ5 τ10 (.const (.bool false))),oM 2 τ11]
def k91_2 : VC := .seq k91_1 .ret
def k91_3 : VC := .seq k91_0 k91_2
def fn91 : VFn := ⟨12, k91_3, [.tmp 2]⟩
def k64_0 : VC := .reg [oD 3 (.box τ0),oD 4 (.box τ1),oD 6 (.mv (.const (.int .u64 0)))]
def k64_1 : VC := .reg [oM 7 τ2,oD 8 (.bin .lss τ7 (.const (.int .i64 0))),oM 9 τ8,oG 10 (.mv τ2) 9 false,oG 11 (.conv .u64 τ10) 9 false,oG 12 (.callF 119 [τ11]) 9 false,oG 13 (.not τ12) 9 false,oD 14 (.pick τ9 (.const (.bool true)) τ13)]
def k64_2 : VC := .reg [oD 6 (.mv (.const (.int .u64 0)))]
def k64_3 : VC := .seq k64_2 .ret
def k64_4 : VC := .cond τ14 k64_3 .skip
def k64_5 : VC := .seq k64_1 k64_4
def k64_6 : VC := .reg [oD 15 (.loadN [(.int .u64), (.int .u64)] τ3),oD 16 (.loadN [(.int .i64), .bool, (.int .u64), (.int .u64), .bool, (.int .u64), (.int .u64), (.int .i64), (.int .i64)] τ4),oM 17 τ2,oD 18 (.conv .u64 τ17),oD 19 (.callF 120 [τ15, τ16, τ18]),oM 6 τ19]
def k64_7 : VC := .seq k64_6 .ret
def k64_8 : VC := .seq k64_5 k64_7
def k64_9 : VC := .seq k64_0 k64_8
def fn64 : VFn := ⟨20, k64_9, [.tmp 6]⟩
def k119_0 : VC := .reg [oD 2 (.mv (.const (.bool false)))]
def k119_1 : VC := .reg [oM 3 τ0,oD 4 (.bin .geq τ3 (.const (.int .u64 1))),oM 5 τ4,oG 6 (.mv τ0) 5 true,oG 7 (.bin .leq τ6 (.const (.int .u64 65535))) 5 true,oD 8 (.pick τ5 τ7 (.const (.bool false))),oM 2 τ8]
def k119_2 : VC := .seq k119_1 .ret
def k119_3 : VC := .seq k119_0 k119_2
def fn119 : VFn := ⟨9, k119_3, [.tmp 2]⟩
def k120_0 : VC := .reg [oD 3 (.box τ0),oD 4 (.box τ1),oD 6 (.mv (.const (.int .u64 0)))]
def k120_1 : VC := .reg [oD 7 (.fieldA 0 τ4),oD 8 (.load1 (.int .i64) τ7),oD 9 (.bin .neq τ8 (.const (.int .i64 6))),oD 10 (.build [(.bool false), (.int .i64 0), (.int .i64 0)] [(0, 1, τ9)]),oD 11 (.loadN [(.int .u64), (.int .u64)] τ3),oD 12 (.loadN [(.int .i64), .bool, (.int .u64), (.int .u64), .bool, (.int .u64), (.int .u64), (.int .i64), (.int .i64)] τ4),oM 13 τ2,oD 14 (.callF 143 [τ10, τ11, τ12, τ13]),oM 6 τ14]
def k120_2 : VC := .seq k120_1 .ret
def k120_3 : VC := .seq k120_0 k120_2
def fn120 : VFn := ⟨15, k120_3, [.tmp 6]⟩
def k143_0 : VC := .reg [oD 4 (.box τ0),oD 5 (.box τ1),oD 6 (.box τ2),oD 8 (.mv (.const (.int .u64 0)))]
def k143_1 : VC := .reg [oD 10 (.loadN [(.int .u64), (.int .u64)] τ5),oD 11 (.callF 132 [τ10]),oM 9 τ11]
def k143_2 : VC := .reg [oM 12 τ9,oD 13 (.loadN [(.int .i64), .bool, (.int .u64), (.int .u64), .bool, (.int .u64), (.int .u64), (.int .i64), (.int .i64)] τ6),oD 14 (.callF 150 [τ13]),oD 15 (.callF 133 [τ12, τ14])]
def k143_3 : VC := .regD [oM 16 τ3,oM 17 τ9,oD 18 (.callF 134 [τ17]),oD 19 (.bin .xor τ16 τ18),oD 20 (.loadN [.bool, (.int .i64), (.int .i64)] τ4),oD 21 (.callF 152 [τ20]),oD 22 (.callF 151 [τ21])] [(2, 4)] [oD 23 (.bin .and τ19 τ22),oM 8 τ23]
def k143_4 : VC := .seq k143_3 .ret
def k143_5 : VC := .seq k143_2 k143_4
def k143_6 : VC := .seq k143_1 k143_5
def k143_7 : VC := .seq k143_0 k143_6
def fn143 : VFn := ⟨24, k143_7, [.tmp 8]⟩
def k132_0 : VC := .reg [oD 1 (.box τ0),oD 2 (.mv (.const (.pointer none)))]
def k132_1 : VC := .reg [oD 3 (.fieldA 0 τ1),oD 4 (.load1 (.int .u64) τ3),oD 5 (.bin .xor (.const (.int .u64 8317987319222330741)) τ4),oD 6 (.fieldA 1 τ1),oD 7 (.load1 (.int .u64) τ6),oD 8 (.bin .xor (.const (.int .u64 7237128888997146477)) τ7),oD 9 (.fieldA 0 τ1),oD 10 (.load1 (.int .u64) τ9),oD 11 (.bin .xor (.const (.int .u64 7816392313619706465)) τ10),oD 12 (.fieldA 1 τ1),oD 13 (.load1 (.int .u64) τ12),oD 14 (.bin .xor (.const (.int .u64 8387220255154660723)) τ13),oD 15 (.build [(.int .u64 0), (.int .u64 0), (.int .u64 0), (.int .u64 0)] [(0, 1, τ5), (1, 1, τ8), (2, 1, τ11), (3, 1, τ14)]),oD 16 (.build [(.bool false), (.int .u64 0), (.int .u64 0), (.int .u64 0), (.int .u64 0), (.int .u64 0), (.int .i64 0)] [(0, 1, (.const (.bool true))), (1, 4, τ15)]),oD 17 (.box τ16),oM 2 τ17]
def k132_2 : VC := .seq k132_1 .ret
def k132_3 : VC := .seq k132_0 k132_2
def fn132 : VFn := ⟨18, k132_3, [.tmp 2]⟩
def k150_0 : VC := .reg [oD 1 (.box τ0),oD 2 (.mv (.const (.string ⟨⟨[]⟩⟩)))]
def k150_1 : VC := .reg [oD 3 (.loadN [(.int .i64), .bool, (.int .u64), (.int .u64), .bool, (.int .u64), (.int .u64), (.int .i64), (.int .i64)] τ1),oD 4 (.callF 155 [τ3]),oD 5 (.not τ4)]
def k150_2 : VC := .reg [oD 2 (.mv (.const (.string ⟨⟨[]⟩⟩)))]
def k150_3 : VC := .seq k150_2 .ret
def k150_4 : VC := .cond τ5 k150_3 .skip
def k150_5 : VC := .seq k150_1 k150_4
def k150_6 : VC := .regD [oD 6 (.fieldA 1 τ1),oD 7 (.fieldA 0 τ6),oD 8 (.load1 .bool τ7),oD 9 (.callF 156 [τ8]),oD 10 (.bin .shl τ9 (.const (.int .u64 8))),oD 11 (.fieldA 0 τ1),oD 12 (.load1 (.int .i64) τ11),oD 13 (.bin .or τ10 τ12),oD 14 (.conv .u64 τ13),oD 15 (.callF 109 [τ14, (.const (.int .i64 2))]),oD 16 (.fieldA 1 τ1),oD 17 (.loadN [.bool, (.int .u64), (.int .u64)] τ16),oD 18 (.callF 110 [τ17]),oD 19 (.bin .add τ15 τ18),oD 20 (.fieldA 4 τ1),oD 21 (.loadN [.bool, (.int .u64), (.int .u64)] τ20),oD 22 (.callF 110 [τ21]),oD 23 (.bin .add τ19 τ22),oD 24 (.fieldA 7 τ1),oD 25 (.load1 (.int .i64) τ24),oD 26 (.conv .u64 τ25),oD 27 (.bin .shl τ26 (.const (.int .u64 16))),oD 28 (.fieldA 8 τ1),oD 29 (.load1 (.int .i64) τ28),oD 30 (.conv .u64 τ29),oD 31 (.bin .or τ27 τ30),oD 32 (.callF 109 [τ31, (.const (.int .i64 4))])] [(3, 6), (3, 11), (3, 15), (3, 19), (3, 23), (9, 11), (9, 15), (9, 19), (9, 23), (12, 15), (12, 19), (12, 23), (16, 19), (16, 23)] [oD 33 (.bin .add τ23 τ32),oM 2 τ33]
def k150_7 : VC := .seq k150_6 .ret
def k150_8 : VC := .seq k150_5 k150_7
def k150_9 : VC := .seq k150_0 k150_8
def fn150 : VFn := ⟨34, k150_9, [.tmp 2]⟩
def k155_0 : VC := .reg [oD 1 (.box τ0),oD 2 (.mv (.const (.bool false)))]
def k155_1 : VC := .reg [oD 3 (.fieldA 0 τ1),oD 4 (.load1 (.int .i64) τ3),oD 5 (.buildSl 1 1 [(.int .i64 0)] [(0, 1, τ4)]),oD 6 (.callF 160 [(.const (.int .i64 255)), τ5]),oM 7 τ6,oG 8 (.fieldA 7 τ1) 7 true,oG 9 (.load1 (.int .i64) τ8) 7 true,oG 10 (.fieldA 8 τ1) 7 true,oG 11 (.load1 (.int .i64) τ10) 7 true,oG 12 (.buildSl 2 1 [(.int .i64 0), (.int .i64 0)] [(0, 1, τ9), (1, 1, τ11)]) 7 true,oG 13 (.callF 160 [(.const (.int .i64 65535)), τ12]) 7 true,oD 14 (.pick τ7 τ13 (.const (.bool false))),oM 15 τ14,oG 16 (.fieldA 1 τ1) 15 true,oG 17 (.loadN [.bool, (.int .u64), (.int .u64)] τ16) 15 true,oG 18 (.callF 82 [τ17]) 15 true,oD 19 (.pick τ15 τ18 (.const (.bool false))),oM 20 τ19,oG 21 (.fieldA 4 τ1) 20 true,oG 22 (.loadN [.bool, (.int .u64), (.int .u64)] τ21) 20 true,oG 23 (.callF 82 [τ22]) 20 true,oD 24 (.pick τ20 τ23 (.const (.bool false))),oM 25 τ24,oG 26 (.fieldA 1 τ1) 25 true,oG 27 (.fieldA 0 τ26) 25 true,oG 28 (.load1 .bool τ27) 25 true,oG 29 (.fieldA 4 τ1) 25 true,oG 30 (.fieldA 0 τ29) 25 true,oG 31 (.load1 .bool τ30) 25 true,oG 32 (.eqB false τ28 τ31) 25 true,oD 33 (.pick τ25 τ32 (.const (.bool false))),oM 2 τ33]
def k155_2 : VC := .seq k155_1 .ret
def k155_3 : VC := .seq k155_0 k155_2
def fn155 : VFn := ⟨34, k155_3, [.tmp 2]⟩
def k160_0 : VC := .reg [oD 4 (.mv (.const (.bool false)))]
def k160_1 : VC := .reg [oM 7 τ1,oD 8 (.lenL τ7),oD 9 (.mv (.const (.int .i64 0)))]
def k160_2 : VC := .reg [oD 10 (.bin .lss τ9 τ8)]
def k160_3 : VC := .cond τ10 .skip (.exit 0)
def k160_4 : VC := .reg [oD 11 (.idxAL 1 τ7 τ9),oD 12 (.load1 (.int .i64) τ11),oM 6 τ12]
def k160_5 : VC := .reg [oM 13 τ6,oD 14 (.bin .lss τ13 (.const (.int .i64 0))),oM 15 τ14,oG 16 (.mv τ6) 15 false,oG 17 (.mv τ0) 15 false,oG 18 (.bin .gtr τ16 τ17) 15 false,oD 19 (.pick τ15 (.const (.bool true)) τ18)]
def k160_6 : VC := .reg [oD 4 (.mv (.const (.bool false)))]
def k160_7 : VC := .seq k160_6 .ret
def k160_8 : VC := .cond τ19 k160_7 .skip
def k160_9 : VC := .seq k160_5 k160_8
def k160_10 : VC := .seq k160_4 k160_9
def k160_11 : VC := .block 1 k160_10
def k160_12 : VC := .reg [oD 20 (.bin .add τ9 (.const (.int .i64 1))),oM 9 τ20]
def k160_13 : VC := .seq k160_11 k160_12
def k160_14 : VC := .seq k160_3 k160_13
def k160_15 : VC := .seq k160_2 k160_14
def k160_16 : VC := .loop k160_15
def k160_17 : VC := .block 0 k160_16
def k160_18 : VC := .seq k160_1 k160_17
def k160_19 : VC := .reg [oD 4 (.mv (.const (.bool true)))]
def k160_20 : VC := .seq k160_19 .ret
def k160_21 : VC := .seq k160_18 k160_20
def k160_22 : VC := .seq k160_0 k160_21
def fn160 : VFn := ⟨21, k160_22, [.tmp 4]⟩
def k82_0 : VC := .reg [oD 1 (.box τ0),oD 2 (.mv (.const (.bool false)))]
def k82_1 : VC := .reg [oD 3 (.fieldA 0 τ1),oD 4 (.load1 .bool τ3),oM 5 τ4,oG 6 (.fieldA 1 τ1) 5 false,oG 7 (.load1 (.int .u64) τ6) 5 false,oG 8 (.bin .eql τ7 (.const (.int .u64 0))) 5 false,oG 9 (.mv τ8) 5 false,oG 10 (.fieldA 2 τ1) 9 true,oG 11 (.load1 (.int .u64) τ10) 9 true,oG 12 (.bin .lss τ11 (.const (.int .u64 4294967296))) 9 true,oG 13 (.pick τ9 τ12 (.const (.bool false))) 5 false,oD 14 (.pick τ5 (.const (.bool true)) τ13),oM 2 τ14]
def k82_2 : VC := .seq k82_1 .ret
def k82_3 : VC := .seq k82_0 k82_2
def fn82 : VFn := ⟨15, k82_3, [.tmp 2]⟩
def k156_0 : VC := .reg [oD 2 (.mv (.const (.int .i64 0)))]
def k156_1 : VC := .reg [oM 3 τ0]
def k156_2 : VC := .reg [oD 2 (.mv (.const (.int .i64 6)))]
def k156_3 : VC := .seq k156_2 .ret
def k156_4 : VC := .cond τ3 k156_3 .skip
def k156_5 : VC := .seq k156_1 k156_4
def k156_6 : VC := .reg [oD 2 (.mv (.const (.int .i64 4)))]
def k156_7 : VC := .seq k156_6 .ret
def k156_8 : VC := .seq k156_5 k156_7
def k156_9 : VC := .seq k156_0 k156_8
def fn156 : VFn := ⟨4, k156_9, [.tmp 2]⟩
def k109_0 : VC := .reg [oD 4 (.mv (.const (.string ⟨⟨[]⟩⟩)))]
def k109_1 : VC := .reg [oM 7 τ1,oD 8 (.bin .lss τ7 (.const (.int .i64 1))),oM 9 τ8,oG 10 (.mv τ1) 9 false,oG 11 (.bin .gtr τ10 (.const (.int .i64 8))) 9 false,oD 12 (.pick τ9 (.const (.bool true)) τ11)]
def k109_2 : VC := .reg [oD 4 (.mv (.const (.string ⟨⟨[]⟩⟩)))]
def k109_3 : VC := .seq k109_2 .ret
def k109_4 : VC := .cond τ12 k109_3 .skip
def k109_5 : VC := .seq k109_1 k109_4
def k109_6 : VC := .reg [oM 13 τ1,oD 14 (.mkSl 1 1 [(.int .u8 0)] τ13 τ13),oM 5 τ14]
def k109_7 : VC := .reg [oM 15 τ5,oD 16 (.lenL τ15),oD 17 (.mv (.const (.int .i64 0)))]
def k109_8 : VC := .reg [oD 18 (.bin .lss τ17 τ16)]
def k109_9 : VC := .cond τ18 .skip (.exit 0)
def k109_10 : VC := .reg [oM 19 τ17,oM 6 τ19]
def k109_11 : VC := .reg [oM 20 τ5,oM 21 τ6,oM 22 τ0,oM 23 τ1,oD 24 (.bin .sub τ23 (.const (.int .i64 1))),oM 25 τ6,oD 26 (.bin .sub τ24 τ25),oD 27 (.bin .mul (.const (.int .i64 8)) τ26),oD 28 (.bin .shr τ22 τ27),oD 29 (.conv .u8 τ28),oD 30 (.idxAL 1 τ20 τ21),oN (.store 1 τ30 τ29)]
def k109_12 : VC := .seq k109_10 k109_11
def k109_13 : VC := .block 1 k109_12
def k109_14 : VC := .reg [oD 31 (.bin .add τ17 (.const (.int .i64 1))),oM 17 τ31]
def k109_15 : VC := .seq k109_13 k109_14
def k109_16 : VC := .seq k109_9 k109_15
def k109_17 : VC := .seq k109_8 k109_16
def k109_18 : VC := .loop k109_17
def k109_19 : VC := .block 0 k109_18
def k109_20 : VC := .seq k109_7 k109_19
def k109_21 : VC := .reg [oM 32 τ5,oD 33 (.b2s τ32),oM 4 τ33]
def k109_22 : VC := .seq k109_21 .ret
def k109_23 : VC := .seq k109_20 k109_22
def k109_24 : VC := .seq k109_6 k109_23
def k109_25 : VC := .seq k109_5 k109_24
def k109_26 : VC := .seq k109_0 k109_25
def fn109 : VFn := ⟨34, k109_26, [.tmp 4]⟩
def k110_0 : VC := .reg [oD 1 (.box τ0),oD 2 (.mv (.const (.string ⟨⟨[]⟩⟩)))]
def k110_1 : VC := .reg [oD 4 (.loadN [.bool, (.int .u64), (.int .u64)] τ1),oD 5 (.callF 82 [τ4]),oD 6 (.not τ5),oM 3 τ6]
def k110_2 : VC := .reg [oD 2 (.mv (.const (.string ⟨⟨[]⟩⟩)))]
def k110_3 : VC := .seq k110_2 .ret
def k110_4 : VC := .reg [oD 8 (.fieldA 0 τ1),oD 9 (.load1 .bool τ8),oM 7 τ9]
def k110_5 : VC := .regD [oD 10 (.fieldA 1 τ1),oD 11 (.load1 (.int .u64) τ10),oD 12 (.callF 109 [τ11, (.const (.int .i64 8))]),oD 13 (.fieldA 2 τ1),oD 14 (.load1 (.int .u64) τ13)] [(2, 4)] [oD 15 (.callF 109 [τ14, (.const (.int .i64 8))]),oD 16 (.bin .add τ12 τ15),oM 2 τ16]
def k110_6 : VC := .seq k110_5 .ret
def k110_7 : VC := .cond τ7 k110_6 .skip
def k110_8 : VC := .seq k110_4 k110_7
def k110_9 : VC := .cond τ3 k110_3 k110_8
def k110_10 : VC := .seq k110_1 k110_9
def k110_11 : VC := .block 0 k110_10
def k110_12 : VC := .reg [oD 17 (.fieldA 2 τ1),oD 18 (.load1 (.int .u64) τ17),oD 19 (.callF 109 [τ18, (.const (.int .i64 4))]),oM 2 τ19]
def k110_13 : VC := .seq k110_12 .ret
def k110_14 : VC := .seq k110_11 k110_13
def k110_15 : VC := .seq k110_0 k110_14
def fn110 : VFn := ⟨20, k110_15, [.tmp 2]⟩
def k133_0 : VC := .reg [oM 6 τ0,oD 7 (.isNil 0 false τ6),oM 8 τ7,oG 9 (.mv τ0) 8 false,oG 10 (.nilCheck τ9) 8 false,oG 11 (.fieldA 0 τ10) 8 false,oG 12 (.load1 .bool τ11) 8 false,oG 13 (.not τ12) 8 false,oD 14 (.pick τ8 (.const (.bool true)) τ13)]
def k133_1 : VC := .cond τ14 .ret .skip
def k133_2 : VC := .seq k133_0 k133_1
def k133_3 : VC := .reg [oM 15 τ1,oD 16 (.s2b τ15),oD 17 (.lenL τ16),oD 18 (.mv (.const (.int .i64 0)))]
def k133_4 : VC := .reg [oD 19 (.bin .lss τ18 τ17)]
def k133_5 : VC := .cond τ19 .skip (.exit 0)
def k133_6 : VC := .reg [oD 20 (.idxAL 1 τ16 τ18),oD 21 (.load1 (.int .u8) τ20),oM 5 τ21]
def k133_7 : VC := .regD [oM 22 τ0,oD 23 (.nilCheck τ22),oD 24 (.fieldA 5 τ23),oD 25 (.load1 (.int .u64) τ24),oM 26 τ5,oD 27 (.conv .u64 τ26),oM 28 τ0,oD 29 (.nilCheck τ28),oD 30 (.fieldA 6 τ29),oD 31 (.load1 (.int .i64) τ30),oD 32 (.bin .rem τ31 (.const (.int .i64 8))),oD 33 (.bin .mul (.const (.int .i64 8)) τ32),oD 34 (.bin .shl τ27 τ33)] [] [oD 35 (.bin .or τ25 τ34),oD 36 (.nilCheck τ22),oD 37 (.fieldA 5 τ36),oN (.store 1 τ37 τ35)]
def k133_8 : VC := .reg [oM 38 τ0,oD 39 (.nilCheck τ38),oD 40 (.fieldA 6 τ39),oD 41 (.load1 (.int .i64) τ40),oD 42 (.bin .add τ41 (.const (.int .i64 1))),oD 43 (.nilCheck τ38),oD 44 (.fieldA 6 τ43),oN (.store 1 τ44 τ42)]
def k133_9 : VC := .reg [oM 45 τ0,oD 46 (.nilCheck τ45),oD 47 (.fieldA 6 τ46),oD 48 (.load1 (.int .i64) τ47),oD 49 (.bin .rem τ48 (.const (.int .i64 8))),oD 50 (.bin .eql τ49 (.const (.int .i64 0)))]
def k133_10 : VC := .regD [oM 51 τ0,oD 52 (.nilCheck τ51),oD 53 (.fieldA 1 τ52),oM 54 τ0,oD 55 (.nilCheck τ54),oD 56 (.fieldA 5 τ55),oD 57 (.load1 (.int .u64) τ56)] [] [oD 58 (.callF 147 [τ53, τ57])]
def k133_11 : VC := .reg [oM 59 τ0,oD 60 (.nilCheck τ59),oD 61 (.fieldA 5 τ60),oN (.store 1 τ61 (.const (.int .u64 0)))]
def k133_12 : VC := .seq k133_10 k133_11
def k133_13 : VC := .cond τ50 k133_12 .skip
def k133_14 : VC := .seq k133_9 k133_13
def k133_15 : VC := .seq k133_8 k133_14
def k133_16 : VC := .seq k133_7 k133_15
def k133_17 : VC := .seq k133_6 k133_16
def k133_18 : VC := .block 1 k133_17
def k133_19 : VC := .reg [oD 62 (.bin .add τ18 (.const (.int .i64 1))),oM 18 τ62]
def k133_20 : VC := .seq k133_18 k133_19
def k133_21 : VC := .seq k133_5 k133_20
def k133_22 : VC := .seq k133_4 k133_21
def k133_23 : VC := .loop k133_22
def k133_24 : VC := .block 0 k133_23
def k133_25 : VC := .seq k133_3 k133_24
def k133_26 : VC := .seq k133_2 k133_25
def fn133 : VFn := ⟨63, k133_26, []⟩
def k147_0 : VC := .regD [oM 4 τ0,oD 5 (.nilCheck τ4),oD 6 (.idxAA 4 1 τ5 (.const (.int .i64 3))),oD 7 (.load1 (.int .u64) τ6),oM 8 τ1,oD 9 (.bin .xor τ7 τ8),oD 10 (.nilCheck τ4)] [] [oD 11 (.idxAA 4 1 τ10 (.const (.int .i64 3))),oN (.store 1 τ11 τ9)]
def k147_1 : VC := .reg [oM 12 τ0,oD 13 (.callF 148 [τ12, (.const (.int .i64 2))])]
def k147_2 : VC := .regD [oM 14 τ0,oD 15 (.nilCheck τ14),oD 16 (.idxAA 4 1 τ15 (.const (.int .i64 0))),oD 17 (.load1 (.int .u64) τ16),oM 18 τ1,oD 19 (.bin .xor τ17 τ18),oD 20 (.nilCheck τ14)] [] [oD 21 (.idxAA 4 1 τ20 (.const (.int .i64 0))),oN (.store 1 τ21 τ19)]
def k147_3 : VC := .seq k147_1 k147_2
def k147_4 : VC := .seq k147_0 k147_3
def fn147 : VFn := ⟨22, k147_4, []⟩
def k148_0 : VC := .reg [oM 4 τ1,oD 5 (.minmax false [τ4, (.const (.int .i64 64))]),oD 6 (.minmax true [(.const (.int .i64 0)), τ5]),oD 7 (.mv (.const (.int .i64 0)))]
def k148_1 : VC := .reg [oD 8 (.bin .lss τ7 τ6)]
def k148_2 : VC := .cond τ8 .skip (.exit 0)
def k148_3 : VC := .reg [oM 9 τ0,oD 10 (.callF 154 [τ9])]
def k148_4 : VC := .block 1 k148_3
def k148_5 : VC := .reg [oD 11 (.bin .add τ7 (.const (.int .i64 1))),oM 7 τ11]
def k148_6 : VC := .seq k148_4 k148_5
def k148_7 : VC := .seq k148_2 k148_6
def k148_8 : VC := .seq k148_1 k148_7
def k148_9 : VC := .loop k148_8
def k148_10 : VC := .block 0 k148_9
def k148_11 : VC := .seq k148_0 k148_10
def fn148 : VFn := ⟨12, k148_11, []⟩
def k154_0 : VC := .regD [oM 2 τ0,oD 3 (.nilCheck τ2),oD 4 (.idxAA 4 1 τ3 (.const (.int .i64 0))),oD 5 (.load1 (.int .u64) τ4),oM 6 τ0,oD 7 (.nilCheck τ6),oD 8 (.idxAA 4 1 τ7 (.const (.int .i64 1))),oD 9 (.load1 (.int .u64) τ8),oD 10 (.bin .add τ5 τ9),oD 11 (.nilCheck τ2)] [] [oD 12 (.idxAA 4 1 τ11 (.const (.int .i64 0))),oN (.store 1 τ12 τ10)]
def k154_1 : VC := .regD [oM 13 τ0,oM 14 τ0,oD 15 (.nilCheck τ14),oD 16 (.idxAA 4 1 τ15 (.const (.int .i64 1))),oD 17 (.load1 (.int .u64) τ16),oD 18 (.callF 159 [τ17, (.const (.int .i64 13))]),oM 19 τ0,oD 20 (.nilCheck τ19),oD 21 (.idxAA 4 1 τ20 (.const (.int .i64 0))),oD 22 (.load1 (.int .u64) τ21),oD 23 (.bin .xor τ18 τ22),oD 24 (.nilCheck τ13)] [(5, 9)] [oD 25 (.idxAA 4 1 τ24 (.const (.int .i64 1))),oN (.store 1 τ25 τ23)]
def k154_2 : VC := .regD [oM 26 τ0,oM 27 τ0,oD 28 (.nilCheck τ27),oD 29 (.idxAA 4 1 τ28 (.const (.int .i64 0))),oD 30 (.load1 (.int .u64) τ29),oD 31 (.callF 159 [τ30, (.const (.int .i64 32))]),oD 32 (.nilCheck τ26)] [] [oD 33 (.idxAA 4 1 τ32 (.const (.int .i64 0))),oN (.store 1 τ33 τ31)]
def k154_3 : VC := .regD [oM 34 τ0,oD 35 (.nilCheck τ34),oD 36 (.idxAA 4 1 τ35 (.const (.int .i64 2))),oD 37 (.load1 (.int .u64) τ36),oM 38 τ0,oD 39 (.nilCheck τ38),oD 40 (.idxAA 4 1 τ39 (.const (.int .i64 3))),oD 41 (.load1 (.int .u64) τ40),oD 42 (.bin .add τ37 τ41),oD 43 (.nilCheck τ34)] [] [oD 44 (.idxAA 4 1 τ43 (.const (.int .i64 2))),oN (.store 1 τ44 τ42)]
def k154_4 : VC := .regD [oM 45 τ0,oM 46 τ0,oD 47 (.nilCheck τ46),oD 48 (.idxAA 4 1 τ47 (.const (.int .i64 3))),oD 49 (.load1 (.int .u64) τ48),oD 50 (.callF 159 [τ49, (.const (.int .i64 16))]),oM 51 τ0,oD 52 (.nilCheck τ51),oD 53 (.idxAA 4 1 τ52 (.const (.int .i64 2))),oD 54 (.load1 (.int .u64) τ53),oD 55 (.bin .xor τ50 τ54),oD 56 (.nilCheck τ45)] [(5, 9)] [oD 57 (.idxAA 4 1 τ56 (.const (.int .i64 3))),oN (.store 1 τ57 τ55)]
def k154_5 : VC := .regD [oM 58 τ0,oD 59 (.nilCheck τ58),oD 60 (.idxAA 4 1 τ59 (.const (.int .i64 0))),oD 61 (.load1 (.int .u64) τ60),oM 62 τ0,oD 63 (.nilCheck τ62),oD 64 (.idxAA 4 1 τ63 (.const (.int .i64 3))),oD 65 (.load1 (.int .u64) τ64),oD 66 (.bin .add τ61 τ65),oD 67 (.nilCheck τ58)] [] [oD 68 (.idxAA 4 1 τ67 (.const (.int .i64 0))),oN (.store 1 τ68 τ66)]
def k154_6 : VC := .regD [oM 69 τ0,oM 70 τ0,oD 71 (.nilCheck τ70),oD 72 (.idxAA 4 1 τ71 (.const (.int .i64 3))),oD 73 (.load1 (.int .u64) τ72),oD 74 (.callF 159 [τ73, (.const (.int .i64 21))]),oM 75 τ0,oD 76 (.nilCheck τ75),oD 77 (.idxAA 4 1 τ76 (.const (.int .i64 0))),oD 78 (.load1 (.int .u64) τ77),oD 79 (.bin .xor τ74 τ78),oD 80 (.nilCheck τ69)] [(5, 9)] [oD 81 (.idxAA 4 1 τ80 (.const (.int .i64 3))),oN (.store 1 τ81 τ79)]
def k154_7 : VC := .regD [oM 82 τ0,oD 83 (.nilCheck τ82),oD 84 (.idxAA 4 1 τ83 (.const (.int .i64 2))),oD 85 (.load1 (.int .u64) τ84),oM 86 τ0,oD 87 (.nilCheck τ86),oD 88 (.idxAA 4 1 τ87 (.const (.int .i64 1))),oD 89 (.load1 (.int .u64) τ88),oD 90 (.bin .add τ85 τ89),oD 91 (.nilCheck τ82)] [] [oD 92 (.idxAA 4 1 τ91 (.const (.int .i64 2))),oN (.store 1 τ92 τ90)]
def k154_8 : VC := .regD [oM 93 τ0,oM 94 τ0,oD 95 (.nilCheck τ94),oD 96 (.idxAA 4 1 τ95 (.const (.int .i64 1))),oD 97 (.load1 (.int .u64) τ96),oD 98 (.callF 159 [τ97, (.const (.int .i64 17))]),oM 99 τ0,oD 100 (.nilCheck τ99),oD 101 (.idxAA 4 1 τ100 (.const (.int .i64 2))),oD 102 (.load1 (.int .u64) τ101),oD 103 (.bin .xor τ98 τ102),oD 104 (.nilCheck τ93)] [(5, 9)] [oD 105 (.idxAA 4 1 τ104 (.const (.int .i64 1))),oN (.store 1 τ105 τ103)]
def k154_9 : VC := .regD [oM 106 τ0,oM 107 τ0,oD 108 (.nilCheck τ107),oD 109 (.idxAA 4 1 τ108 (.const (.int .i64 2))),oD 110 (.load1 (.int .u64) τ109),oD 111 (.callF 159 [τ110, (.const (.int .i64 32))]),oD 112 (.nilCheck τ106)] [] [oD 113 (.idxAA 4 1 τ112 (.const (.int .i64 2))),oN (.store 1 τ113 τ111)]
def k154_10 : VC := .seq k154_8 k154_9
def k154_11 : VC := .seq k154_7 k154_10
def k154_12 : VC := .seq k154_6 k154_11
def k154_13 : VC := .seq k154_5 k154_12
def k154_14 : VC := .seq k154_4 k154_13
def k154_15 : VC := .seq k154_3 k154_14
def k154_16 : VC := .seq k154_2 k154_15
def k154_17 : VC := .seq k154_1 k154_16
def k154_18 : VC := .seq k154_0 k154_17
def fn154 : VFn := ⟨114, k154_18, []⟩
def k159_0 : VC := .reg [oD 4 (.mv (.const (.int .u64 0)))]
def k159_1 : VC := .reg [oM 6 τ1,oD 7 (.conv .u64 τ6),oD 8 (.bin .and τ7 (.const (.int .u64 63))),oM 5 τ8]
def k159_2 : VC := .reg [oM 9 τ0,oM 10 τ5,oD 11 (.bin .shl τ9 τ10),oM 12 τ0,oM 13 τ5,oD 14 (.bin .sub (.const (.int .u64 64)) τ13),oD 15 (.bin .shr τ12 τ14),oD 16 (.bin .or τ11 τ15),oM 4 τ16]
def k159_3 : VC := .seq k159_2 .ret
def k159_4 : VC := .seq k159_1 k159_3
def k159_5 : VC := .seq k159_0 k159_4
def fn159 : VFn := ⟨17, k159_5, [.tmp 4]⟩
def k134_0 : VC := .reg [oD 2 (.mv (.const (.int .u64 0)))]
def k134_1 : VC := .reg [oM 4 τ0,oD 5 (.isNil 0 false τ4),oM 6 τ5,oG 7 (.mv τ0) 6 false,oG 8 (.nilCheck τ7) 6 false,oG 9 (.fieldA 0 τ8) 6 false,oG 10 (.load1 .bool τ9) 6 false,oG 11 (.not τ10) 6 false,oD 12 (.pick τ6 (.const (.bool true)) τ11)]
def k134_2 : VC := .reg [oD 2 (.mv (.const (.int .u64 0)))]
def k134_3 : VC := .seq k134_2 .ret
def k134_4 : VC := .cond τ12 k134_3 .skip
def k134_5 : VC := .seq k134_1 k134_4
def k134_6 : VC := .reg [oM 13 τ0,oD 14 (.nilCheck τ13),oD 15 (.fieldA 1 τ14),oD 16 (.loadN [(.int .u64), (.int .u64), (.int .u64), (.int .u64)] τ15),oD 3 (.alloc [(.int .u64 0), (.int .u64 0), (.int .u64 0), (.int .u64 0)]),oN (.store 4 τ3 τ16)]
def k134_7 : VC := .regD [oM 17 τ0,oD 18 (.nilCheck τ17),oD 19 (.fieldA 5 τ18),oD 20 (.load1 (.int .u64) τ19),oM 21 τ0,oD 22 (.nilCheck τ21),oD 23 (.fieldA 6 τ22),oD 24 (.load1 (.int .i64) τ23),oD 25 (.conv .u64 τ24),oD 26 (.bin .shl τ25 (.const (.int .u64 56)))] [] [oD 27 (.bin .or τ20 τ26),oD 28 (.callF 147 [τ3, τ27])]
def k134_8 : VC := .reg [oD 29 (.idxAA 4 1 τ3 (.const (.int .i64 2))),oD 30 (.load1 (.int .u64) τ29),oD 31 (.bin .xor τ30 (.const (.int .u64 255))),oD 32 (.idxAA 4 1 τ3 (.const (.int .i64 2))),oN (.store 1 τ32 τ31)]
def k134_9 : VC := .reg [oD 33 (.callF 148 [τ3, (.const (.int .i64 4))])]
def k134_10 : VC := .reg [oD 34 (.idxAA 4 1 τ3 (.const (.int .i64 0))),oD 35 (.load1 (.int .u64) τ34),oD 36 (.idxAA 4 1 τ3 (.const (.int .i64 1))),oD 37 (.load1 (.int .u64) τ36),oD 38 (.bin .xor τ35 τ37),oD 39 (.idxAA 4 1 τ3 (.const (.int .i64 2))),oD 40 (.load1 (.int .u64) τ39),oD 41 (.bin .xor τ38 τ40),oD 42 (.idxAA 4 1 τ3 (.const (.int .i64 3))),oD 43 (.load1 (.int .u64) τ42),oD 44 (.bin .xor τ41 τ43),oM 2 τ44]
def k134_11 : VC := .seq k134_10 .ret
def k134_12 : VC := .seq k134_9 k134_11
def k134_13 : VC := .seq k134_8 k134_12
def k134_14 : VC := .seq k134_7 k134_13
def k134_15 : VC := .seq k134_6 k134_14
def k134_16 : VC := .seq k134_5 k134_15
def k134_17 : VC := .seq k134_0 k134_16
def fn134 : VFn := ⟨45, k134_17, [.tmp 2]⟩
def k152_0 : VC := .reg [oD 1 (.box τ0),oD 2 (.mv (.const (.int .i64 0)))]
def k152_1 : VC := .reg [oD 3 (.loadN [.bool, (.int .i64), (.int .i64)] τ1),oD 4 (.callF 157 [τ3]),oD 5 (.not τ4)]
def k152_2 : VC := .reg [oD 2 (.mv (.const (.int .i64 0)))]
def k152_3 : VC := .seq k152_2 .ret
def k152_4 : VC := .cond τ5 k152_3 .skip
def k152_5 : VC := .seq k152_1 k152_4
def k152_6 : VC := .reg [oD 6 (.loadN [.bool, (.int .i64), (.int .i64)] τ1),oD 7 (.build [(.bool false), (.int .i64 0), (.int .i64 0)] [(0, 3, τ6)]),oD 8 (.callF 158 [τ7]),oM 2 τ8]
def k152_7 : VC := .seq k152_6 .ret
def k152_8 : VC := .seq k152_5 k152_7
def k152_9 : VC := .seq k152_0 k152_8
def fn152 : VFn := ⟨9, k152_9, [.tmp 2]⟩
def k157_0 : VC := .reg [oD 1 (.box τ0),oD 2 (.mv (.const (.bool false)))]
def k157_1 : VC := .reg [oD 3 (.loadN [.bool, (.int .i64), (.int .i64)] τ1),oD 4 (.build [(.bool false), (.int .i64 0), (.int .i64 0)] [(0, 3, τ3)]),oD 5 (.callF 161 [τ4]),oM 2 τ5]
def k157_2 : VC := .seq k157_1 .ret
def k157_3 : VC := .seq k157_0 k157_2
def fn157 : VFn := ⟨6, k157_3, [.tmp 2]⟩
def k161_0 : VC := .reg [oD 1 (.box τ0),oD 2 (.mv (.const (.bool false)))]
def k161_1 : VC := .reg [oD 3 (.fieldA 0 τ1),oD 4 (.fieldA 1 τ3),oD 5 (.load1 (.int .i64) τ4),oD 6 (.bin .lss τ5 (.const (.int .i64 0))),oM 7 τ6,oG 8 (.fieldA 0 τ1) 7 false,oG 9 (.fieldA 1 τ8) 7 false,oG 10 (.load1 (.int .i64) τ9) 7 false,oG 11 (.bin .gtr τ10 (.const (.int .i64 12))) 7 false,oD 12 (.pick τ7 (.const (.bool true)) τ11),oM 13 τ12,oG 14 (.fieldA 0 τ1) 13 false,oG 15 (.fieldA 2 τ14) 13 false,oG 16 (.load1 (.int .i64) τ15) 13 false,oG 17 (.bin .lss τ16 (.const (.int .i64 0))) 13 false,oD 18 (.pick τ13 (.const (.bool true)) τ17)]
def k161_2 : VC := .reg [oD 2 (.mv (.const (.bool false)))]
def k161_3 : VC := .seq k161_2 .ret
def k161_4 : VC := .cond τ18 k161_3 .skip
def k161_5 : VC := .seq k161_1 k161_4
def k161_6 : VC := .regD [oD 19 (.fieldA 0 τ1),oD 20 (.fieldA 2 τ19),oD 21 (.load1 (.int .i64) τ20),oD 22 (.loadN [.bool, (.int .i64), (.int .i64)] τ1),oD 23 (.callF 158 [τ22]),oD 24 (.minmax false [τ23, (.const (.int .i64 63))]),oD 25 (.fieldA 0 τ1),oD 26 (.fieldA 1 τ25),oD 27 (.load1 (.int .i64) τ26),oD 28 (.bin .sub τ24 τ27)] [(2, 4), (4, 8)] [oD 29 (.bin .leq τ21 τ28),oM 2 τ29]
def k161_7 : VC := .seq k161_6 .ret
def k161_8 : VC := .seq k161_5 k161_7
def k161_9 : VC := .seq k161_0 k161_8
def fn161 : VFn := ⟨30, k161_9, [.tmp 2]⟩
def k158_0 : VC := .reg [oD 1 (.box τ0),oD 2 (.mv (.const (.int .i64 0)))]
def k158_1 : VC := .reg [oD 3 (.fieldA 0 τ1),oD 4 (.fieldA 0 τ3),oD 5 (.load1 .bool τ4)]
def k158_2 : VC := .reg [oD 2 (.mv (.const (.int .i64 64)))]
def k158_3 : VC := .seq k158_2 .ret
def k158_4 : VC := .cond τ5 k158_3 .skip
def k158_5 : VC := .seq k158_1 k158_4
def k158_6 : VC := .reg [oD 2 (.mv (.const (.int .i64 16)))]
def k158_7 : VC := .seq k158_6 .ret
def k158_8 : VC := .seq k158_5 k158_7
def k158_9 : VC := .seq k158_0 k158_8
def fn158 : VFn := ⟨6, k158_9, [.tmp 2]⟩
def k151_0 : VC := .reg [oD 2 (.mv (.const (.int .u64 0)))]
def k151_1 : VC := .reg [oM 3 τ0,oD 4 (.bin .lss τ3 (.const (.int .i64 0))),oM 5 τ4,oG 6 (.mv τ0) 5 false,oG 7 (.bin .gtr τ6 (.const (.int .i64 64))) 5 false,oD 8 (.pick τ5 (.const (.bool true)) τ7)]
def k151_2 : VC := .reg [oD 2 (.mv (.const (.int .u64 0)))]
def k151_3 : VC := .seq k151_2 .ret
def k151_4 : VC := .cond τ8 k151_3 .skip
def k151_5 : VC := .seq k151_1 k151_4
def k151_6 : VC := .reg [oM 9 τ0,oD 10 (.bin .shl (.const (.int .u64 18446744073709551615)) τ9),oD 11 (.cmpl τ10),oM 2 τ11]
def k151_7 : VC := .seq k151_6 .ret
def k151_8 : VC := .seq k151_5 k151_7
def k151_9 : VC := .seq k151_0 k151_8
def fn151 : VFn := ⟨12, k151_9, [.tmp 2]⟩
def k34_0 : VC := .reg [oD 4 (.mv (.const (.int .i64 0)))]
def k34_1 : VC := .reg [oM 6 τ0,oD 7 (.callF 91 [τ6]),oD 8 (.not τ7),oM 9 τ8,oG 10 (.mv τ1) 9 false,oG 11 (.bin .lss τ10 (.const (.int .i64 1))) 9 false,oD 12 (.pick τ9 (.const (.bool true)) τ11),oM 13 τ12,oG 14 (.mv τ1) 13 false,oG 15 (.bin .gtr τ14 (.const (.int .i64 1048576))) 13 false,oD 16 (.pick τ13 (.const (.bool true)) τ15),oM 5 τ16]
def k34_2 : VC := .reg [oD 4 (.mv (.const (.int .i64 1)))]
def k34_3 : VC := .seq k34_2 .ret
def k34_4 : VC := .reg [oM 18 τ0,oD 19 (.nilCheck τ18),oD 20 (.fieldA 4 τ19),oD 21 (.load1 (.int .i64) τ20),oD 22 (.bin .eql τ21 (.const (.int .i64 2))),oM 17 τ22]
def k34_5 : VC := .reg [oD 4 (.mv (.const (.int .i64 11)))]
def k34_6 : VC := .seq k34_5 .ret
def k34_7 : VC := .cond τ17 k34_6 .skip
def k34_8 : VC := .seq k34_4 k34_7
def k34_9 : VC := .cond τ5 k34_3 k34_8
def k34_10 : VC := .seq k34_1 k34_9
def k34_11 : VC := .block 0 k34_10
def k34_12 : VC := .regD [oM 23 τ0,oM 24 τ0,oD 25 (.nilCheck τ24),oD 26 (.fieldA 0 τ25),oD 27 (.idxAA 2 2 τ26 (.const (.int .i64 0))),oD 28 (.loadN [(.int .u64), (.int .u64)] τ27),oD 29 (.callF 44 [τ28]),oM 30 τ0,oD 31 (.nilCheck τ30),oD 32 (.fieldA 0 τ31),oD 33 (.idxAA 2 2 τ32 (.const (.int .i64 0))),oD 34 (.loadN [(.int .u64), (.int .u64)] τ33),oD 35 (.build [(.int .u64 0), (.int .u64 0), (.int .u64 0), (.int .u64 0)] [(0, 2, τ29), (2, 2, τ34)])] [(6, 11)] [oD 36 (.nilCheck τ23),oD 37 (.fieldA 0 τ36),oN (.store 4 τ37 τ35)]
def k34_13 : VC := .reg [oM 38 τ0,oM 39 τ0,oM 40 τ0,oD 41 (.nilCheck τ40),oD 42 (.fieldA 6 τ41),oD 43 (.load1 (.int .i64) τ42),oM 44 τ1,oD 45 (.bin .add τ43 τ44),oD 46 (.nilCheck τ38),oD 47 (.fieldA 4 τ46),oN (.store 1 τ47 (.const (.int .i64 2))),oD 48 (.nilCheck τ39),oD 49 (.fieldA 5 τ48),oN (.store 1 τ49 τ45)]
def k34_14 : VC := .reg [oD 4 (.mv (.const (.int .i64 0)))]
def k34_15 : VC := .seq k34_14 .ret
def k34_16 : VC := .seq k34_13 k34_15
def k34_17 : VC := .seq k34_12 k34_16
def k34_18 : VC := .seq k34_11 k34_17
def k34_19 : VC := .seq k34_0 k34_18
def fn34 : VFn := ⟨50, k34_19, [.tmp 4]⟩
def k44_0 : VC := .reg [oD 1 (.box τ0),oD 2 (.alloc [(.int .u64 0), (.int .u64 0)])]
def k44_1 : VC := .regD [oD 3 (.loadN [(.int .u64), (.int .u64)] τ1),oD 4 (.callF 94 [τ3, (.const (.string ⟨⟨[1]⟩⟩))]),oD 5 (.loadN [(.int .u64), (.int .u64)] τ1)] [(1, 2)] [oD 6 (.callF 94 [τ5, (.const (.string ⟨⟨[2]⟩⟩))]),oD 7 (.build [(.int .u64 0), (.int .u64 0)] [(0, 1, τ4), (1, 1, τ6)]),oN (.store 2 τ2 τ7)]
def k44_2 : VC := .seq k44_1 .ret
def k44_3 : VC := .seq k44_0 k44_2
def fn44 : VFn := ⟨8, k44_3, [.cell 2 [(.int .u64), (.int .u64)] true]⟩
def k94_0 : VC := .reg [oD 2 (.box τ0),oD 4 (.mv (.const (.int .u64 0)))]
def k94_1 : VC := .reg [oD 6 (.loadN [(.int .u64), (.int .u64)] τ2),oD 7 (.callF 132 [τ6]),oM 5 τ7]
def k94_2 : VC := .reg [oM 8 τ5,oM 9 τ1,oD 10 (.callF 133 [τ8, τ9])]
def k94_3 : VC := .reg [oM 11 τ5,oD 12 (.callF 134 [τ11]),oM 4 τ12]
def k94_4 : VC := .seq k94_3 .ret
def k94_5 : VC := .seq k94_2 k94_4
def k94_6 : VC := .seq k94_1 k94_5
def k94_7 : VC := .seq k94_0 k94_6
def fn94 : VFn := ⟨13, k94_7, [.tmp 4]⟩
def k36_0 : VC := .reg [oD 4 (.mv (.const (.int .i64 0)))]
def k36_1 : VC := .reg [oM 6 τ0,oD 7 (.callF 91 [τ6]),oD 8 (.not τ7),oM 5 τ8]
def k36_2 : VC := .reg [oD 4 (.mv (.const (.int .i64 1)))]
def k36_3 : VC := .seq k36_2 .ret
def k36_4 : VC := .reg [oM 10 τ1,oM 11 τ0,oD 12 (.nilCheck τ11),oD 13 (.fieldA 6 τ12),oD 14 (.load1 (.int .i64) τ13),oD 15 (.bin .lss τ10 τ14),oM 16 τ15,oG 17 (.mv τ1) 16 false,oG 18 (.bin .gtr τ17 (.const (.int .i64 1099511627776))) 16 false,oD 19 (.pick τ16 (.const (.bool true)) τ18),oM 9 τ19]
def k36_5 : VC := .reg [oD 4 (.mv (.const (.int .i64 15)))]
def k36_6 : VC := .seq k36_5 .ret
def k36_7 : VC := .cond τ9 k36_6 .skip
def k36_8 : VC := .seq k36_4 k36_7
def k36_9 : VC := .cond τ5 k36_3 k36_8
def k36_10 : VC := .seq k36_1 k36_9
def k36_11 : VC := .block 0 k36_10
def k36_12 : VC := .reg [oM 20 τ0,oM 21 τ1,oD 22 (.nilCheck τ20),oD 23 (.fieldA 6 τ22),oN (.store 1 τ23 τ21)]
def k36_13 : VC := .reg [oM 24 τ0,oD 25 (.nilCheck τ24),oD 26 (.fieldA 4 τ25),oD 27 (.load1 (.int .i64) τ26),oD 28 (.bin .eql τ27 (.const (.int .i64 2))),oM 29 τ28,oG 30 (.mv τ0) 29 true,oG 31 (.nilCheck τ30) 29 true,oG 32 (.fieldA 5 τ31) 29 true,oG 33 (.load1 (.int .i64) τ32) 29 true,oG 34 (.mv τ1) 29 true,oG 35 (.bin .leq τ33 τ34) 29 true,oD 36 (.pick τ29 τ35 (.const (.bool false)))]
def k36_14 : VC := .reg [oM 37 τ0,oD 38 (.nilCheck τ37),oD 39 (.fieldA 4 τ38),oN (.store 1 τ39 (.const (.int .i64 1)))]
def k36_15 : VC := .cond τ36 k36_14 .skip
def k36_16 : VC := .seq k36_13 k36_15
def k36_17 : VC := .reg [oD 4 (.mv (.const (.int .i64 0)))]
def k36_18 : VC := .seq k36_17 .ret
def k36_19 : VC := .seq k36_16 k36_18
def k36_20 : VC := .seq k36_12 k36_19
def k36_21 : VC := .seq k36_11 k36_20
def k36_22 : VC := .seq k36_0 k36_21
def fn36 : VFn := ⟨40, k36_22, [.tmp 4]⟩
def k40_0 : VC := .reg [oD 4 (.box τ1),oD 6 (.mv (.const (.int .i64 0))),oD 7 (.mv (.const (.bool false))),oD 8 (.mv (.const (.bool false)))]
def k40_1 : VC := .reg [oM 13 τ0,oD 14 (.callF 91 [τ13]),oD 15 (.not τ14)]
def k40_2 : VC := .reg [oD 6 (.mv (.const (.int .i64 0))),oD 7 (.mv (.const (.bool false))),oD 8 (.mv (.const (.bool false)))]
def k40_3 : VC := .seq k40_2 .ret
def k40_4 : VC := .cond τ15 k40_3 .skip
def k40_5 : VC := .seq k40_1 k40_4
def k40_6 : VC := .regD [oM 16 τ0,oD 17 (.nilCheck τ16),oD 18 (.fieldA 0 τ17),oM 19 τ0,oD 20 (.nilCheck τ19),oD 21 (.fieldA 4 τ20),oD 22 (.load1 (.int .i64) τ21),oD 23 (.sliceA 2 2 τ18 none (some τ22)),oD 24 (.lenL τ23),oD 25 (.mv (.const (.int .i64 0)))] [] []
def k40_7 : VC := .reg [oD 26 (.bin .lss τ25 τ24)]
def k40_8 : VC := .cond τ26 .skip (.exit 0)
def k40_9 : VC := .reg [oM 27 τ25,oD 28 (.idxAL 2 τ23 τ25),oD 29 (.loadN [(.int .u64), (.int .u64)] τ28),oD 10 (.alloc [(.int .u64 0), (.int .u64 0)]),oM 9 τ27,oN (.store 2 τ10 τ29)]
def k40_10 : VC := .reg [oD 31 (.loadN [(.int .u64), (.int .u64)] τ10),oD 32 (.loadN [(.int .i64), .bool, (.int .u64), (.int .u64), .bool, (.int .u64), (.int .u64), (.int .i64), (.int .i64)] τ4),oM 33 τ2,oD 34 (.callF 65 [τ31, τ32, τ33]),oM 30 τ34,oE 35 0 τ30,oE 36 1 τ30,oM 11 τ35,oM 12 τ36]
def k40_11 : VC := .reg [oM 37 τ12]
def k40_12 : VC := .reg [oM 38 τ11,oM 39 τ9,oD 40 (.bin .eql τ39 (.const (.int .i64 1))),oM 6 τ38,oM 7 τ40,oD 8 (.mv (.const (.bool true)))]
def k40_13 : VC := .seq k40_12 .ret
def k40_14 : VC := .cond τ37 k40_13 .skip
def k40_15 : VC := .seq k40_11 k40_14
def k40_16 : VC := .seq k40_10 k40_15
def k40_17 : VC := .seq k40_9 k40_16
def k40_18 : VC := .block 1 k40_17
def k40_19 : VC := .reg [oD 41 (.bin .add τ25 (.const (.int .i64 1))),oM 25 τ41]
def k40_20 : VC := .seq k40_18 k40_19
def k40_21 : VC := .seq k40_8 k40_20
def k40_22 : VC := .seq k40_7 k40_21
def k40_23 : VC := .loop k40_22
def k40_24 : VC := .block 0 k40_23
def k40_25 : VC := .seq k40_6 k40_24
def k40_26 : VC := .reg [oD 6 (.mv (.const (.int .i64 0))),oD 7 (.mv (.const (.bool false))),oD 8 (.mv (.const (.bool false)))]
def k40_27 : VC := .seq k40_26 .ret
def k40_28 : VC := .seq k40_25 k40_27
def k40_29 : VC := .seq k40_5 k40_28
def k40_30 : VC := .seq k40_0 k40_29
def fn40 : VFn := ⟨42, k40_30, [.tmp 6, .tmp 7, .tmp 8]⟩
def k65_0 : VC := .reg [oD 3 (.box τ0),oD 4 (.box τ1),oD 6 (.mv (.const (.int .i64 0))),oD 7 (.mv (.const (.bool false)))]
def k65_1 : VC := .reg [oD 9 (.loadN [(.int .u64), (.int .u64)] τ3),oD 10 (.loadN [(.int .i64), .bool, (.int .u64), (.int .u64), .bool, (.int .u64), (.int .u64), (.int .i64), (.int .i64)] τ4),oM 11 τ2,oD 12 (.callF 120 [τ9, τ10, τ11]),oM 8 τ12]
def k65_2 : VC := .reg [oM 13 τ8,oD 14 (.callF 119 [τ13]),oD 15 (.not τ14),oM 16 τ15,oG 17 (.loadN [(.int .u64), (.int .u64)] τ3) 16 false,oG 18 (.loadN [(.int .i64), .bool, (.int .u64), (.int .u64), .bool, (.int .u64), (.int .u64), (.int .i64), (.int .i64)] τ4) 16 false,oG 19 (.mv τ8) 16 false,oG 20 (.callF 120 [τ17, τ18, τ19]) 16 false,oG 21 (.mv τ2) 16 false,oG 22 (.bin .neq τ20 τ21) 16 false,oD 23 (.pick τ16 (.const (.bool true)) τ22)]
def k65_3 : VC := .reg [oD 6 (.mv (.const (.int .i64 0))),oD 7 (.mv (.const (.bool false)))]
def k65_4 : VC := .seq k65_3 .ret
def k65_5 : VC := .cond τ23 k65_4 .skip
def k65_6 : VC := .seq k65_2 k65_5
def k65_7 : VC := .reg [oM 24 τ8,oD 25 (.conv .i64 τ24),oM 6 τ25,oD 7 (.mv (.const (.bool true)))]
def k65_8 : VC := .seq k65_7 .ret
def k65_9 : VC := .seq k65_6 k65_8
def k65_10 : VC := .seq k65_1 k65_9
def k65_11 : VC := .seq k65_0 k65_10
def fn65 : VFn := ⟨26, k65_11, [.tmp 6, .tmp 7]⟩
def k42_0 : VC := .reg [oD 2 (.alloc [(.int .u64 0), (.int .u64 0)]),oD 3 (.mv (.const (.int .i64 0))),oD 4 (.mv (.const (.bool false)))]
def k42_1 : VC := .reg [oM 5 τ0,oD 6 (.callF 91 [τ5]),oD 7 (.not τ6),oM 8 τ7,oG 9 (.mv τ0) 8 false,oG 10 (.nilCheck τ9) 8 false,oG 11 (.fieldA 4 τ10) 8 false,oG 12 (.load1 (.int .i64) τ11) 8 false,oG 13 (.bin .lss τ12 (.const (.int .i64 2))) 8 false,oD 14 (.pick τ8 (.const (.bool true)) τ13)]
def k42_2 : VC := .reg [oD 15 (.build [(.int .u64 0), (.int .u64 0)] []),oN (.store 2 τ2 τ15),oD 3 (.mv (.const (.int .i64 0))),oD 4 (.mv (.const (.bool false)))]
def k42_3 : VC := .seq k42_2 .ret
def k42_4 : VC := .cond τ14 k42_3 .skip
def k42_5 : VC := .seq k42_1 k42_4
def k42_6 : VC := .regD [oM 16 τ0,oD 17 (.nilCheck τ16),oD 18 (.fieldA 0 τ17),oD 19 (.idxAA 2 2 τ18 (.const (.int .i64 1))),oD 20 (.loadN [(.int .u64), (.int .u64)] τ19),oM 21 τ0,oD 22 (.nilCheck τ21),oD 23 (.fieldA 5 τ22),oD 24 (.load1 (.int .i64) τ23),oN (.store 2 τ2 τ20)] [(8, 9)] [oM 3 τ24,oD 4 (.mv (.const (.bool true)))]
def k42_7 : VC := .seq k42_6 .ret
def k42_8 : VC := .seq k42_5 k42_7
def k42_9 : VC := .seq k42_0 k42_8
def fn42 : VFn := ⟨25, k42_9, [.cell 2 [(.int .u64), (.int .u64)] true, .tmp 3, .tmp 4]⟩
def k43_0 : VC := .reg [oD 2 (.alloc [(.int .u64 0), (.int .u64 0)])]
def k43_1 : VC := .reg [oM 3 τ0,oD 4 (.callF 91 [τ3]),oD 5 (.not τ4)]
def k43_2 : VC := .reg [oD 6 (.build [(.int .u64 0), (.int .u64 0)] []),oN (.store 2 τ2 τ6)]
def k43_3 : VC := .seq k43_2 .ret
def k43_4 : VC := .cond τ5 k43_3 .skip
def k43_5 : VC := .seq k43_1 k43_4
def k43_6 : VC := .reg [oM 7 τ0,oD 8 (.nilCheck τ7),oD 9 (.fieldA 0 τ8),oD 10 (.idxAA 2 2 τ9 (.const (.int .i64 0))),oD 11 (.loadN [(.int .u64), (.int .u64)] τ10),oN (.store 2 τ2 τ11)]
def k43_7 : VC := .seq k43_6 .ret
def k43_8 : VC := .seq k43_5 k43_7
def k43_9 : VC := .seq k43_0 k43_8
def fn43 : VFn := ⟨12, k43_9, [.cell 2 [(.int .u64), (.int .u64)] true]⟩
def k35_0 : VC := .reg [oD 4 (.mv (.const (.int .i64 0)))]
def k35_1 : VC := .reg [oM 5 τ1,oD 6 (.bin .lss τ5 (.const (.int .i64 1))),oM 7 τ6,oG 8 (.mv τ1) 7 false,oG 9 (.bin .gtr τ8 (.const (.int .i64 1048576))) 7 false,oD 10 (.pick τ7 (.const (.bool true)) τ9)]
def k35_2 : VC := .reg [oD 4 (.mv (.const (.int .i64 1)))]
def k35_3 : VC := .seq k35_2 .ret
def k35_4 : VC := .cond τ10 k35_3 .skip
def k35_5 : VC := .seq k35_1 k35_4
def k35_6 : VC := .reg [oM 11 τ0,oD 12 (.nilCheck τ11),oD 13 (.fieldA 4 τ12),oD 14 (.load1 .bool τ13)]
def k35_7 : VC := .reg [oD 4 (.mv (.const (.int .i64 11)))]
def k35_8 : VC := .seq k35_7 .ret
def k35_9 : VC := .cond τ14 k35_8 .skip
def k35_10 : VC := .seq k35_6 k35_9
def k35_11 : VC := .reg [oM 15 τ0,oM 16 τ0,oD 17 (.nilCheck τ16),oD 18 (.fieldA 0 τ17),oD 19 (.loadN [(.int .u64), (.int .u64)] τ18),oD 20 (.nilCheck τ15),oD 21 (.fieldA 2 τ20),oN (.store 2 τ21 τ19)]
def k35_12 : VC := .reg [oM 22 τ0,oD 23 (.nilCheck τ22),oD 24 (.fieldA 4 τ23),oN (.store 1 τ24 (.const (.bool true)))]
def k35_13 : VC := .reg [oM 25 τ0,oM 26 τ0,oD 27 (.nilCheck τ26),oD 28 (.fieldA 6 τ27),oD 29 (.load1 (.int .i64) τ28),oM 30 τ1,oD 31 (.bin .add τ29 τ30),oD 32 (.nilCheck τ25),oD 33 (.fieldA 5 τ32),oN (.store 1 τ33 τ31)]
def k35_14 : VC := .reg [oM 34 τ0,oM 35 τ0,oD 36 (.nilCheck τ35),oD 37 (.fieldA 2 τ36),oD 38 (.loadN [(.int .u64), (.int .u64)] τ37),oD 39 (.callF 45 [τ38]),oD 40 (.nilCheck τ34),oD 41 (.fieldA 0 τ40),oN (.store 2 τ41 τ39)]
def k35_15 : VC := .reg [oD 4 (.mv (.const (.int .i64 0)))]
def k35_16 : VC := .seq k35_15 .ret
def k35_17 : VC := .seq k35_14 k35_16
def k35_18 : VC := .seq k35_13 k35_17
def k35_19 : VC := .seq k35_12 k35_18
def k35_20 : VC := .seq k35_11 k35_19
def k35_21 : VC := .seq k35_10 k35_20
def k35_22 : VC := .seq k35_5 k35_21
def k35_23 : VC := .seq k35_0 k35_22
def fn35 : VFn := ⟨42, k35_23, [.tmp 4]⟩
def k45_0 : VC := .reg [oD 1 (.box τ0),oD 2 (.alloc [(.int .u64 0), (.int .u64 0)])]
def k45_1 : VC := .regD [oD 3 (.loadN [(.int .u64), (.int .u64)] τ1),oD 4 (.callF 95 [τ3, (.const (.string ⟨⟨[1]⟩⟩))]),oD 5 (.loadN [(.int .u64), (.int .u64)] τ1)] [(1, 2)] [oD 6 (.callF 95 [τ5, (.const (.string ⟨⟨[2]⟩⟩))]),oD 7 (.build [(.int .u64 0), (.int .u64 0)] [(0, 1, τ4), (1, 1, τ6)]),oN (.store 2 τ2 τ7)]
def k45_2 : VC := .seq k45_1 .ret
def k45_3 : VC := .seq k45_0 k45_2
def fn45 : VFn := ⟨8, k45_3, [.cell 2 [(.int .u64), (.int .u64)] true]⟩
def k95_0 : VC := .reg [oD 2 (.box τ0),oD 4 (.mv (.const (.int .u64 0)))]
def k95_1 : VC := .regD [oD 14 (.fieldA 0 τ2),oD 15 (.load1 (.int .u64) τ14),oD 16 (.bin .xor (.const (.int .u64 8317987319222330741)) τ15),oD 17 (.fieldA 1 τ2),oD 18 (.load1 (.int .u64) τ17),oD 19 (.bin .xor (.const (.int .u64 7237128888997146477)) τ18),oM 5 τ16] [] [oM 6 τ19]
def k95_2 : VC := .regD [oD 20 (.fieldA 0 τ2),oD 21 (.load1 (.int .u64) τ20),oD 22 (.bin .xor (.const (.int .u64 7816392313619706465)) τ21),oD 23 (.fieldA 1 τ2),oD 24 (.load1 (.int .u64) τ23),oD 25 (.bin .xor (.const (.int .u64 8387220255154660723)) τ24),oM 7 τ22] [] [oM 8 τ25]
def k95_3 : VC := .reg [oM 26 τ1,oD 27 (.lenS τ26),oD 28 (.bin .quo τ27 (.const (.int .i64 8))),oD 29 (.bin .mul τ28 (.const (.int .i64 8))),oM 9 τ29]
def k95_4 : VC := .reg [oD 10 (.mv (.const (.int .i64 0)))]
def k95_5 : VC := .reg [oM 30 τ10,oM 31 τ9,oD 32 (.bin .leq τ30 τ31)]
def k95_6 : VC := .cond τ32 .skip (.exit 0)
def k95_7 : VC := .seq k95_5 k95_6
def k95_8 : VC := .reg [oM 35 τ1,oM 36 τ10,oM 37 τ10,oD 38 (.bin .add τ37 (.const (.int .i64 8))),oM 39 τ1,oD 40 (.lenS τ39),oD 41 (.minmax false [τ38, τ40]),oD 42 (.sliceS τ35 (some τ36) (some τ41)),oD 43 (.callF 135 [τ42]),oM 11 τ43]
def k95_9 : VC := .reg [oM 44 τ10,oM 45 τ9,oD 46 (.bin .eql τ44 τ45)]
def k95_10 : VC := .reg [oM 47 τ1,oM 48 τ10,oD 49 (.sliceS τ47 (some τ48) none),oD 50 (.callF 135 [τ49]),oM 51 τ1,oD 52 (.lenS τ51),oD 53 (.bin .rem τ52 (.const (.int .i64 256))),oD 54 (.conv .u64 τ53),oD 55 (.bin .shl τ54 (.const (.int .u64 56))),oD 56 (.bin .add τ50 τ55),oM 11 τ56]
def k95_11 : VC := .cond τ46 k95_10 .skip
def k95_12 : VC := .seq k95_9 k95_11
def k95_13 : VC := .reg [oM 57 τ8,oM 58 τ11,oD 59 (.bin .xor τ57 τ58),oM 8 τ59]
def k95_14 : VC := .reg [oD 12 (.mv (.const (.int .i64 0)))]
def k95_15 : VC := .reg [oM 60 τ12,oD 61 (.bin .lss τ60 (.const (.int .i64 2)))]
def k95_16 : VC := .cond τ61 .skip (.exit 2)
def k95_17 : VC := .seq k95_15 k95_16
def k95_18 : VC := .reg [oM 65 τ5,oM 66 τ6,oM 67 τ7,oM 68 τ8,oD 69 (.callF 136 [τ65, τ66, τ67, τ68]),oM 64 τ69,oE 70 0 τ64,oE 71 1 τ64,oE 72 2 τ64,oE 73 3 τ64,oM 5 τ70,oM 6 τ71,oM 7 τ72,oM 8 τ73]
def k95_19 : VC := .block 3 k95_18
def k95_20 : VC := .reg [oM 62 τ12,oD 63 (.bin .add τ62 (.const (.int .i64 1))),oM 12 τ63]
def k95_21 : VC := .seq k95_19 k95_20
def k95_22 : VC := .seq k95_17 k95_21
def k95_23 : VC := .loop k95_22
def k95_24 : VC := .block 2 k95_23
def k95_25 : VC := .seq k95_14 k95_24
def k95_26 : VC := .reg [oM 74 τ5,oM 75 τ11,oD 76 (.bin .xor τ74 τ75),oM 5 τ76]
def k95_27 : VC := .seq k95_25 k95_26
def k95_28 : VC := .seq k95_13 k95_27
def k95_29 : VC := .seq k95_12 k95_28
def k95_30 : VC := .seq k95_8 k95_29
def k95_31 : VC := .block 1 k95_30
def k95_32 : VC := .reg [oM 33 τ10,oD 34 (.bin .add τ33 (.const (.int .i64 8))),oM 10 τ34]
def k95_33 : VC := .seq k95_31 k95_32
def k95_34 : VC := .seq k95_7 k95_33
def k95_35 : VC := .loop k95_34
def k95_36 : VC := .block 0 k95_35
def k95_37 : VC := .seq k95_4 k95_36
def k95_38 : VC := .reg [oM 77 τ7,oD 78 (.bin .xor τ77 (.const (.int .u64 255))),oM 7 τ78]
def k95_39 : VC := .reg [oM 79 τ5,oM 80 τ6,oM 81 τ7,oM 82 τ8,oD 83 (.callF 137 [τ79, τ80, τ81, τ82, (.const (.int .i64 4))]),oD 13 (.alloc [(.int .u64 0), (.int .u64 0), (.int .u64 0), (.int .u64 0)]),oN (.store 4 τ13 τ83)]
def k95_40 : VC := .reg [oD 84 (.idxAA 4 1 τ13 (.const (.int .i64 0))),oD 85 (.load1 (.int .u64) τ84),oD 86 (.idxAA 4 1 τ13 (.const (.int .i64 1))),oD 87 (.load1 (.int .u64) τ86),oD 88 (.bin .xor τ85 τ87),oD 89 (.idxAA 4 1 τ13 (.const (.int .i64 2))),oD 90 (.load1 (.int .u64) τ89),oD 91 (.bin .xor τ88 τ90),oD 92 (.idxAA 4 1 τ13 (.const (.int .i64 3))),oD 93 (.load1 (.int .u64) τ92),oD 94 (.bin .xor τ91 τ93),oM 4 τ94]
def k95_41 : VC := .seq k95_40 .ret
def k95_42 : VC := .seq k95_39 k95_41
def k95_43 : VC := .seq k95_38 k95_42
def k95_44 : VC := .seq k95_37 k95_43
def k95_45 : VC := .seq k95_3 k95_44
def k95_46 : VC := .seq k95_2 k95_45
def k95_47 : VC := .seq k95_1 k95_46
def k95_48 : VC := .seq k95_0 k95_47
def fn95 : VFn := ⟨95, k95_48, [.tmp 4]⟩
def k135_0 : VC := .reg [oD 2 (.mv (.const (.int .u64 0)))]
def k135_1 : VC := .reg [oD 3 (.mv (.const (.int .u64 0)))]
def k135_2 : VC := .reg [oM 5 τ0,oD 6 (.lenS τ5),oD 7 (.bin .sub τ6 (.const (.int .i64 1))),oM 4 τ7]
def k135_3 : VC := .reg [oM 8 τ4,oD 9 (.bin .geq τ8 (.const (.int .i64 0)))]
def k135_4 : VC := .cond τ9 .skip (.exit 0)
def k135_5 : VC := .seq k135_3 k135_4
def k135_6 : VC := .reg [oM 12 τ3,oD 13 (.bin .shl τ12 (.const (.int .u64 8))),oM 14 τ0,oM 15 τ4,oD 16 (.idxS τ14 τ15),oD 17 (.conv .u64 τ16),oD 18 (.bin .add τ13 τ17),oM 3 τ18]
def k135_7 : VC := .block 1 k135_6
def k135_8 : VC := .reg [oM 10 τ4,oD 11 (.bin .sub τ10 (.const (.int .i64 1))),oM 4 τ11]
def k135_9 : VC := .seq k135_7 k135_8
def k135_10 : VC := .seq k135_5 k135_9
def k135_11 : VC := .loop k135_10
def k135_12 : VC := .block 0 k135_11
def k135_13 : VC := .seq k135_2 k135_12
def k135_14 : VC := .reg [oM 19 τ3,oM 2 τ19]
def k135_15 : VC := .seq k135_14 .ret
def k135_16 : VC := .seq k135_13 k135_15
def k135_17 : VC := .seq k135_1 k135_16
def k135_18 : VC := .seq k135_0 k135_17
def fn135 : VFn := ⟨20, k135_18, [.tmp 2]⟩
def k136_0 : VC := .reg [oD 8 (.mv (.const (.int .u64 0))),oD 9 (.mv (.const (.int .u64 0))),oD 10 (.mv (.const (.int .u64 0))),oD 11 (.mv (.const (.int .u64 0)))]
def k136_1 : VC := .reg [oM 12 τ0,oM 13 τ1,oD 14 (.bin .add τ12 τ13),oM 0 τ14]
def k136_2 : VC := .reg [oM 15 τ1,oD 16 (.callF 149 [τ15, (.const (.int .i64 13))]),oM 17 τ0,oD 18 (.bin .xor τ16 τ17),oM 1 τ18]
def k136_3 : VC := .reg [oM 19 τ0,oD 20 (.callF 149 [τ19, (.const (.int .i64 32))]),oM 0 τ20]
def k136_4 : VC := .reg [oM 21 τ2,oM 22 τ3,oD 23 (.bin .add τ21 τ22),oM 2 τ23]
def k136_5 : VC := .reg [oM 24 τ3,oD 25 (.callF 149 [τ24, (.const (.int .i64 16))]),oM 26 τ2,oD 27 (.bin .xor τ25 τ26),oM 3 τ27]
def k136_6 : VC := .reg [oM 28 τ0,oM 29 τ3,oD 30 (.bin .add τ28 τ29),oM 0 τ30]
def k136_7 : VC := .reg [oM 31 τ3,oD 32 (.callF 149 [τ31, (.const (.int .i64 21))]),oM 33 τ0,oD 34 (.bin .xor τ32 τ33),oM 3 τ34]
def k136_8 : VC := .reg [oM 35 τ2,oM 36 τ1,oD 37 (.bin .add τ35 τ36),oM 2 τ37]
def k136_9 : VC := .reg [oM 38 τ1,oD 39 (.callF 149 [τ38, (.const (.int .i64 17))]),oM 40 τ2,oD 41 (.bin .xor τ39 τ40),oM 1 τ41]
def k136_10 : VC := .reg [oM 42 τ2,oD 43 (.callF 149 [τ42, (.const (.int .i64 32))]),oM 2 τ43]
def k136_11 : VC := .reg [oM 44 τ0,oM 45 τ1,oM 46 τ2,oM 47 τ3,oM 8 τ44,oM 9 τ45,oM 10 τ46,oM 11 τ47]
def k136_12 : VC := .seq k136_11 .ret
def k136_13 : VC := .seq k136_10 k136_12
def k136_14 : VC := .seq k136_9 k136_13
def k136_15 : VC := .seq k136_8 k136_14
def k136_16 : VC := .seq k136_7 k136_15
def k136_17 : VC := .seq k136_6 k136_16
def k136_18 : VC := .seq k136_5 k136_17
def k136_19 : VC := .seq k136_4 k136_18
def k136_20 : VC := .seq k136_3 k136_19
def k136_21 : VC := .seq k136_2 k136_20
def k136_22 : VC := .seq k136_1 k136_21
def k136_23 : VC := .seq k136_0 k136_22
def fn136 : VFn := ⟨48, k136_23, [.tmp 8, .tmp 9, .tmp 10, .tmp 11]⟩
def k149_0 : VC := .reg [oD 4 (.mv (.const (.int .u64 0)))]
def k149_1 : VC := .regD [oM 5 τ0,oM 6 τ1,oD 7 (.bin .shl τ5 τ6),oM 8 τ0,oM 9 τ1,oD 10 (.bin .sub (.const (.int .i64 64)) τ9),oD 11 (.bin .shr τ8 τ10)] [] [oD 12 (.bin .or τ7 τ11),oM 4 τ12]
def k149_2 : VC := .seq k149_1 .ret
def k149_3 : VC := .seq k149_0 k149_2
def fn149 : VFn := ⟨13, k149_3, [.tmp 4]⟩
def k137_0 : VC := .reg [oD 10 (.alloc [(.int .u64 0), (.int .u64 0), (.int .u64 0), (.int .u64 0)])]
def k137_1 : VC := .reg [oD 11 (.mv (.const (.int .i64 0)))]
def k137_2 : VC := .reg [oM 12 τ11,oM 13 τ4,oD 14 (.bin .lss τ12 τ13),oM 15 τ14,oG 16 (.mv τ11) 15 true,oG 17 (.bin .lss τ16 (.const (.int .i64 64))) 15 true,oD 18 (.pick τ15 τ17 (.const (.bool false)))]
def k137_3 : VC := .cond τ18 .skip (.exit 0)
def k137_4 : VC := .seq k137_2 k137_3
def k137_5 : VC := .reg [oM 22 τ0,oM 23 τ1,oM 24 τ2,oM 25 τ3,oD 26 (.callF 136 [τ22, τ23, τ24, τ25]),oM 21 τ26,oE 27 0 τ21,oE 28 1 τ21,oE 29 2 τ21,oE 30 3 τ21,oM 0 τ27,oM 1 τ28,oM 2 τ29,oM 3 τ30]
def k137_6 : VC := .block 1 k137_5
def k137_7 : VC := .reg [oM 19 τ11,oD 20 (.bin .add τ19 (.const (.int .i64 1))),oM 11 τ20]
def k137_8 : VC := .seq k137_6 k137_7
def k137_9 : VC := .seq k137_4 k137_8
def k137_10 : VC := .loop k137_9
def k137_11 : VC := .block 0 k137_10
def k137_12 : VC := .seq k137_1 k137_11
def k137_13 : VC := .reg [oM 31 τ0,oM 32 τ1,oM 33 τ2,oM 34 τ3,oD 35 (.build [(.int .u64 0), (.int .u64 0), (.int .u64 0), (.int .u64 0)] [(0, 1, τ31), (1, 1, τ32), (2, 1, τ33), (3, 1, τ34)]),oN (.store 4 τ10 τ35)]
def k137_14 : VC := .seq k137_13 .ret
def k137_15 : VC := .seq k137_12 k137_14
def k137_16 : VC := .seq k137_0 k137_15
def fn137 : VFn := ⟨36, k137_16, [.cell 10 [(.int .u64), (.int .u64), (.int .u64), (.int .u64)] true]⟩
def k37_0 : VC := .reg [oD 4 (.mv (.const (.int .i64 0)))]
def k37_1 : VC := .reg [oM 5 τ1,oM 6 τ0,oD 7 (.nilCheck τ6),oD 8 (.fieldA 6 τ7),oD 9 (.load1 (.int .i64) τ8),oD 10 (.bin .lss τ5 τ9),oM 11 τ10,oG 12 (.mv τ1) 11 false,oG 13 (.bin .gtr τ12 (.const (.int .i64 1099511627776))) 11 false,oD 14 (.pick τ11 (.const (.bool true)) τ13)]
def k37_2 : VC := .reg [oD 4 (.mv (.const (.int .i64 15)))]
def k37_3 : VC := .seq k37_2 .ret
def k37_4 : VC := .cond τ14 k37_3 .skip
def k37_5 : VC := .seq k37_1 k37_4
def k37_6 : VC := .reg [oM 15 τ0,oM 16 τ1,oD 17 (.nilCheck τ15),oD 18 (.fieldA 6 τ17),oN (.store 1 τ18 τ16)]
def k37_7 : VC := .reg [oM 19 τ0,oD 20 (.nilCheck τ19),oD 21 (.fieldA 4 τ20),oD 22 (.load1 .bool τ21),oM 23 τ22,oG 24 (.mv τ0) 23 true,oG 25 (.nilCheck τ24) 23 true,oG 26 (.fieldA 5 τ25) 23 true,oG 27 (.load1 (.int .i64) τ26) 23 true,oG 28 (.mv τ1) 23 true,oG 29 (.bin .leq τ27 τ28) 23 true,oD 30 (.pick τ23 τ29 (.const (.bool false)))]
def k37_8 : VC := .reg [oM 31 τ0,oD 32 (.nilCheck τ31),oD 33 (.fieldA 4 τ32),oN (.store 1 τ33 (.const (.bool false)))]
def k37_9 : VC := .reg [oM 34 τ0,oD 35 (.build [(.int .u64 0), (.int .u64 0)] []),oD 36 (.nilCheck τ34),oD 37 (.fieldA 2 τ36),oN (.store 2 τ37 τ35)]
def k37_10 : VC := .reg [oM 38 τ0,oD 39 (.nilCheck τ38),oD 40 (.fieldA 5 τ39),oN (.store 1 τ40 (.const (.int .i64 0)))]
def k37_11 : VC := .seq k37_9 k37_10
def k37_12 : VC := .seq k37_8 k37_11
def k37_13 : VC := .cond τ30 k37_12 .skip
def k37_14 : VC := .seq k37_7 k37_13
def k37_15 : VC := .reg [oD 4 (.mv (.const (.int .i64 0)))]
def k37_16 : VC := .seq k37_15 .ret
def k37_17 : VC := .seq k37_14 k37_16
def k37_18 : VC := .seq k37_6 k37_17
def k37_19 : VC := .seq k37_5 k37_18
def k37_20 : VC := .seq k37_0 k37_19
def fn37 : VFn := ⟨41, k37_20, [.tmp 4]⟩
def k38_0 : VC := .reg [oD 3 (.box τ0),oD 4 (.box τ1),oD 6 (.mv (.const (.int .u64 0)))]
def k38_1 : VC := .reg [oM 7 τ2,oD 8 (.bin .lss τ7 (.const (.int .i64 1))),oM 9 τ8,oG 10 (.mv τ2) 9 false,oG 11 (.bin .gtr τ10 (.const (.int .i64 65535))) 9 false,oD 12 (.pick τ9 (.const (.bool true)) τ11)]
def k38_2 : VC := .reg [oD 6 (.mv (.const (.int .u64 0)))]
def k38_3 : VC := .seq k38_2 .ret
def k38_4 : VC := .cond τ12 k38_3 .skip
def k38_5 : VC := .seq k38_1 k38_4
def k38_6 : VC := .regD [oD 13 (.loadN [(.int .i64), .bool, (.int .u64), (.int .u64), .bool, (.int .u64), (.int .u64), (.int .i64), (.int .i64)] τ4),oD 14 (.callF 93 [τ13]),oD 15 (.loadN [(.int .u64), (.int .u64)] τ3),oD 16 (.loadN [(.int .i64), .bool, (.int .u64), (.int .u64), .bool, (.int .u64), (.int .u64), (.int .i64), (.int .i64)] τ4),oM 17 τ2,oD 18 (.conv .u64 τ17)] [(1, 2), (1, 3)] [oD 19 (.callF 92 [τ14, τ15, τ16, τ18]),oM 6 τ19]
def k38_7 : VC := .seq k38_6 .ret
def k38_8 : VC := .seq k38_5 k38_7
def k38_9 : VC := .seq k38_0 k38_8
def fn38 : VFn := ⟨20, k38_9, [.tmp 6]⟩
def k93_0 : VC := .reg [oD 1 (.box τ0),oD 2 (.alloc [(.bool false), (.int .i64 0), (.int .i64 0)])]
def k93_1 : VC := .reg [oD 3 (.fieldA 0 τ1),oD 4 (.load1 (.int .i64) τ3),oD 5 (.bin .neq τ4 (.const (.int .i64 6))),oD 6 (.build [(.bool false), (.int .i64 0), (.int .i64 0)] [(0, 1, τ5)]),oN (.store 3 τ2 τ6)]
def k93_2 : VC := .seq k93_1 .ret
def k93_3 : VC := .seq k93_0 k93_2
def fn93 : VFn := ⟨7, k93_3, [.cell 2 [.bool, (.int .i64), (.int .i64)] true]⟩
def k92_0 : VC := .reg [oD 4 (.box τ0),oD 5 (.box τ1),oD 6 (.box τ2),oD 8 (.mv (.const (.int .u64 0)))]
def k92_1 : VC := .regD [oM 9 τ3,oD 10 (.loadN [(.int .u64), (.int .u64)] τ5),oD 11 (.loadN [(.int .i64), .bool, (.int .u64), (.int .u64), .bool, (.int .u64), (.int .u64), (.int .i64), (.int .i64)] τ6),oD 12 (.callF 129 [τ11]),oD 13 (.callF 95 [τ10, τ12]),oD 14 (.bin .xor τ9 τ13),oD 15 (.loadN [.bool, (.int .i64), (.int .i64)] τ4),oD 16 (.callF 131 [τ15]),oD 17 (.callF 130 [τ16])] [(1, 3), (3, 6), (4, 6)] [oD 18 (.bin .and τ14 τ17),oM 8 τ18]
def k92_2 : VC := .seq k92_1 .ret
def k92_3 : VC := .seq k92_0 k92_2
def fn92 : VFn := ⟨19, k92_3, [.tmp 8]⟩
def k129_0 : VC := .reg [oD 1 (.box τ0),oD 2 (.mv (.const (.string ⟨⟨[]⟩⟩)))]
def k129_1 : VC := .reg [oD 4 (.loadN [(.int .i64), .bool, (.int .u64), (.int .u64), .bool, (.int .u64), (.int .u64), (.int .i64), (.int .i64)] τ1),oD 5 (.callF 145 [τ4]),oD 6 (.not τ5)]
def k129_2 : VC := .reg [oD 2 (.mv (.const (.string ⟨⟨[]⟩⟩)))]
def k129_3 : VC := .seq k129_2 .ret
def k129_4 : VC := .cond τ6 k129_3 .skip
def k129_5 : VC := .seq k129_1 k129_4
def k129_6 : VC := .reg [oD 3 (.mv (.const (.int .u64 4)))]
def k129_7 : VC := .reg [oD 7 (.fieldA 1 τ1),oD 8 (.fieldA 0 τ7),oD 9 (.load1 .bool τ8)]
def k129_8 : VC := .reg [oD 3 (.mv (.const (.int .u64 6)))]
def k129_9 : VC := .cond τ9 k129_8 .skip
def k129_10 : VC := .seq k129_7 k129_9
def k129_11 : VC := .regD [oM 10 τ3,oD 11 (.callF 104 [τ10, (.const (.int .i64 1))]),oD 12 (.fieldA 0 τ1),oD 13 (.load1 (.int .i64) τ12),oD 14 (.conv .u64 τ13),oD 15 (.callF 104 [τ14, (.const (.int .i64 1))]),oD 16 (.bin .add τ11 τ15),oD 17 (.fieldA 1 τ1),oD 18 (.loadN [.bool, (.int .u64), (.int .u64)] τ17),oD 19 (.callF 112 [τ18]),oD 20 (.bin .add τ16 τ19),oD 21 (.fieldA 4 τ1),oD 22 (.loadN [.bool, (.int .u64), (.int .u64)] τ21),oD 23 (.callF 112 [τ22]),oD 24 (.bin .add τ20 τ23),oD 25 (.fieldA 7 τ1),oD 26 (.load1 (.int .i64) τ25),oD 27 (.conv .u64 τ26),oD 28 (.callF 104 [τ27, (.const (.int .i64 2))]),oD 29 (.bin .add τ24 τ28),oD 30 (.fieldA 8 τ1),oD 31 (.load1 (.int .i64) τ30),oD 32 (.conv .u64 τ31),oD 33 (.callF 104 [τ32, (.const (.int .i64 2))])] [(1, 3), (1, 8), (1, 12), (1, 16), (1, 21), (5, 8), (5, 12), (5, 16), (5, 21), (9, 12), (9, 16), (9, 21), (13, 16), (13, 21), (18, 21)] [oD 34 (.bin .add τ29 τ33),oM 2 τ34]
def k129_12 : VC := .seq k129_11 .ret
def k129_13 : VC := .seq k129_10 k129_12
def k129_14 : VC := .seq k129_6 k129_13
def k129_15 : VC := .seq k129_5 k129_14
def k129_16 : VC := .seq k129_0 k129_15
def fn129 : VFn := ⟨35, k129_16, [.tmp 2]⟩
def k145_0 : VC := .reg [oD 1 (.box τ0),oD 2 (.mv (.const (.bool false)))]
def k145_1 : VC := .reg [oD 3 (.fieldA 0 τ1),oD 4 (.load1 (.int .i64) τ3),oD 5 (.callF 153 [τ4, (.const (.int .i64 255))]),oM 6 τ5,oG 7 (.fieldA 1 τ1) 6 true,oG 8 (.loadN [.bool, (.int .u64), (.int .u64)] τ7) 6 true,oG 9 (.callF 115 [τ8]) 6 true,oD 10 (.pick τ6 τ9 (.const (.bool false))),oM 11 τ10,oG 12 (.fieldA 4 τ1) 11 true,oG 13 (.loadN [.bool, (.int .u64), (.int .u64)] τ12) 11 true,oG 14 (.callF 115 [τ13]) 11 true,oD 15 (.pick τ11 τ14 (.const (.bool false))),oM 16 τ15,oG 17 (.fieldA 1 τ1) 16 true,oG 18 (.fieldA 0 τ17) 16 true,oG 19 (.load1 .bool τ18) 16 true,oG 20 (.fieldA 4 τ1) 16 true,oG 21 (.fieldA 0 τ20) 16 true,oG 22 (.load1 .bool τ21) 16 true,oG 23 (.eqB false τ19 τ22) 16 true,oD 24 (.pick τ16 τ23 (.const (.bool false))),oM 25 τ24,oG 26 (.fieldA 7 τ1) 25 true,oG 27 (.load1 (.int .i64) τ26) 25 true,oG 28 (.callF 153 [τ27, (.const (.int .i64 65535))]) 25 true,oD 29 (.pick τ25 τ28 (.const (.bool false))),oM 30 τ29,oG 31 (.fieldA 8 τ1) 30 true,oG 32 (.load1 (.int .i64) τ31) 30 true,oG 33 (.callF 153 [τ32, (.const (.int .i64 65535))]) 30 true,oD 34 (.pick τ30 τ33 (.const (.bool false))),oM 2 τ34]
def k145_2 : VC := .seq k145_1 .ret
def k145_3 : VC := .seq k145_0 k145_2
def fn145 : VFn := ⟨35, k145_3, [.tmp 2]⟩
def k153_0 : VC := .reg [oD 4 (.mv (.const (.bool false)))]
def k153_1 : VC := .reg [oM 5 τ0,oD 6 (.bin .geq τ5 (.const (.int .i64 0))),oM 7 τ6,oG 8 (.mv τ0) 7 true,oG 9 (.mv τ1) 7 true,oG 10 (.bin .leq τ8 τ9) 7 true,oD 11 (.pick τ7 τ10 (.const (.bool false))),oM 4 τ11]
def k153_2 : VC := .seq k153_1 .ret
def k153_3 : VC := .seq k153_0 k153_2
def fn153 : VFn := ⟨12, k153_3, [.tmp 4]⟩
def k115_0 : VC := .reg [oD 1 (.box τ0),oD 2 (.mv (.const (.bool false)))]
def k115_1 : VC := .reg [oD 3 (.fieldA 0 τ1),oD 4 (.load1 .bool τ3),oM 5 τ4,oG 6 (.fieldA 1 τ1) 5 false,oG 7 (.load1 (.int .u64) τ6) 5 false,oG 8 (.bin .eql τ7 (.const (.int .u64 0))) 5 false,oG 9 (.mv τ8) 5 false,oG 10 (.fieldA 2 τ1) 9 true,oG 11 (.load1 (.int .u64) τ10) 9 true,oG 12 (.bin .lss τ11 (.const (.int .u64 4294967296))) 9 true,oG 13 (.pick τ9 τ12 (.const (.bool false))) 5 false,oD 14 (.pick τ5 (.const (.bool true)) τ13),oM 2 τ14]
def k115_2 : VC := .seq k115_1 .ret
def k115_3 : VC := .seq k115_0 k115_2
def fn115 : VFn := ⟨15, k115_3, [.tmp 2]⟩
def k104_0 : VC := .reg [oD 4 (.mv (.const (.string ⟨⟨[]⟩⟩)))]
def k104_1 : VC := .reg [oD 5 (.mv (.const (.string ⟨⟨[]⟩⟩)))]
def k104_2 : VC := .reg [oD 6 (.mv (.const (.int .i64 0)))]
def k104_3 : VC := .reg [oM 7 τ6,oM 8 τ1,oD 9 (.bin .lss τ7 τ8),oM 10 τ9,oG 11 (.mv τ1) 10 true,oG 12 (.bin .leq τ11 (.const (.int .i64 8))) 10 true,oD 13 (.pick τ10 τ12 (.const (.bool false)))]
def k104_4 : VC := .cond τ13 .skip (.exit 0)
def k104_5 : VC := .seq k104_3 k104_4
def k104_6 : VC := .reg [oM 16 τ0,oD 17 (.bin .rem τ16 (.const (.int .u64 256))),oD 18 (.conv .u8 τ17),oD 19 (.buildSl 1 1 [(.int .u8 0)] [(0, 1, τ18)]),oD 20 (.b2s τ19),oM 21 τ5,oD 22 (.bin .add τ20 τ21),oM 5 τ22]
def k104_7 : VC := .reg [oM 23 τ0,oD 24 (.bin .quo τ23 (.const (.int .u64 256))),oM 0 τ24]
def k104_8 : VC := .seq k104_6 k104_7
def k104_9 : VC := .block 1 k104_8
def k104_10 : VC := .reg [oM 14 τ6,oD 15 (.bin .add τ14 (.const (.int .i64 1))),oM 6 τ15]
def k104_11 : VC := .seq k104_9 k104_10
def k104_12 : VC := .seq k104_5 k104_11
def k104_13 : VC := .loop k104_12
def k104_14 : VC := .block 0 k104_13
def k104_15 : VC := .seq k104_2 k104_14
def k104_16 : VC := .reg [oM 25 τ5,oM 4 τ25]
def k104_17 : VC := .seq k104_16 .ret
def k104_18 : VC := .seq k104_15 k104_17
def k104_19 : VC := .seq k104_1 k104_18
def k104_20 : VC := .seq k104_0 k104_19
def fn104 : VFn := ⟨26, k104_20, [.tmp 4]⟩
def k112_0 : VC := .reg [oD 1 (.box τ0),oD 2 (.mv (.const (.string ⟨⟨[]⟩⟩)))]
def k112_1 : VC := .reg [oD 3 (.loadN [.bool, (.int .u64), (.int .u64)] τ1),oD 4 (.callF 115 [τ3]),oD 5 (.not τ4)]
def k112_2 : VC := .reg [oD 2 (.mv (.const (.string ⟨⟨[]⟩⟩)))]
def k112_3 : VC := .seq k112_2 .ret
def k112_4 : VC := .cond τ5 k112_3 .skip
def k112_5 : VC := .seq k112_1 k112_4
def k112_6 : VC := .reg [oD 6 (.fieldA 0 τ1),oD 7 (.load1 .bool τ6)]
def k112_7 : VC := .regD [oD 8 (.fieldA 1 τ1),oD 9 (.load1 (.int .u64) τ8),oD 10 (.callF 104 [τ9, (.const (.int .i64 8))]),oD 11 (.fieldA 2 τ1),oD 12 (.load1 (.int .u64) τ11)] [(2, 4)] [oD 13 (.callF 104 [τ12, (.const (.int .i64 8))]),oD 14 (.bin .add τ10 τ13),oM 2 τ14]
def k112_8 : VC := .seq k112_7 .ret
def k112_9 : VC := .cond τ7 k112_8 .skip
def k112_10 : VC := .seq k112_6 k112_9
def k112_11 : VC := .reg [oD 15 (.fieldA 2 τ1),oD 16 (.load1 (.int .u64) τ15),oD 17 (.callF 104 [τ16, (.const (.int .i64 4))]),oM 2 τ17]
def k112_12 : VC := .seq k112_11 .ret
def k112_13 : VC := .seq k112_10 k112_12
def k112_14 : VC := .seq k112_5 k112_13
def k112_15 : VC := .seq k112_0 k112_14
def fn112 : VFn := ⟨18, k112_15, [.tmp 2]⟩
def k131_0 : VC := .reg [oD 1 (.box τ0),oD 2 (.mv (.const (.int .i64 0)))]
def k131_1 : VC := .reg [oD 3 (.loadN [.bool, (.int .i64), (.int .i64)] τ1),oD 4 (.callF 146 [τ3]),oD 5 (.not τ4)]
def k131_2 : VC := .reg [oD 2 (.mv (.const (.int .i64 0)))]
def k131_3 : VC := .seq k131_2 .ret
def k131_4 : VC := .cond τ5 k131_3 .skip
def k131_5 : VC := .seq k131_1 k131_4
def k131_6 : VC := .reg [oD 6 (.fieldA 0 τ1),oD 7 (.load1 .bool τ6)]
def k131_7 : VC := .reg [oD 2 (.mv (.const (.int .i64 64)))]
def k131_8 : VC := .seq k131_7 .ret
def k131_9 : VC := .cond τ7 k131_8 .skip
def k131_10 : VC := .seq k131_6 k131_9
def k131_11 : VC := .reg [oD 2 (.mv (.const (.int .i64 16)))]
def k131_12 : VC := .seq k131_11 .ret
def k131_13 : VC := .seq k131_10 k131_12
def k131_14 : VC := .seq k131_5 k131_13
def k131_15 : VC := .seq k131_0 k131_14
def fn131 : VFn := ⟨8, k131_15, [.tmp 2]⟩
def k146_0 : VC := .reg [oD 1 (.box τ0),oD 2 (.mv (.const (.bool false)))]
def k146_1 : VC := .reg [oD 3 (.mv (.const (.int .i64 16)))]
def k146_2 : VC := .reg [oD 4 (.fieldA 0 τ1),oD 5 (.load1 .bool τ4)]
def k146_3 : VC := .reg [oD 3 (.mv (.const (.int .i64 63)))]
def k146_4 : VC := .cond τ5 k146_3 .skip
def k146_5 : VC := .seq k146_2 k146_4
def k146_6 : VC := .reg [oD 6 (.fieldA 1 τ1),oD 7 (.load1 (.int .i64) τ6),oD 8 (.bin .geq τ7 (.const (.int .i64 0))),oM 9 τ8,oG 10 (.fieldA 1 τ1) 9 true,oG 11 (.load1 (.int .i64) τ10) 9 true,oG 12 (.bin .leq τ11 (.const (.int .i64 12))) 9 true,oD 13 (.pick τ9 τ12 (.const (.bool false))),oM 14 τ13,oG 15 (.fieldA 2 τ1) 14 true,oG 16 (.load1 (.int .i64) τ15) 14 true,oG 17 (.bin .geq τ16 (.const (.int .i64 0))) 14 true,oD 18 (.pick τ14 τ17 (.const (.bool false))),oM 19 τ18,oG 20 (.fieldA 2 τ1) 19 true,oG 21 (.load1 (.int .i64) τ20) 19 true,oG 22 (.mv τ3) 19 true,oG 23 (.fieldA 1 τ1) 19 true,oG 24 (.load1 (.int .i64) τ23) 19 true,oG 25 (.bin .sub τ22 τ24) 19 true,oG 26 (.bin .leq τ21 τ25) 19 true,oD 27 (.pick τ19 τ26 (.const (.bool false))),oM 2 τ27]
def k146_7 : VC := .seq k146_6 .ret
def k146_8 : VC := .seq k146_5 k146_7
def k146_9 : VC := .seq k146_1 k146_8
def k146_10 : VC := .seq k146_0 k146_9
def fn146 : VFn := ⟨28, k146_10, [.tmp 2]⟩
def k130_0 : VC := .reg [oD 2 (.mv (.const (.int .u64 0)))]
def k130_1 : VC := .reg [oD 3 (.mv (.const (.int .u64 0)))]
def k130_2 : VC := .reg [oD 4 (.mv (.const (.int .i64 0)))]
def k130_3 : VC := .reg [oM 5 τ4,oM 6 τ0,oD 7 (.bin .lss τ5 τ6),oM 8 τ7,oG 9 (.mv τ0) 8 true,oG 10 (.bin .leq τ9 (.const (.int .i64 64))) 8 true,oD 11 (.pick τ8 τ10 (.const (.bool false)))]
def k130_4 : VC := .cond τ11 .skip (.exit 0)
def k130_5 : VC := .seq k130_3 k130_4
def k130_6 : VC := .reg [oM 14 τ3,oD 15 (.bin .shl τ14 (.const (.int .u64 1))),oD 16 (.bin .or τ15 (.const (.int .u64 1))),oM 3 τ16]
def k130_7 : VC := .block 1 k130_6
def k130_8 : VC := .reg [oM 12 τ4,oD 13 (.bin .add τ12 (.const (.int .i64 1))),oM 4 τ13]
def k130_9 : VC := .seq k130_7 k130_8
def k130_10 : VC := .seq k130_5 k130_9
def k130_11 : VC := .loop k130_10
def k130_12 : VC := .block 0 k130_11
def k130_13 : VC := .seq k130_2 k130_12
def k130_14 : VC := .reg [oM 17 τ3,oM 2 τ17]
def k130_15 : VC := .seq k130_14 .ret
def k130_16 : VC := .seq k130_13 k130_15
def k130_17 : VC := .seq k130_1 k130_16
def k130_18 : VC := .seq k130_0 k130_17
def fn130 : VFn := ⟨18, k130_18, [.tmp 2]⟩
def k41_0 : VC := .reg [oD 4 (.box τ1),oD 6 (.mv (.const (.int .i64 0))),oD 7 (.mv (.const (.bool false))),oD 8 (.mv (.const (.bool false)))]
def k41_1 : VC := .regD [oM 12 τ0,oD 13 (.nilCheck τ12),oD 14 (.fieldA 0 τ13),oD 15 (.loadN [(.int .u64), (.int .u64)] τ14),oD 16 (.loadN [(.int .i64), .bool, (.int .u64), (.int .u64), .bool, (.int .u64), (.int .u64), (.int .i64), (.int .i64)] τ4),oM 17 τ2,oD 18 (.callF 46 [τ15, τ16, τ17]),oM 11 τ18,oE 19 0 τ11,oE 20 1 τ11,oM 9 τ19] [] [oM 10 τ20]
def k41_2 : VC := .reg [oM 21 τ10]
def k41_3 : VC := .reg [oM 22 τ9,oM 6 τ22,oD 7 (.mv (.const (.bool false))),oD 8 (.mv (.const (.bool true)))]
def k41_4 : VC := .seq k41_3 .ret
def k41_5 : VC := .cond τ21 k41_4 .skip
def k41_6 : VC := .seq k41_2 k41_5
def k41_7 : VC := .reg [oM 23 τ0,oD 24 (.nilCheck τ23),oD 25 (.fieldA 4 τ24),oD 26 (.load1 .bool τ25)]
def k41_8 : VC := .regD [oM 28 τ0,oD 29 (.nilCheck τ28),oD 30 (.fieldA 2 τ29),oD 31 (.loadN [(.int .u64), (.int .u64)] τ30),oD 32 (.loadN [(.int .i64), .bool, (.int .u64), (.int .u64), .bool, (.int .u64), (.int .u64), (.int .i64), (.int .i64)] τ4),oM 33 τ2,oD 34 (.callF 46 [τ31, τ32, τ33]),oM 27 τ34,oE 35 0 τ27,oE 36 1 τ27,oM 9 τ35] [] [oM 10 τ36]
def k41_9 : VC := .reg [oM 37 τ10]
def k41_10 : VC := .reg [oM 38 τ9,oM 6 τ38,oD 7 (.mv (.const (.bool true))),oD 8 (.mv (.const (.bool true)))]
def k41_11 : VC := .seq k41_10 .ret
def k41_12 : VC := .cond τ37 k41_11 .skip
def k41_13 : VC := .seq k41_9 k41_12
def k41_14 : VC := .seq k41_8 k41_13
def k41_15 : VC := .cond τ26 k41_14 .skip
def k41_16 : VC := .seq k41_7 k41_15
def k41_17 : VC := .reg [oD 6 (.mv (.const (.int .i64 0))),oD 7 (.mv (.const (.bool false))),oD 8 (.mv (.const (.bool false)))]
def k41_18 : VC := .seq k41_17 .ret
def k41_19 : VC := .seq k41_16 k41_18
def k41_20 : VC := .seq k41_6 k41_19
def k41_21 : VC := .seq k41_1 k41_20
def k41_22 : VC := .seq k41_0 k41_21
def fn41 : VFn := ⟨39, k41_22, [.tmp 6, .tmp 7, .tmp 8]⟩
def k46_0 : VC := .reg [oD 3 (.box τ0),oD 4 (.box τ1),oD 6 (.mv (.const (.int .i64 0))),oD 7 (.mv (.const (.bool false)))]
def k46_1 : VC := .regD [oD 9 (.loadN [(.int .i64), .bool, (.int .u64), (.int .u64), .bool, (.int .u64), (.int .u64), (.int .i64), (.int .i64)] τ4),oD 10 (.callF 93 [τ9]),oD 11 (.loadN [(.int .u64), (.int .u64)] τ3),oD 12 (.loadN [(.int .i64), .bool, (.int .u64), (.int .u64), .bool, (.int .u64), (.int .u64), (.int .i64), (.int .i64)] τ4),oM 13 τ2] [(1, 2), (1, 3)] [oD 14 (.callF 92 [τ10, τ11, τ12, τ13]),oM 8 τ14]
def k46_2 : VC := .reg [oM 15 τ8,oD 16 (.bin .lss τ15 (.const (.int .u64 1))),oM 17 τ16,oG 18 (.mv τ8) 17 false,oG 19 (.bin .gtr τ18 (.const (.int .u64 65535))) 17 false,oD 20 (.pick τ17 (.const (.bool true)) τ19),oM 21 τ20,oG 22 (.loadN [(.int .u64), (.int .u64)] τ3) 21 false,oG 23 (.loadN [(.int .i64), .bool, (.int .u64), (.int .u64), .bool, (.int .u64), (.int .u64), (.int .i64), (.int .i64)] τ4) 21 false,oG 24 (.mv τ8) 21 false,oG 25 (.conv .i64 τ24) 21 false,oG 26 (.callF 38 [τ22, τ23, τ25]) 21 false,oG 27 (.mv τ2) 21 false,oG 28 (.bin .neq τ26 τ27) 21 false,oD 29 (.pick τ21 (.const (.bool true)) τ28)]
def k46_3 : VC := .reg [oD 6 (.mv (.const (.int .i64 0))),oD 7 (.mv (.const (.bool false)))]
def k46_4 : VC := .seq k46_3 .ret
def k46_5 : VC := .cond τ29 k46_4 .skip
def k46_6 : VC := .seq k46_2 k46_5
def k46_7 : VC := .reg [oM 30 τ8,oD 31 (.conv .i64 τ30),oM 6 τ31,oD 7 (.mv (.const (.bool true)))]
def k46_8 : VC := .seq k46_7 .ret
def k46_9 : VC := .seq k46_6 k46_8
def k46_10 : VC := .seq k46_1 k46_9
def k46_11 : VC := .seq k46_0 k46_10
def fn46 : VFn := ⟨32, k46_11, [.tmp 6, .tmp 7]⟩
def k7_0 : VC := .reg [oD 5 (.box τ0),oD 6 (.box τ1),oD 10 (.mv (.const (.bool false)))]
def k7_1 : VC := .reg [oM 24 τ2,oD 25 (.conv .i64 τ24),oD 26 (.minmax true [(.const (.int .i64 1)), τ25]),oM 27 τ3,oD 28 (.conv .i64 τ27),oD 29 (.bin .rem τ28 (.const (.int .i64 1000))),oD 30 (.bin .add (.const (.int .i64 1)) τ29),oM 31 τ4,oD 32 (.conv .i64 τ31),oD 33 (.bin .rem τ32 (.const (.int .i64 2001))),oM 11 τ26,oM 12 τ30,oM 13 τ33]
def k7_2 : VC := .reg [oD 34 (.loadN [(.int .u64), (.int .u64)] τ5),oD 35 (.callF 33 [τ34]),oM 14 τ35]
def k7_3 : VC := .reg [oM 36 τ14,oD 37 (.loadN [(.int .i64), .bool, (.int .u64), (.int .u64), .bool, (.int .u64), (.int .u64), (.int .i64), (.int .i64)] τ6),oM 38 τ11,oD 39 (.callF 39 [τ36, τ37, τ38]),oM 15 τ39]
def k7_4 : VC := .reg [oM 41 τ14,oD 42 (.loadN [(.int .i64), .bool, (.int .u64), (.int .u64), .bool, (.int .u64), (.int .u64), (.int .i64), (.int .i64)] τ6),oM 43 τ15,oD 44 (.callF 40 [τ41, τ42, τ43]),oM 40 τ44,oE 45 0 τ40,oE 46 1 τ40,oE 47 2 τ40,oM 16 τ45,oM 17 τ46,oM 18 τ47]
def k7_5 : VC := .reg [oM 48 τ18,oD 49 (.not τ48),oM 50 τ49,oG 51 (.mv τ17) 50 false,oD 52 (.pick τ50 (.const (.bool true)) τ51),oM 53 τ52,oG 54 (.mv τ16) 53 false,oG 55 (.mv τ11) 53 false,oG 56 (.bin .neq τ54 τ55) 53 false,oD 57 (.pick τ53 (.const (.bool true)) τ56),oM 58 τ57,oG 59 (.mv τ14) 58 false,oG 60 (.mv τ12) 58 false,oG 61 (.callF 34 [τ59, τ60]) 58 false,oG 62 (.bin .neq τ61 (.const (.int .i64 0))) 58 false,oD 63 (.pick τ58 (.const (.bool true)) τ62),oM 64 τ63,oG 65 (.mv τ14) 64 false,oG 66 (.callF 34 [τ65, (.const (.int .i64 1))]) 64 false,oG 67 (.bin .neq τ66 (.const (.int .i64 11))) 64 false,oD 68 (.pick τ64 (.const (.bool true)) τ67),oM 69 τ68,oG 70 (.mv τ14) 69 false,oG 71 (.mv τ13) 69 false,oG 72 (.callF 36 [τ70, τ71]) 69 false,oG 73 (.bin .neq τ72 (.const (.int .i64 0))) 69 false,oD 74 (.pick τ69 (.const (.bool true)) τ73)]
def k7_6 : VC := .reg [oD 10 (.mv (.const (.bool false)))]
def k7_7 : VC := .seq k7_6 .ret
def k7_8 : VC := .cond τ74 k7_7 .skip
def k7_9 : VC := .seq k7_5 k7_8
def k7_10 : VC := .regD [oM 76 τ14,oD 77 (.callF 43 [τ76]),oD 78 (.loadN [(.int .i64), .bool, (.int .u64), (.int .u64), .bool, (.int .u64), (.int .u64), (.int .i64), (.int .i64)] τ6),oM 79 τ15,oD 80 (.callF 46 [τ77, τ78, τ79]),oM 75 τ80,oE 81 0 τ75,oE 82 1 τ75,oM 19 τ81] [(1, 2)] [oM 20 τ82]
def k7_11 : VC := .reg [oM 84 τ14,oD 85 (.loadN [(.int .i64), .bool, (.int .u64), (.int .u64), .bool, (.int .u64), (.int .u64), (.int .i64), (.int .i64)] τ6),oM 86 τ15,oD 87 (.callF 40 [τ84, τ85, τ86]),oM 83 τ87,oE 88 0 τ83,oE 89 1 τ83,oE 90 2 τ83,oM 21 τ88,oM 22 τ89,oM 23 τ90]
def k7_12 : VC := .reg [oM 91 τ20]
def k7_13 : VC := .reg [oM 92 τ23,oM 93 τ92,oG 94 (.mv τ22) 93 true,oG 95 (.not τ94) 93 true,oD 96 (.pick τ93 τ95 (.const (.bool false))),oM 97 τ96,oG 98 (.mv τ21) 97 true,oG 99 (.mv τ19) 97 true,oG 100 (.bin .eql τ98 τ99) 97 true,oD 101 (.pick τ97 τ100 (.const (.bool false))),oM 102 τ101,oG 103 (.callF 32 []) 102 true,oD 104 (.pick τ102 τ103 (.const (.bool false))),oM 10 τ104]
def k7_14 : VC := .seq k7_13 .ret
def k7_15 : VC := .cond τ91 k7_14 .skip
def k7_16 : VC := .seq k7_12 k7_15
def k7_17 : VC := .reg [oM 105 τ13,oM 106 τ12,oD 107 (.bin .lss τ105 τ106)]
def k7_18 : VC := .reg [oM 108 τ23,oM 109 τ108,oG 110 (.mv τ22) 109 true,oD 111 (.pick τ109 τ110 (.const (.bool false))),oM 112 τ111,oG 113 (.mv τ21) 112 true,oG 114 (.mv τ11) 112 true,oG 115 (.bin .eql τ113 τ114) 112 true,oD 116 (.pick τ112 τ115 (.const (.bool false))),oM 117 τ116,oG 118 (.callF 32 []) 117 true,oD 119 (.pick τ117 τ118 (.const (.bool false))),oM 10 τ119]
def k7_19 : VC := .seq k7_18 .ret
def k7_20 : VC := .cond τ107 k7_19 .skip
def k7_21 : VC := .seq k7_17 k7_20
def k7_22 : VC := .reg [oM 120 τ23,oD 121 (.not τ120),oM 122 τ121,oG 123 (.mv τ22) 122 true,oG 124 (.not τ123) 122 true,oD 125 (.pick τ122 τ124 (.const (.bool false))),oM 126 τ125,oG 127 (.mv τ21) 126 true,oG 128 (.bin .eql τ127 (.const (.int .i64 0))) 126 true,oD 129 (.pick τ126 τ128 (.const (.bool false))),oM 130 τ129,oG 131 (.callF 32 []) 130 true,oD 132 (.pick τ130 τ131 (.const (.bool false))),oM 10 τ132]
def k7_23 : VC := .seq k7_22 .ret
def k7_24 : VC := .seq k7_21 k7_23
def k7_25 : VC := .seq k7_16 k7_24
def k7_26 : VC := .seq k7_11 k7_25
def k7_27 : VC := .seq k7_10 k7_26
def k7_28 : VC := .seq k7_9 k7_27
def k7_29 : VC := .seq k7_4 k7_28
def k7_30 : VC := .seq k7_3 k7_29
def k7_31 : VC := .seq k7_2 k7_30
def k7_32 : VC := .seq k7_1 k7_31
def k7_33 : VC := .seq k7_0 k7_32
def fn7 : VFn := ⟨133, k7_33, [.tmp 10]⟩
theorem fn6_ok : (Try.prog.funcs[6]?).bind (compFn Try.prog) = some fn6 := by kernel_rfl
theorem fn32_ok : (Try.prog.funcs[32]?).bind (compFn Try.prog) = some fn32 := by kernel_rfl
theorem fn33_ok : (Try.prog.funcs[33]?).bind (compFn Try.prog) = some fn33 := by kernel_rfl
theorem fn39_ok : (Try.prog.funcs[39]?).bind (compFn Try.prog) = some fn39 := by kernel_rfl
theorem fn91_ok : (Try.prog.funcs[91]?).bind (compFn Try.prog) = some fn91 := by kernel_rfl
theorem fn64_ok : (Try.prog.funcs[64]?).bind (compFn Try.prog) = some fn64 := by kernel_rfl
theorem fn119_ok : (Try.prog.funcs[119]?).bind (compFn Try.prog) = some fn119 := by kernel_rfl
theorem fn120_ok : (Try.prog.funcs[120]?).bind (compFn Try.prog) = some fn120 := by kernel_rfl
theorem fn143_ok : (Try.prog.funcs[143]?).bind (compFn Try.prog) = some fn143 := by kernel_rfl
theorem fn132_ok : (Try.prog.funcs[132]?).bind (compFn Try.prog) = some fn132 := by kernel_rfl
theorem fn150_ok : (Try.prog.funcs[150]?).bind (compFn Try.prog) = some fn150 := by kernel_rfl
theorem fn155_ok : (Try.prog.funcs[155]?).bind (compFn Try.prog) = some fn155 := by kernel_rfl
theorem fn160_ok : (Try.prog.funcs[160]?).bind (compFn Try.prog) = some fn160 := by kernel_rfl
theorem fn82_ok : (Try.prog.funcs[82]?).bind (compFn Try.prog) = some fn82 := by kernel_rfl
theorem fn156_ok : (Try.prog.funcs[156]?).bind (compFn Try.prog) = some fn156 := by kernel_rfl
theorem fn109_ok : (Try.prog.funcs[109]?).bind (compFn Try.prog) = some fn109 := by kernel_rfl
theorem fn110_ok : (Try.prog.funcs[110]?).bind (compFn Try.prog) = some fn110 := by kernel_rfl
theorem fn133_ok : (Try.prog.funcs[133]?).bind (compFn Try.prog) = some fn133 := by kernel_rfl
theorem fn147_ok : (Try.prog.funcs[147]?).bind (compFn Try.prog) = some fn147 := by kernel_rfl
theorem fn148_ok : (Try.prog.funcs[148]?).bind (compFn Try.prog) = some fn148 := by kernel_rfl
theorem fn154_ok : (Try.prog.funcs[154]?).bind (compFn Try.prog) = some fn154 := by kernel_rfl
theorem fn159_ok : (Try.prog.funcs[159]?).bind (compFn Try.prog) = some fn159 := by kernel_rfl
theorem fn134_ok : (Try.prog.funcs[134]?).bind (compFn Try.prog) = some fn134 := by kernel_rfl
theorem fn152_ok : (Try.prog.funcs[152]?).bind (compFn Try.prog) = some fn152 := by kernel_rfl
theorem fn157_ok : (Try.prog.funcs[157]?).bind (compFn Try.prog) = some fn157 := by kernel_rfl
theorem fn161_ok : (Try.prog.funcs[161]?).bind (compFn Try.prog) = some fn161 := by kernel_rfl
theorem fn158_ok : (Try.prog.funcs[158]?).bind (compFn Try.prog) = some fn158 := by kernel_rfl
theorem fn151_ok : (Try.prog.funcs[151]?).bind (compFn Try.prog) = some fn151 := by kernel_rfl
theorem fn34_ok : (Try.prog.funcs[34]?).bind (compFn Try.prog) = some fn34 := by kernel_rfl
theorem fn44_ok : (Try.prog.funcs[44]?).bind (compFn Try.prog) = some fn44 := by kernel_rfl
theorem fn94_ok : (Try.prog.funcs[94]?).bind (compFn Try.prog) = some fn94 := by kernel_rfl
theorem fn36_ok : (Try.prog.funcs[36]?).bind (compFn Try.prog) = some fn36 := by kernel_rfl
theorem fn40_ok : (Try.prog.funcs[40]?).bind (compFn Try.prog) = some fn40 := by kernel_rfl
theorem fn65_ok : (Try.prog.funcs[65]?).bind (compFn Try.prog) = some fn65 := by kernel_rfl
theorem fn42_ok : (Try.prog.funcs[42]?).bind (compFn Try.prog) = some fn42 := by kernel_rfl
theorem fn43_ok : (Try.prog.funcs[43]?).bind (compFn Try.prog) = some fn43 := by kernel_rfl
theorem fn35_ok : (Try.prog.funcs[35]?).bind (compFn Try.prog) = some fn35 := by kernel_rfl
theorem fn45_ok : (Try.prog.funcs[45]?).bind (compFn Try.prog) = some fn45 := by kernel_rfl
theorem fn95_ok : (Try.prog.funcs[95]?).bind (compFn Try.prog) = some fn95 := by kernel_rfl
theorem fn135_ok : (Try.prog.funcs[135]?).bind (compFn Try.prog) = some fn135 := by kernel_rfl
theorem fn136_ok : (Try.prog.funcs[136]?).bind (compFn Try.prog) = some fn136 := by kernel_rfl
theorem fn149_ok : (Try.prog.funcs[149]?).bind (compFn Try.prog) = some fn149 := by kernel_rfl
theorem fn137_ok : (Try.prog.funcs[137]?).bind (compFn Try.prog) = some fn137 := by kernel_rfl
theorem fn37_ok : (Try.prog.funcs[37]?).bind (compFn Try.prog) = some fn37 := by kernel_rfl
theorem fn38_ok : (Try.prog.funcs[38]?).bind (compFn Try.prog) = some fn38 := by kernel_rfl
theorem fn93_ok : (Try.prog.funcs[93]?).bind (compFn Try.prog) = some fn93 := by kernel_rfl
theorem fn92_ok : (Try.prog.funcs[92]?).bind (compFn Try.prog) = some fn92 := by kernel_rfl
theorem fn129_ok : (Try.prog.funcs[129]?).bind (compFn Try.prog) = some fn129 := by kernel_rfl
theorem fn145_ok : (Try.prog.funcs[145]?).bind (compFn Try.prog) = some fn145 := by kernel_rfl
theorem fn153_ok : (Try.prog.funcs[153]?).bind (compFn Try.prog) = some fn153 := by kernel_rfl
theorem fn115_ok : (Try.prog.funcs[115]?).bind (compFn Try.prog) = some fn115 := by kernel_rfl
theorem fn104_ok : (Try.prog.funcs[104]?).bind (compFn Try.prog) = some fn104 := by kernel_rfl
theorem fn112_ok : (Try.prog.funcs[112]?).bind (compFn Try.prog) = some fn112 := by kernel_rfl
theorem fn131_ok : (Try.prog.funcs[131]?).bind (compFn Try.prog) = some fn131 := by kernel_rfl
theorem fn146_ok : (Try.prog.funcs[146]?).bind (compFn Try.prog) = some fn146 := by kernel_rfl
theorem fn130_ok : (Try.prog.funcs[130]?).bind (compFn Try.prog) = some fn130 := by kernel_rfl
theorem fn41_ok : (Try.prog.funcs[41]?).bind (compFn Try.prog) = some fn41 := by kernel_rfl
theorem fn46_ok : (Try.prog.funcs[46]?).bind (compFn Try.prog) = some fn46 := by kernel_rfl
theorem fn7_ok : (Try.prog.funcs[7]?).bind (compFn Try.prog) = some fn7 := by kernel_rfl
def tab : List (Nat × VFn) := [(6, fn6), (32, fn32), (33, fn33), (39, fn39), (91, fn91), (64, fn64), (119, fn119), (120, fn120), (143, fn143), (132, fn132), (150, fn150), (155, fn155), (160, fn160), (82, fn82), (156, fn156), (109, fn109), (110, fn110), (133, fn133), (147, fn147), (148, fn148), (154, fn154), (159, fn159), (134, fn134), (152, fn152), (157, fn157), (161, fn161), (158, fn158), (151, fn151), (34, fn34), (44, fn44), (94, fn94), (36, fn36), (40, fn40), (65, fn65), (42, fn42), (43, fn43), (35, fn35), (45, fn45), (95, fn95), (135, fn135), (136, fn136), (149, fn149), (137, fn137), (37, fn37), (38, fn38), (93, fn93), (92, fn92), (129, fn129), (145, fn145), (153, fn153), (115, fn115), (104, fn104), (112, fn112), (131, fn131), (146, fn146), (130, fn130), (41, fn41), (46, fn46), (7, fn7)]
theorem tab_ok : FnsOK Try.prog (aget tab) := FnsOK.of_tab ⟨fn6_ok, fn32_ok, fn33_ok, fn39_ok, fn91_ok, fn64_ok, fn119_ok, fn120_ok, fn143_ok, fn132_ok, fn150_ok, fn155_ok, fn160_ok, fn82_ok, fn156_ok, fn109_ok, fn110_ok, fn133_ok, fn147_ok, fn148_ok, fn154_ok, fn159_ok, fn134_ok, fn152_ok, fn157_ok, fn161_ok, fn158_ok, fn151_ok, fn34_ok, fn44_ok, fn94_ok, fn36_ok, fn40_ok, fn65_ok, fn42_ok, fn43_ok, fn35_ok, fn45_ok, fn95_ok, fn135_ok, fn136_ok, fn149_ok, fn137_ok, fn37_ok, fn38_ok, fn93_ok, fn92_ok, fn129_ok, fn145_ok, fn153_ok, fn115_ok, fn104_ok, fn112_ok, fn131_ok, fn146_ok, fn130_ok, fn41_ok, fn46_ok, fn7_ok, trivial⟩
end Go.Vm.Code
namespace Go.Vm.Code
open Go Go.Vm Go.Proofs
set_option maxRecDepth 100000
set_option maxHeartbeats 4000000
set_option linter.unusedVariables false
@[ext] structure api_Key where
  A : Int
  B : Int
  deriving DecidableEq
@[ext] structure api_Addr where
  V6 : Bool
  Hi : Int
  Lo : Int
  deriving DecidableEq
@[ext] structure api_Tuple where
  Proto : Int
  Src : api_Addr
  Dst : api_Addr
  SPort : Int
  DPort : Int
  deriving DecidableEq
@[ext] structure R54_Step where
  Kind : Int
  N : Int
  T : api_Tuple
  Cookie : Int
  Pick : Int
  deriving DecidableEq
@[ext] structure Arr2_api_Key where
  e0 : api_Key
  e1 : api_Key
  deriving DecidableEq
@[ext] structure rekey_Keys where
  keys : Arr2_api_Key
  some_ : Int
  until_ : Int
  now : Int
  deriving DecidableEq
@[ext] structure api_Layout where
  Wide : Bool
  Slot : Int
  Gen : Int
  deriving DecidableEq
@[ext] structure Arr4_Int where
  e0 : Int
  e1 : Int
  e2 : Int
  e3 : Int
  deriving DecidableEq
@[ext] structure sip_Hasher where
  made : Bool
  s : Arr4_Int
  last : Int
  count : Int
  deriving DecidableEq
@[ext] structure cookie_layout where
  Layout : api_Layout
  deriving DecidableEq
@[ext] structure R54_Keys where
  New : api_Key
  Old : api_Key
  Has : Bool
  Until : Int
  Now : Int
  deriving DecidableEq
def capi_Key (x : api_Key) : List Value := [.int .u64 x.A, .int .u64 x.B]
theorem capi_Key_len (x : api_Key) : (capi_Key x).length = 2 := rfl
theorem capi_Key_flat (x : api_Key) : flatV.flatL (capi_Key x) = true := rfl
theorem capi_Key_one (x : api_Key) : (capi_Key x).all oneC = true := rfl
@[simp] theorem capi_Key_lens (xs : List api_Key) : (vT capi_Key xs).length = xs.length * 2 := vT_len capi_Key_len xs
@[simp] theorem capi_Key_take (xs : List api_Key) (n : Nat) : (vT capi_Key xs).take (n * 2) = vT capi_Key (xs.take n) := vT_take capi_Key_len xs n
@[simp] theorem capi_Key_drop (xs : List api_Key) (n : Nat) : (vT capi_Key xs).drop (n * 2) = vT capi_Key (xs.drop n) := vT_drop capi_Key_len xs n
def unapi_Key : List Value → Option api_Key
  | [.int .u64 a1, .int .u64 a2] => some (api_Key.mk a1 a2)
  | _ => none
theorem unapi_Key_eq (cs : List Value) (x : api_Key) (h : unapi_Key cs = some x) : cs = capi_Key x := by
  unfold unapi_Key at h; split at h
  · cases h; rfl
  · cases h
def uvapi_Key : Value → Option api_Key
  | .agg ⟨cs⟩ => unapi_Key cs
  | _ => none
theorem uvapi_Key_eq (v : Value) (x : api_Key) (h : uvapi_Key v = some x) : v = .agg ⟨capi_Key x⟩ := by
  unfold uvapi_Key at h; split at h
  · rw [unapi_Key_eq _ _ h]
  · cases h
theorem uvapi_Key_c (x : api_Key) : uvapi_Key (.agg ⟨capi_Key x⟩) = some x := rfl
def capi_Addr (x : api_Addr) : List Value := [.bool x.V6, .int .u64 x.Hi, .int .u64 x.Lo]
theorem capi_Addr_len (x : api_Addr) : (capi_Addr x).length = 3 := rfl
theorem capi_Addr_flat (x : api_Addr) : flatV.flatL (capi_Addr x) = true := rfl
theorem capi_Addr_one (x : api_Addr) : (capi_Addr x).all oneC = true := rfl
@[simp] theorem capi_Addr_lens (xs : List api_Addr) : (vT capi_Addr xs).length = xs.length * 3 := vT_len capi_Addr_len xs
@[simp] theorem capi_Addr_take (xs : List api_Addr) (n : Nat) : (vT capi_Addr xs).take (n * 3) = vT capi_Addr (xs.take n) := vT_take capi_Addr_len xs n
@[simp] theorem capi_Addr_drop (xs : List api_Addr) (n : Nat) : (vT capi_Addr xs).drop (n * 3) = vT capi_Addr (xs.drop n) := vT_drop capi_Addr_len xs n
def unapi_Addr : List Value → Option api_Addr
  | [.bool a1, .int .u64 a2, .int .u64 a3] => some (api_Addr.mk a1 a2 a3)
  | _ => none
theorem unapi_Addr_eq (cs : List Value) (x : api_Addr) (h : unapi_Addr cs = some x) : cs = capi_Addr x := by
  unfold unapi_Addr at h; split at h
  · cases h; rfl
  · cases h
def uvapi_Addr : Value → Option api_Addr
  | .agg ⟨cs⟩ => unapi_Addr cs
  | _ => none
theorem uvapi_Addr_eq (v : Value) (x : api_Addr) (h : uvapi_Addr v = some x) : v = .agg ⟨capi_Addr x⟩ := by
  unfold uvapi_Addr at h; split at h
  · rw [unapi_Addr_eq _ _ h]
  · cases h
theorem uvapi_Addr_c (x : api_Addr) : uvapi_Addr (.agg ⟨capi_Addr x⟩) = some x := rfl
def capi_Tuple (x : api_Tuple) : List Value := [.int .i64 x.Proto, .bool x.Src.V6, .int .u64 x.Src.Hi, .int .u64 x.Src.Lo, .bool x.Dst.V6, .int .u64 x.Dst.Hi, .int .u64 x.Dst.Lo, .int .i64 x.SPort, .int .i64 x.DPort]
theorem capi_Tuple_len (x : api_Tuple) : (capi_Tuple x).length = 9 := rfl
theorem capi_Tuple_flat (x : api_Tuple) : flatV.flatL (capi_Tuple x) = true := rfl
theorem capi_Tuple_one (x : api_Tuple) : (capi_Tuple x).all oneC = true := rfl
@[simp] theorem capi_Tuple_lens (xs : List api_Tuple) : (vT capi_Tuple xs).length = xs.length * 9 := vT_len capi_Tuple_len xs
@[simp] theorem capi_Tuple_take (xs : List api_Tuple) (n : Nat) : (vT capi_Tuple xs).take (n * 9) = vT capi_Tuple (xs.take n) := vT_take capi_Tuple_len xs n
@[simp] theorem capi_Tuple_drop (xs : List api_Tuple) (n : Nat) : (vT capi_Tuple xs).drop (n * 9) = vT capi_Tuple (xs.drop n) := vT_drop capi_Tuple_len xs n
def unapi_Tuple : List Value → Option api_Tuple
  | [.int .i64 a1, .bool a2, .int .u64 a3, .int .u64 a4, .bool a5, .int .u64 a6, .int .u64 a7, .int .i64 a8, .int .i64 a9] => some (api_Tuple.mk a1 (api_Addr.mk a2 a3 a4) (api_Addr.mk a5 a6 a7) a8 a9)
  | _ => none
theorem unapi_Tuple_eq (cs : List Value) (x : api_Tuple) (h : unapi_Tuple cs = some x) : cs = capi_Tuple x := by
  unfold unapi_Tuple at h; split at h
  · cases h; rfl
  · cases h
def uvapi_Tuple : Value → Option api_Tuple
  | .agg ⟨cs⟩ => unapi_Tuple cs
  | _ => none
theorem uvapi_Tuple_eq (v : Value) (x : api_Tuple) (h : uvapi_Tuple v = some x) : v = .agg ⟨capi_Tuple x⟩ := by
  unfold uvapi_Tuple at h; split at h
  · rw [unapi_Tuple_eq _ _ h]
  · cases h
theorem uvapi_Tuple_c (x : api_Tuple) : uvapi_Tuple (.agg ⟨capi_Tuple x⟩) = some x := rfl
def cR54_Step (x : R54_Step) : List Value := [.int .i64 x.Kind, .int .i64 x.N, .int .i64 x.T.Proto, .bool x.T.Src.V6, .int .u64 x.T.Src.Hi, .int .u64 x.T.Src.Lo, .bool x.T.Dst.V6, .int .u64 x.T.Dst.Hi, .int .u64 x.T.Dst.Lo, .int .i64 x.T.SPort, .int .i64 x.T.DPort, .int .u64 x.Cookie, .int .i64 x.Pick]
theorem cR54_Step_len (x : R54_Step) : (cR54_Step x).length = 13 := rfl
theorem cR54_Step_flat (x : R54_Step) : flatV.flatL (cR54_Step x) = true := rfl
theorem cR54_Step_one (x : R54_Step) : (cR54_Step x).all oneC = true := rfl
@[simp] theorem cR54_Step_lens (xs : List R54_Step) : (vT cR54_Step xs).length = xs.length * 13 := vT_len cR54_Step_len xs
@[simp] theorem cR54_Step_take (xs : List R54_Step) (n : Nat) : (vT cR54_Step xs).take (n * 13) = vT cR54_Step (xs.take n) := vT_take cR54_Step_len xs n
@[simp] theorem cR54_Step_drop (xs : List R54_Step) (n : Nat) : (vT cR54_Step xs).drop (n * 13) = vT cR54_Step (xs.drop n) := vT_drop cR54_Step_len xs n
def cArr2_api_Key (x : Arr2_api_Key) : List Value := [.int .u64 x.e0.A, .int .u64 x.e0.B, .int .u64 x.e1.A, .int .u64 x.e1.B]
theorem cArr2_api_Key_len (x : Arr2_api_Key) : (cArr2_api_Key x).length = 4 := rfl
theorem cArr2_api_Key_flat (x : Arr2_api_Key) : flatV.flatL (cArr2_api_Key x) = true := rfl
theorem cArr2_api_Key_one (x : Arr2_api_Key) : (cArr2_api_Key x).all oneC = true := rfl
@[simp] theorem cArr2_api_Key_lens (xs : List Arr2_api_Key) : (vT cArr2_api_Key xs).length = xs.length * 4 := vT_len cArr2_api_Key_len xs
@[simp] theorem cArr2_api_Key_take (xs : List Arr2_api_Key) (n : Nat) : (vT cArr2_api_Key xs).take (n * 4) = vT cArr2_api_Key (xs.take n) := vT_take cArr2_api_Key_len xs n
@[simp] theorem cArr2_api_Key_drop (xs : List Arr2_api_Key) (n : Nat) : (vT cArr2_api_Key xs).drop (n * 4) = vT cArr2_api_Key (xs.drop n) := vT_drop cArr2_api_Key_len xs n
def crekey_Keys (x : rekey_Keys) : List Value := [.int .u64 x.keys.e0.A, .int .u64 x.keys.e0.B, .int .u64 x.keys.e1.A, .int .u64 x.keys.e1.B, .int .i64 x.some_, .int .i64 x.until_, .int .i64 x.now]
theorem crekey_Keys_len (x : rekey_Keys) : (crekey_Keys x).length = 7 := rfl
theorem crekey_Keys_flat (x : rekey_Keys) : flatV.flatL (crekey_Keys x) = true := rfl
theorem crekey_Keys_one (x : rekey_Keys) : (crekey_Keys x).all oneC = true := rfl
@[simp] theorem crekey_Keys_lens (xs : List rekey_Keys) : (vT crekey_Keys xs).length = xs.length * 7 := vT_len crekey_Keys_len xs
@[simp] theorem crekey_Keys_take (xs : List rekey_Keys) (n : Nat) : (vT crekey_Keys xs).take (n * 7) = vT crekey_Keys (xs.take n) := vT_take crekey_Keys_len xs n
@[simp] theorem crekey_Keys_drop (xs : List rekey_Keys) (n : Nat) : (vT crekey_Keys xs).drop (n * 7) = vT crekey_Keys (xs.drop n) := vT_drop crekey_Keys_len xs n
def unrekey_Keys : List Value → Option rekey_Keys
  | [.int .u64 a1, .int .u64 a2, .int .u64 a3, .int .u64 a4, .int .i64 a5, .int .i64 a6, .int .i64 a7] => some (rekey_Keys.mk (Arr2_api_Key.mk (api_Key.mk a1 a2) (api_Key.mk a3 a4)) a5 a6 a7)
  | _ => none
theorem unrekey_Keys_eq (cs : List Value) (x : rekey_Keys) (h : unrekey_Keys cs = some x) : cs = crekey_Keys x := by
  unfold unrekey_Keys at h; split at h
  · cases h; rfl
  · cases h
theorem unrekey_Keys_c (x : rekey_Keys) : unrekey_Keys (crekey_Keys x) = some x := rfl
def capi_Layout (x : api_Layout) : List Value := [.bool x.Wide, .int .i64 x.Slot, .int .i64 x.Gen]
theorem capi_Layout_len (x : api_Layout) : (capi_Layout x).length = 3 := rfl
theorem capi_Layout_flat (x : api_Layout) : flatV.flatL (capi_Layout x) = true := rfl
theorem capi_Layout_one (x : api_Layout) : (capi_Layout x).all oneC = true := rfl
@[simp] theorem capi_Layout_lens (xs : List api_Layout) : (vT capi_Layout xs).length = xs.length * 3 := vT_len capi_Layout_len xs
@[simp] theorem capi_Layout_take (xs : List api_Layout) (n : Nat) : (vT capi_Layout xs).take (n * 3) = vT capi_Layout (xs.take n) := vT_take capi_Layout_len xs n
@[simp] theorem capi_Layout_drop (xs : List api_Layout) (n : Nat) : (vT capi_Layout xs).drop (n * 3) = vT capi_Layout (xs.drop n) := vT_drop capi_Layout_len xs n
def unapi_Layout : List Value → Option api_Layout
  | [.bool a1, .int .i64 a2, .int .i64 a3] => some (api_Layout.mk a1 a2 a3)
  | _ => none
theorem unapi_Layout_eq (cs : List Value) (x : api_Layout) (h : unapi_Layout cs = some x) : cs = capi_Layout x := by
  unfold unapi_Layout at h; split at h
  · cases h; rfl
  · cases h
def uvapi_Layout : Value → Option api_Layout
  | .agg ⟨cs⟩ => unapi_Layout cs
  | _ => none
theorem uvapi_Layout_eq (v : Value) (x : api_Layout) (h : uvapi_Layout v = some x) : v = .agg ⟨capi_Layout x⟩ := by
  unfold uvapi_Layout at h; split at h
  · rw [unapi_Layout_eq _ _ h]
  · cases h
theorem uvapi_Layout_c (x : api_Layout) : uvapi_Layout (.agg ⟨capi_Layout x⟩) = some x := rfl
def cArr4_Int (x : Arr4_Int) : List Value := [.int .u64 x.e0, .int .u64 x.e1, .int .u64 x.e2, .int .u64 x.e3]
theorem cArr4_Int_len (x : Arr4_Int) : (cArr4_Int x).length = 4 := rfl
theorem cArr4_Int_flat (x : Arr4_Int) : flatV.flatL (cArr4_Int x) = true := rfl
theorem cArr4_Int_one (x : Arr4_Int) : (cArr4_Int x).all oneC = true := rfl
@[simp] theorem cArr4_Int_lens (xs : List Arr4_Int) : (vT cArr4_Int xs).length = xs.length * 4 := vT_len cArr4_Int_len xs
@[simp] theorem cArr4_Int_take (xs : List Arr4_Int) (n : Nat) : (vT cArr4_Int xs).take (n * 4) = vT cArr4_Int (xs.take n) := vT_take cArr4_Int_len xs n
@[simp] theorem cArr4_Int_drop (xs : List Arr4_Int) (n : Nat) : (vT cArr4_Int xs).drop (n * 4) = vT cArr4_Int (xs.drop n) := vT_drop cArr4_Int_len xs n
def unArr4_Int : List Value → Option Arr4_Int
  | [.int .u64 a1, .int .u64 a2, .int .u64 a3, .int .u64 a4] => some (Arr4_Int.mk a1 a2 a3 a4)
  | _ => none
theorem unArr4_Int_eq (cs : List Value) (x : Arr4_Int) (h : unArr4_Int cs = some x) : cs = cArr4_Int x := by
  unfold unArr4_Int at h; split at h
  · cases h; rfl
  · cases h
theorem unArr4_Int_c (x : Arr4_Int) : unArr4_Int (cArr4_Int x) = some x := rfl
def csip_Hasher (x : sip_Hasher) : List Value := [.bool x.made, .int .u64 x.s.e0, .int .u64 x.s.e1, .int .u64 x.s.e2, .int .u64 x.s.e3, .int .u64 x.last, .int .i64 x.count]
theorem csip_Hasher_len (x : sip_Hasher) : (csip_Hasher x).length = 7 := rfl
theorem csip_Hasher_flat (x : sip_Hasher) : flatV.flatL (csip_Hasher x) = true := rfl
theorem csip_Hasher_one (x : sip_Hasher) : (csip_Hasher x).all oneC = true := rfl
@[simp] theorem csip_Hasher_lens (xs : List sip_Hasher) : (vT csip_Hasher xs).length = xs.length * 7 := vT_len csip_Hasher_len xs
@[simp] theorem csip_Hasher_take (xs : List sip_Hasher) (n : Nat) : (vT csip_Hasher xs).take (n * 7) = vT csip_Hasher (xs.take n) := vT_take csip_Hasher_len xs n
@[simp] theorem csip_Hasher_drop (xs : List sip_Hasher) (n : Nat) : (vT csip_Hasher xs).drop (n * 7) = vT csip_Hasher (xs.drop n) := vT_drop csip_Hasher_len xs n
def unsip_Hasher : List Value → Option sip_Hasher
  | [.bool a1, .int .u64 a2, .int .u64 a3, .int .u64 a4, .int .u64 a5, .int .u64 a6, .int .i64 a7] => some (sip_Hasher.mk a1 (Arr4_Int.mk a2 a3 a4 a5) a6 a7)
  | _ => none
theorem unsip_Hasher_eq (cs : List Value) (x : sip_Hasher) (h : unsip_Hasher cs = some x) : cs = csip_Hasher x := by
  unfold unsip_Hasher at h; split at h
  · cases h; rfl
  · cases h
theorem unsip_Hasher_c (x : sip_Hasher) : unsip_Hasher (csip_Hasher x) = some x := rfl
def ccookie_layout (x : cookie_layout) : List Value := [.bool x.Layout.Wide, .int .i64 x.Layout.Slot, .int .i64 x.Layout.Gen]
theorem ccookie_layout_len (x : cookie_layout) : (ccookie_layout x).length = 3 := rfl
theorem ccookie_layout_flat (x : cookie_layout) : flatV.flatL (ccookie_layout x) = true := rfl
theorem ccookie_layout_one (x : cookie_layout) : (ccookie_layout x).all oneC = true := rfl
@[simp] theorem ccookie_layout_lens (xs : List cookie_layout) : (vT ccookie_layout xs).length = xs.length * 3 := vT_len ccookie_layout_len xs
@[simp] theorem ccookie_layout_take (xs : List cookie_layout) (n : Nat) : (vT ccookie_layout xs).take (n * 3) = vT ccookie_layout (xs.take n) := vT_take ccookie_layout_len xs n
@[simp] theorem ccookie_layout_drop (xs : List cookie_layout) (n : Nat) : (vT ccookie_layout xs).drop (n * 3) = vT ccookie_layout (xs.drop n) := vT_drop ccookie_layout_len xs n
def uncookie_layout : List Value → Option cookie_layout
  | [.bool a1, .int .i64 a2, .int .i64 a3] => some (cookie_layout.mk (api_Layout.mk a1 a2 a3))
  | _ => none
theorem uncookie_layout_eq (cs : List Value) (x : cookie_layout) (h : uncookie_layout cs = some x) : cs = ccookie_layout x := by
  unfold uncookie_layout at h; split at h
  · cases h; rfl
  · cases h
def uvcookie_layout : Value → Option cookie_layout
  | .agg ⟨cs⟩ => uncookie_layout cs
  | _ => none
theorem uvcookie_layout_eq (v : Value) (x : cookie_layout) (h : uvcookie_layout v = some x) : v = .agg ⟨ccookie_layout x⟩ := by
  unfold uvcookie_layout at h; split at h
  · rw [uncookie_layout_eq _ _ h]
  · cases h
theorem uvcookie_layout_c (x : cookie_layout) : uvcookie_layout (.agg ⟨ccookie_layout x⟩) = some x := rfl
def cR54_Keys (x : R54_Keys) : List Value := [.int .u64 x.New.A, .int .u64 x.New.B, .int .u64 x.Old.A, .int .u64 x.Old.B, .bool x.Has, .int .i64 x.Until, .int .i64 x.Now]
theorem cR54_Keys_len (x : R54_Keys) : (cR54_Keys x).length = 7 := rfl
theorem cR54_Keys_flat (x : R54_Keys) : flatV.flatL (cR54_Keys x) = true := rfl
theorem cR54_Keys_one (x : R54_Keys) : (cR54_Keys x).all oneC = true := rfl
@[simp] theorem cR54_Keys_lens (xs : List R54_Keys) : (vT cR54_Keys xs).length = xs.length * 7 := vT_len cR54_Keys_len xs
@[simp] theorem cR54_Keys_take (xs : List R54_Keys) (n : Nat) : (vT cR54_Keys xs).take (n * 7) = vT cR54_Keys (xs.take n) := vT_take cR54_Keys_len xs n
@[simp] theorem cR54_Keys_drop (xs : List R54_Keys) (n : Nat) : (vT cR54_Keys xs).drop (n * 7) = vT cR54_Keys (xs.drop n) := vT_drop cR54_Keys_len xs n
def unR54_Keys : List Value → Option R54_Keys
  | [.int .u64 a1, .int .u64 a2, .int .u64 a3, .int .u64 a4, .bool a5, .int .i64 a6, .int .i64 a7] => some (R54_Keys.mk (api_Key.mk a1 a2) (api_Key.mk a3 a4) a5 a6 a7)
  | _ => none
theorem unR54_Keys_eq (cs : List Value) (x : R54_Keys) (h : unR54_Keys cs = some x) : cs = cR54_Keys x := by
  unfold unR54_Keys at h; split at h
  · cases h; rfl
  · cases h
theorem unR54_Keys_c (x : R54_Keys) : unR54_Keys (cR54_Keys x) = some x := rfl
theorem lrA0 {P : Program} {f base fn nt : Nat} {e e' : Env} {todo todo' : List VItem} {ds ds' : List Nat} {ret : Bool} {up up' : List VFrame} {H H' : Hp} {top top' : Nat} {R : Value → Hp → Nat → Prop}
    (h : Leads P f base ⟨⟨fn, nt, e', todo', ds', ret, none⟩, up', H', top'⟩ R) (m : List (Nat × Nat)) (hc : chkM base top' m = true) (he : reE (aget m) e e' := by repeat' first | exact trivial | refine ⟨⟨_, rfl, rfl⟩, ?_⟩ | refine ⟨⟨_, _, rfl, rfl, .rowF (vI_flat _ _) id⟩, ?_⟩ | refine ⟨⟨_, _, rfl, rfl, .rowF (vS_flat _) id⟩, ?_⟩ | refine ⟨⟨_, _, rfl, rfl, .rowF (vB_flat _) id⟩, ?_⟩ | refine ⟨⟨_, _, rfl, rfl, .rowF (vT_flat (by first | exact capi_Key_flat | exact capi_Addr_flat | exact capi_Tuple_flat | exact cR54_Step_flat | exact cArr2_api_Key_flat | exact crekey_Keys_flat | exact capi_Layout_flat | exact cArr4_Int_flat | exact csip_Hasher_flat | exact ccookie_layout_flat | exact cR54_Keys_flat) _) id⟩, ?_⟩ | refine ⟨⟨_, _, rfl, rfl, .tyF (vI_flat _ _)⟩, ?_⟩ | refine ⟨⟨_, _, rfl, rfl, .ty rfl⟩, ?_⟩ | refine ⟨⟨_, _, rfl, rfl, .cells rfl⟩, ?_⟩ | refine ⟨⟨_, _, rfl, rfl, .row rfl id⟩, ?_⟩ | refine ⟨⟨_, _, rfl, rfl, .cr rfl⟩, ?_⟩ | refine ⟨⟨_, _, rfl, rfl, .rc rfl⟩, ?_⟩ | refine ⟨⟨_, _, rfl, rfl, .marks⟩, ?_⟩ | refine ⟨⟨_, _, rfl, rfl, .siter _ _⟩, ?_⟩ | refine ⟨⟨_, _, rfl, rfl, .loop rfl rfl rfl rfl (by repeat' first | exact trivial | refine ⟨rfl, ?_⟩) rfl rfl rfl rfl⟩, ?_⟩) (hH : reH (aget m) H H' := by repeat' first | exact trivial | refine ⟨⟨_, rfl, rfl⟩, ?_⟩ | refine ⟨⟨_, _, rfl, rfl, .rowF (vI_flat _ _) id⟩, ?_⟩ | refine ⟨⟨_, _, rfl, rfl, .rowF (vS_flat _) id⟩, ?_⟩ | refine ⟨⟨_, _, rfl, rfl, .rowF (vB_flat _) id⟩, ?_⟩ | refine ⟨⟨_, _, rfl, rfl, .rowF (vT_flat (by first | exact capi_Key_flat | exact capi_Addr_flat | exact capi_Tuple_flat | exact cR54_Step_flat | exact cArr2_api_Key_flat | exact crekey_Keys_flat | exact capi_Layout_flat | exact cArr4_Int_flat | exact csip_Hasher_flat | exact ccookie_layout_flat | exact cR54_Keys_flat) _) id⟩, ?_⟩ | refine ⟨⟨_, _, rfl, rfl, .tyF (vI_flat _ _)⟩, ?_⟩ | refine ⟨⟨_, _, rfl, rfl, .ty rfl⟩, ?_⟩ | refine ⟨⟨_, _, rfl, rfl, .cells rfl⟩, ?_⟩ | refine ⟨⟨_, _, rfl, rfl, .row rfl id⟩, ?_⟩ | refine ⟨⟨_, _, rfl, rfl, .cr rfl⟩, ?_⟩ | refine ⟨⟨_, _, rfl, rfl, .rc rfl⟩, ?_⟩ | refine ⟨⟨_, _, rfl, rfl, .marks⟩, ?_⟩ | refine ⟨⟨_, _, rfl, rfl, .siter _ _⟩, ?_⟩ | refine ⟨⟨_, _, rfl, rfl, .loop rfl rfl rfl rfl (by repeat' first | exact trivial | refine ⟨rfl, ?_⟩) rfl rfl rfl rfl⟩, ?_⟩)
    (ht : renT (aget m) todo' = some todo := by rfl) (hd : renN (aget m) ds' = some ds := by rfl) (hu : reU (aget m) up up' := by trivial) :
    Leads P f base ⟨⟨fn, nt, e, todo, ds, ret, none⟩, up, H, top⟩ R := Leads.re h m hc he hH ht hd hu
def octet_Put_s1 (n : Int) (k : Int) (t17 : Int) (b : List Int) : Option (Sum (Int × (List Int)) (List UInt8)) :=
  cond (decide (t17 < (k.toNat : Int)))
    (
    let t := wI .i64 (8 * (wI .i64 ((wI .i64 (k - 1)) - t17)))
    oreq (decide (0 ≤ t)) <|
    oreq (decide ((0 : Int) ≤ t17 ∧ t17 < (k.toNat : Int))) <|
    oreq (decide (t17.toNat < b.length)) <|
    let row := b.set t17.toNat (wI .u8 (n.fdiv (2 ^ (min t.toNat 64))))
    some (.inl (wI .i64 (t17 + 1), row)))
    (
    oreq (decide (k.toNat ≤ b.length)) <|
    some (.inr (iB (b.take k.toNat))))
def octet_PutF (n : Int) (k : Int) : Option (List UInt8) :=
  cond (decide (k < 1))
    (
    some ([]))
    (
    cond (decide (k > 8))
      (
      some ([]))
      (
      oreq (decide (0 ≤ k ∧ k ≤ k ∧ k < 2 ^ 63 ∧ (1 : Int) * k ≤ 2 ^ 48)) <|
      iter (fun st => octet_Put_s1 n k st.1 st.2) FUEL (0, List.replicate k.toNat (0))))
def rx109 (x : List UInt8) : SRes := ⟨.string ⟨⟨x⟩⟩, [], []⟩
def r109 (g : Int → Int → Option (List UInt8)) : Dec := dV (asI .u64) fun (y0 : Int) => dV (asI .i64) fun (y1 : Int) => dEnd (ofG (g y0 y1) rx109)
theorem r109_c {g : Int → Int → Option (List UInt8)} {y0 : Int} {y1 : Int} {x : List UInt8} (hx : g y0 y1 = some x) : r109 g [.int .u64 y0, .int .i64 y1] [] = some (rx109 x) := (dV_eq (asI_c _)).trans ((dV_eq (asI_c _)).trans (ofG_eq hx))
def s109 (g : Int → Int → Option (List UInt8)) : Summ := ⟨[.v, .v], r109 g⟩
theorem r109_eq {g : Int → Int → Option (List UInt8)} {y0 : Int} {y1 : Int} {x : List UInt8} (hx : g y0 y1 = some x) : (s109 g).run [.int .u64 y0, .int .i64 y1] [] = some (rx109 x) := r109_c hx
abbrev sums109 : List (Nat × Summ) := []
def head109_1 (n : Int) (k : Int) (t17 : Int) (b : List Int) : VM :=
  ⟨⟨109, 34, [(0, .int .u64 n), (1, .int .i64 k), (5, .slice (some ⟨0, 0, none⟩) k.toNat 1), (16, .int .i64 (k.toNat : Int)), (17, .int .i64 t17)], [.code k109_17, .inLoop k109_17, .inBlock 0, .code k109_22], [], false, none⟩, [], [(0, .row true (vI .u8 b))], 1⟩
theorem loop109_1 (hS : SumsOK Try.prog (aget (sums109))) (n : Int) (k : Int) (res : List UInt8) : ∀ fuel (st : Int × (List Int)) (o : List UInt8), iter (fun st => octet_Put_s1 n k st.1 st.2) fuel st = some o → (o = res) →
    Leads Try.prog 109 0 (head109_1 n k st.1 st.2) (fun v H _ => Res 0 (rx109 res) v H) := by
  intro fuel st o h hc
  refine iter_leads (head := fun st => head109_1 n k st.1 st.2) (C := fun o => (o = res)) ?_ fuel st o h hc
  clear h hc o st fuel
  intro st o h hc
  obtain ⟨t17, b⟩ := st
  replace h : octet_Put_s1 n k t17 b = some o := h
  show Leads Try.prog 109 0 (head109_1 n k t17 b) (fun v H _ => Res 0 (rx109 res) v H)
  unfold octet_Put_s1 at h
  refine ev_ok tab_ok hS true 3000 ?_
  conv => whnf
  refine br.h2 h ?_ ?_ ?_
  · rfl
  · clear h; intro hb h; conv => whnf
    replace h := oreq.elim h; obtain ⟨hb, h⟩ := h
    refine req.intro (by (first | rfl | (simp [wI, vI, vB, vS, bI, oneC, addrBlk, cellsL, Value.cells] at *; omega) | (simp [vI, vB, vS, bI, oneC, addrBlk, cellsL, Value.cells] at *; omega) | (simp [vI, vB, vS, bI, oneC, addrBlk, cellsL, Value.cells] at *; done))) ?_
    conv => whnf
    refine pk_b2s ?_
    conv => whnf
    all_goals (cases h; cases hc; exact Res.z rfl rfl rfl)
  clear h; intro hb h; conv => whnf
  let t : Int := wI .i64 (8 * (wI .i64 ((wI .i64 (k - 1)) - t17)))
  replace h := oreq.elim h; obtain ⟨hb, h⟩ := h
  first | (refine req.intro hb ?_; conv => whnf) | skip
  replace h := oreq.elim h; obtain ⟨hb, h⟩ := h
  first | (refine req.intro hb ?_; conv => whnf) | skip
  replace h := oreq.elim h; obtain ⟨hb, h⟩ := h
  refine st_I hb (by first | rfl | (rw [Nat.zero_add, Nat.mul_one]; try rfl; done) | omega) ?_
  conv => whnf
  let row : List Int := b.set t17.toNat (wI .u8 (n.fdiv (2 ^ (min t.toNat 64))))
  cases h; simp only [Sum.elim_inl, head109_1] at hc
  exact lrA0 hc [(0, 0)] rfl
theorem leads109 (hS : SumsOK Try.prog (aget (sums109))) (n : Int) (k : Int) (res : List UInt8) (h : octet_PutF n k = some res) :
    Leads Try.prog 109 0 ⟨⟨109, 34, [(0, .int .u64 n), (1, .int .i64 k)], [.code k109_26], [], false, none⟩, [], [], 0⟩ (fun v H _ => Res 0 (rx109 res) v H) := by
  unfold octet_PutF at h
  refine ev_ok tab_ok hS true 3000 ?_
  conv => whnf
  refine br.h h ?_ ?_ ?_
  · rfl
  · clear h; intro hb h; conv => whnf
    all_goals (cases h; exact Res.z rfl rfl rfl)
  clear h; intro hb h; conv => whnf
  refine br.h h ?_ ?_ ?_
  · rfl
  · clear h; intro hb h; conv => whnf
    all_goals (cases h; exact Res.z rfl rfl rfl)
  clear h; intro hb h; conv => whnf
  replace h := oreq.elim h; obtain ⟨hb, h⟩ := h
  first | (refine req.intro hb ?_; conv => whnf) | skip
  refine pk_mkI ?_
  conv => whnf
  have hl := loop109_1 hS _ _ res _ _ _ h rfl; simp only [head109_1] at hl
  exact lrA0 hl [(0, 0)] rfl
theorem ok109 (hS : SumsOK Try.prog (aget (sums109))) : SumOK Try.prog 109 (s109 (octet_PutF)) := by
  refine SumOK.of_leads tab_ok (fun ar os r ha hr => ?_) ⟨Try.f109, rfl, by decide, rfl⟩
  replace hr : r109 (octet_PutF) ar (conts os) = some r := hr
  unfold r109 at hr
  generalize hc : conts os = C at hr
  replace hr := dV.elim hr; obtain ⟨v0, l1, y0, rfl, e0, hr⟩ := hr; obtain rfl := asI_eq _ _ _ e0
  replace hr := dV.elim hr; obtain ⟨v1, l2, y1, rfl, e1, hr⟩ := hr; obtain rfl := asI_eq _ _ _ e1
  replace hr := dFin hr; obtain ⟨rfl, rfl, x, h, rfl⟩ := hr
  obtain rfl := kinds_nil hc
  exact ⟨_, rfl, leads109 hS _ _ x h⟩
def octet_Put : Int → Int → Option (List UInt8) := octet_PutF
theorem lift109 : SumOK Try.prog 109 (s109 octet_Put) := ok109 (SumsOK.of_tab trivial)
def R02_Put_s1 (k : Int) (n1 : Int) (s : List UInt8) (i : Int) : Option (Sum (Int × (List UInt8) × Int) (List UInt8)) :=
  cond (decide (i < k))
    (
    cond (decide (k ≤ 8))
      (
      let t := [UInt8.ofNat (wI .u8 (n1.tmod 256)).toNat]
      oreq (decide (t.length + s.length < 2 ^ 63)) <|
      some (.inl (wI .u64 (n1.tdiv 256), t ++ s, wI .i64 (i + 1))))
      (
      some (.inr (s))))
    (
    some (.inr (s)))
def R02_PutF (n : Int) (k : Int) : Option (List UInt8) :=
  iter (fun st => R02_Put_s1 k st.1 st.2.1 st.2.2) FUEL (n, [], 0)
def rx104 (x : List UInt8) : SRes := ⟨.string ⟨⟨x⟩⟩, [], []⟩
def r104 (g : Int → Int → Option (List UInt8)) : Dec := dV (asI .u64) fun (y0 : Int) => dV (asI .i64) fun (y1 : Int) => dEnd (ofG (g y0 y1) rx104)
theorem r104_c {g : Int → Int → Option (List UInt8)} {y0 : Int} {y1 : Int} {x : List UInt8} (hx : g y0 y1 = some x) : r104 g [.int .u64 y0, .int .i64 y1] [] = some (rx104 x) := (dV_eq (asI_c _)).trans ((dV_eq (asI_c _)).trans (ofG_eq hx))
def s104 (g : Int → Int → Option (List UInt8)) : Summ := ⟨[.v, .v], r104 g⟩
theorem r104_eq {g : Int → Int → Option (List UInt8)} {y0 : Int} {y1 : Int} {x : List UInt8} (hx : g y0 y1 = some x) : (s104 g).run [.int .u64 y0, .int .i64 y1] [] = some (rx104 x) := r104_c hx
abbrev sums104 : List (Nat × Summ) := []
def head104_1 (k : Int) (n1 : Int) (s : List UInt8) (i : Int) : VM :=
  ⟨⟨104, 26, [(0, .int .u64 n1), (1, .int .i64 k), (5, .string ⟨⟨s⟩⟩), (6, .int .i64 i)], [.code k104_12, .inLoop k104_12, .inBlock 0, .code k104_17], [], false, none⟩, [], [], 0⟩
theorem loop104_1 (hS : SumsOK Try.prog (aget (sums104))) (k : Int) (res : List UInt8) : ∀ fuel (st : Int × (List UInt8) × Int) (o : List UInt8), iter (fun st => R02_Put_s1 k st.1 st.2.1 st.2.2) fuel st = some o → (o = res) →
    Leads Try.prog 104 0 (head104_1 k st.1 st.2.1 st.2.2) (fun v H _ => Res 0 (rx104 res) v H) := by
  intro fuel st o h hc
  refine iter_leads (head := fun st => head104_1 k st.1 st.2.1 st.2.2) (C := fun o => (o = res)) ?_ fuel st o h hc
  clear h hc o st fuel
  intro st o h hc
  obtain ⟨n1, s, i⟩ := st
  replace h : R02_Put_s1 k n1 s i = some o := h
  show Leads Try.prog 104 0 (head104_1 k n1 s i) (fun v H _ => Res 0 (rx104 res) v H)
  unfold R02_Put_s1 at h
  refine ev_ok tab_ok hS true 3000 ?_
  conv => whnf
  refine br.h2 h ?_ ?_ ?_
  · rfl
  · clear h; intro hb h; conv => whnf
    all_goals (cases h; cases hc; exact Res.z rfl rfl rfl)
  clear h; intro hb h; conv => whnf
  refine br.h2 h ?_ ?_ ?_
  · rfl
  · clear h; intro hb h; conv => whnf
    all_goals (cases h; cases hc; exact Res.z rfl rfl rfl)
  clear h; intro hb h; conv => whnf
  refine pk_b2sL rfl ?_
  conv => whnf
  let t : List UInt8 := [UInt8.ofNat (wI .u8 (n1.tmod 256)).toNat]
  replace h := oreq.elim h; obtain ⟨hb, h⟩ := h
  first | (refine req.intro hb ?_; conv => whnf) | skip
  cases h; simp only [Sum.elim_inl, head104_1] at hc
  exact lrA0 hc [] rfl
theorem leads104 (hS : SumsOK Try.prog (aget (sums104))) (n : Int) (k : Int) (res : List UInt8) (h : R02_PutF n k = some res) :
    Leads Try.prog 104 0 ⟨⟨104, 26, [(0, .int .u64 n), (1, .int .i64 k)], [.code k104_20], [], false, none⟩, [], [], 0⟩ (fun v H _ => Res 0 (rx104 res) v H) := by
  unfold R02_PutF at h
  refine ev_ok tab_ok hS true 3000 ?_
  conv => whnf
  have hl := loop104_1 hS _ res _ _ _ h rfl; simp only [head104_1] at hl
  exact lrA0 hl [] rfl
theorem ok104 (hS : SumsOK Try.prog (aget (sums104))) : SumOK Try.prog 104 (s104 (R02_PutF)) := by
  refine SumOK.of_leads tab_ok (fun ar os r ha hr => ?_) ⟨Try.f104, rfl, by decide, rfl⟩
  replace hr : r104 (R02_PutF) ar (conts os) = some r := hr
  unfold r104 at hr
  generalize hc : conts os = C at hr
  replace hr := dV.elim hr; obtain ⟨v0, l1, y0, rfl, e0, hr⟩ := hr; obtain rfl := asI_eq _ _ _ e0
  replace hr := dV.elim hr; obtain ⟨v1, l2, y1, rfl, e1, hr⟩ := hr; obtain rfl := asI_eq _ _ _ e1
  replace hr := dFin hr; obtain ⟨rfl, rfl, x, h, rfl⟩ := hr
  obtain rfl := kinds_nil hc
  exact ⟨_, rfl, leads104 hS _ _ x h⟩
def R02_Put : Int → Int → Option (List UInt8) := R02_PutF
theorem lift104 : SumOK Try.prog 104 (s104 R02_Put) := ok104 (SumsOK.of_tab trivial)
end Go.Vm.Code
namespace Go.Vm.Code
open Go Go.Vm
def putS (n k : Int) : List UInt8 := if 1 ≤ k ∧ k ≤ 8 then be n.toNat k.toNat else []
theorem octet_Put_eq {n k : Int} (h0 : 0 ≤ n) : octet_Put n k = some (putS n k) := by
  unfold octet_Put octet_PutF putS
  by_cases h1 : k < 1
  · rw [cond_p h1, if_neg (by omega)]
  by_cases h2 : k > 8
  · rw [cond_n h1, cond_p h2, if_neg (by omega)]
  rw [cond_n h1, cond_n h2, oreq_p (by omega), if_pos (by omega)]
  obtain ⟨m, rfl⟩ := Int.eq_ofNat_of_zero_le h0
  obtain ⟨j, rfl⟩ := Int.eq_ofNat_of_zero_le (show 0 ≤ k by omega)
  have key := iter_eq (step := fun (st : Int × List Int) => octet_Put_s1 (m : Int) (j : Int) st.1 st.2) (fun st => iB (st.2.take st.1.toNat) ++ be m (j - st.1.toNat)) (fun st => 0 ≤ st.1 ∧ st.1 ≤ j ∧ st.2.length = j) (fun st => (j - st.1).toNat) ?_ FUEL (0, List.replicate (j : Int).toNat 0) ⟨by simp, by simp, by simp⟩ (by rw [FUEL_eq]; simp only; omega)
  · rw [key]; simp [iB]
  rintro ⟨p, b⟩ ⟨g1, g2, g3⟩
  simp only at g1 g2 g3 ⊢
  obtain ⟨i, rfl⟩ := Int.eq_ofNat_of_zero_le g1
  unfold octet_Put_s1
  by_cases hp : i < j
  · refine .inr ⟨(((i + 1 : Nat) : Int), b.set i ((m / 256 ^ (j - 1 - i) % 256 : Nat) : Int)), ?_, ⟨by simp only; omega, by simp only; omega, by simp [g3]⟩, by simp only; omega, ?_⟩
    · simp (disch := omega) only [wI64, oreq_p, cond_p, Int.toNat_natCast]
      have e1 : min (8 * ((j : Int) - 1 - i)).toNat 64 = 8 * (j - 1 - i) := by omega
      have e0 : (2 : Int) ^ (8 * (j - 1 - i)) = ((256 ^ (j - 1 - i) : Nat) : Int) := by rw [show (256 : Nat) = 2 ^ 8 from rfl, ← Nat.pow_mul]; push_cast; rfl
      rw [e1, fdivP, wU8m, e0]
      rfl
    · simp only [Int.toNat_natCast]
      have e2 : j - i = (j - (i + 1)) + 1 := by omega
      have e3 : j - (i + 1) = j - 1 - i := by omega
      have e4 : (b.set i ((m / 256 ^ (j - 1 - i) % 256 : Nat) : Int)).take (i + 1) = b.take i ++ [((m / 256 ^ (j - 1 - i) % 256 : Nat) : Int)] := by
        rw [List.take_succ_eq_append_getElem (by simp; omega), List.take_set_of_le (Nat.le_refl _), List.getElem_set_self]
      rw [e2, e4, be, e3]
      simp only [iB, List.map_append, List.map_cons, List.map_nil, List.append_assoc, List.cons_append, List.nil_append, Int.toNat_natCast]
      congr 2
      apply UInt8.toNat_inj.1
      simp
  · refine .inl ?_
    obtain rfl : i = j := by omega
    simp (disch := omega) only [cond_n, oreq_p, Int.toNat_natCast]
    simp [be]
theorem R02_Put_eq {n k : Int} (h0 : 0 ≤ n) (h1 : n < 2 ^ 64) : R02_Put n k = some (putS n k) := by
  unfold R02_Put R02_PutF putS
  obtain ⟨m, rfl⟩ := Int.eq_ofNat_of_zero_le h0
  by_cases hk : 1 ≤ k ∧ k ≤ 8
  · rw [if_pos hk]
    obtain ⟨j, rfl⟩ := Int.eq_ofNat_of_zero_le (show 0 ≤ k by omega)
    have key := iter_eq (step := fun st => R02_Put_s1 (j : Int) st.1 st.2.1 st.2.2) (fun st => be st.1.toNat (j - st.2.2.toNat) ++ st.2.1) (fun st => 0 ≤ st.1 ∧ st.1 < 2 ^ 64 ∧ 0 ≤ st.2.2 ∧ st.2.2 ≤ j ∧ st.2.1.length < 2 ^ 20 + st.2.2.toNat) (fun st => (j - st.2.2).toNat) ?_ FUEL ((m : Int), [], 0) ⟨by simp, by simp only; omega, by simp, by simp, by simp⟩ (by rw [FUEL_eq]; simp only; omega)
    · rw [key]; simp
    rintro ⟨n, s, p⟩ ⟨g1, g2, g3, g4, g5⟩
    simp only at g1 g2 g3 g4 g5 ⊢
    obtain ⟨i, rfl⟩ := Int.eq_ofNat_of_zero_le g3
    obtain ⟨x, rfl⟩ := Int.eq_ofNat_of_zero_le g1
    unfold R02_Put_s1
    by_cases hp : i < j
    · refine .inr ⟨(((x / 256 : Nat) : Int), UInt8.ofNat x :: s, ((i + 1 : Nat) : Int)), ?_, ⟨by simp only; omega, by simp only; omega, by simp only; omega, by simp only; omega, by simp at g5 ⊢; omega⟩, by simp only; omega, ?_⟩
      · have e1 : (x : Int).tmod 256 = ((x % 256 : Nat) : Int) := by rw [Int.tmod_eq_emod_of_nonneg (by omega)]; rfl
        have e2 : (x : Int).tdiv 256 = ((x / 256 : Nat) : Int) := by rw [Int.tdiv_eq_ediv_of_nonneg (by omega)]; rfl
        rw [cond_p (by omega), cond_p (by omega), e1, e2, wU8 (by omega) (by omega)]
        simp only [List.length_cons, List.length_nil]
        rw [oreq_p (by omega), wU64 (by omega) (by omega), wI64 (by omega) (by omega), Int.toNat_natCast]
        have e3 : UInt8.ofNat (x % 256) = UInt8.ofNat x := by apply UInt8.toNat_inj.1; simp
        rw [e3]; rfl
      · simp only [Int.toNat_natCast]
        have e2 : j - i = (j - (i + 1)) + 1 := by omega
        rw [e2, be_snoc]; simp
    · refine .inl ?_
      obtain rfl : i = j := by omega
      rw [cond_n (by omega)]
      simp [be]
  · rw [if_neg hk]
    show iter _ (18446744073709551615 + 1) _ = _
    rw [iter]
    have : R02_Put_s1 k (m : Int) [] 0 = some (.inr []) := by
      unfold R02_Put_s1
      by_cases h2 : 0 < k
      · rw [cond_p h2, cond_n (by omega)]
      · rw [cond_n h2]
    simp only [this]
end Go.Vm.Code
namespace Go.Vm.Code
open Go Go.Vm Go.Proofs
set_option maxRecDepth 100000
set_option maxHeartbeats 4000000
set_option linter.unusedVariables false
def addr_RightF (a : api_Addr) : Option Bool :=
  cond (a.V6)
    (
    some (true))
    (
    cond (a.Hi == 0)
      (
      some (decide (a.Lo < 4294967296)))
      (
      some (false)))
def rx82 (x : Bool) : SRes := ⟨.bool x, [], []⟩
def r82 (g : api_Addr → Option Bool) : Dec := dV uvapi_Addr fun (y0 : api_Addr) => dEnd (ofG (g y0) rx82)
theorem r82_c {g : api_Addr → Option Bool} {y0 : api_Addr} {x : Bool} (hx : g y0 = some x) : r82 g [.agg ⟨[.bool y0.V6, .int .u64 y0.Hi, .int .u64 y0.Lo]⟩] [] = some (rx82 x) := (dV_eq (uvapi_Addr_c _)).trans (ofG_eq hx)
def s82 (g : api_Addr → Option Bool) : Summ := ⟨[.v], r82 g⟩
theorem r82_eq {g : api_Addr → Option Bool} {y0 : api_Addr} {x : Bool} (hx : g y0 = some x) : (s82 g).run [.agg ⟨[.bool y0.V6, .int .u64 y0.Hi, .int .u64 y0.Lo]⟩] [] = some (rx82 x) := r82_c hx
abbrev sums82 : List (Nat × Summ) := []
theorem leads82 (hS : SumsOK Try.prog (aget (sums82))) (a : api_Addr) (res : Bool) (h : addr_RightF a = some res) :
    Leads Try.prog 82 0 ⟨⟨82, 15, [(0, .agg ⟨[.bool a.V6, .int .u64 a.Hi, .int .u64 a.Lo]⟩)], [.code k82_3], [], false, none⟩, [], [], 0⟩ (fun v H _ => Res 0 (rx82 res) v H) := by
  unfold addr_RightF at h
  refine ev_ok tab_ok hS true 3000 ?_
  conv => whnf
  refine br.h h ?_ ?_ ?_
  · rfl
  · clear h; intro hb h; conv => whnf
    all_goals (cases h; exact Res.z rfl rfl rfl)
  clear h; intro hb h; conv => whnf
  refine br.h h ?_ ?_ ?_
  · rfl
  · clear h; intro hb h; conv => whnf
    all_goals (cases h; exact Res.z rfl rfl rfl)
  clear h; intro hb h; conv => whnf
  all_goals (cases h; exact Res.z rfl rfl rfl)
theorem ok82 (hS : SumsOK Try.prog (aget (sums82))) : SumOK Try.prog 82 (s82 (addr_RightF)) := by
  refine SumOK.of_leads tab_ok (fun ar os r ha hr => ?_) ⟨Try.f82, rfl, by decide, rfl⟩
  replace hr : r82 (addr_RightF) ar (conts os) = some r := hr
  unfold r82 at hr
  generalize hc : conts os = C at hr
  replace hr := dV.elim hr; obtain ⟨v0, l1, y0, rfl, e0, hr⟩ := hr; obtain rfl := uvapi_Addr_eq _ _ e0
  replace hr := dFin hr; obtain ⟨rfl, rfl, x, h, rfl⟩ := hr
  obtain rfl := kinds_nil hc
  exact ⟨_, rfl, leads82 hS _ x h⟩
def addr_Right : api_Addr → Option Bool := addr_RightF
theorem lift82 : SumOK Try.prog 82 (s82 addr_Right) := ok82 (SumsOK.of_tab trivial)
def addr_PutF (addr_Right : api_Addr → Option Bool) (octet_Put : Int → Int → Option (List UInt8)) (a : api_Addr) : Option (List UInt8) :=
  (addr_Right a).bind fun xr =>
  cond (!xr)
    (
    some ([]))
    (
    cond (a.V6)
      (
      (octet_Put a.Hi 8).bind fun p =>
      (octet_Put a.Lo 8).bind fun p1 =>
      oreq (decide (p.length + p1.length < 2 ^ 63)) <|
      some (p ++ p1))
      (
      (octet_Put a.Lo 4).bind fun p2 =>
      some (p2)))
def rx110 (x : List UInt8) : SRes := ⟨.string ⟨⟨x⟩⟩, [], []⟩
def r110 (g : api_Addr → Option (List UInt8)) : Dec := dV uvapi_Addr fun (y0 : api_Addr) => dEnd (ofG (g y0) rx110)
theorem r110_c {g : api_Addr → Option (List UInt8)} {y0 : api_Addr} {x : List UInt8} (hx : g y0 = some x) : r110 g [.agg ⟨[.bool y0.V6, .int .u64 y0.Hi, .int .u64 y0.Lo]⟩] [] = some (rx110 x) := (dV_eq (uvapi_Addr_c _)).trans (ofG_eq hx)
def s110 (g : api_Addr → Option (List UInt8)) : Summ := ⟨[.v], r110 g⟩
theorem r110_eq {g : api_Addr → Option (List UInt8)} {y0 : api_Addr} {x : List UInt8} (hx : g y0 = some x) : (s110 g).run [.agg ⟨[.bool y0.V6, .int .u64 y0.Hi, .int .u64 y0.Lo]⟩] [] = some (rx110 x) := r110_c hx
abbrev sums110 (addr_Right : api_Addr → Option Bool) (octet_Put : Int → Int → Option (List UInt8)) : List (Nat × Summ) := [(82, s82 addr_Right), (109, s109 octet_Put)]
theorem leads110 (addr_Right : api_Addr → Option Bool) (octet_Put : Int → Int → Option (List UInt8)) (hS : SumsOK Try.prog (aget (sums110 addr_Right octet_Put))) (a : api_Addr) (res : List UInt8) (h : addr_PutF addr_Right octet_Put a = some res) :
    Leads Try.prog 110 0 ⟨⟨110, 20, [(0, .agg ⟨[.bool a.V6, .int .u64 a.Hi, .int .u64 a.Lo]⟩)], [.code k110_15], [], false, none⟩, [], [], 0⟩ (fun v H _ => Res 0 (rx110 res) v H) := by
  unfold addr_PutF at h
  refine ev_ok tab_ok hS true 3000 ?_
  conv => whnf
  replace h := obind.elim h; obtain ⟨xr, hy, h⟩ := h
  refine sumK.q rfl rfl (r82_eq hy) rfl rfl rfl ?_
  conv => whnf
  refine br.h h ?_ ?_ ?_
  · rfl
  · clear h; intro hb h; conv => whnf
    all_goals (cases h; exact Res.z rfl rfl rfl)
  clear h; intro hb h; conv => whnf
  refine br.h2 h ?_ ?_ ?_
  · rfl
  · clear h; intro hb h; conv => whnf
    replace h := obind.elim h; obtain ⟨p2, hy, h⟩ := h
    refine sumK.q rfl rfl (r109_eq hy) rfl rfl rfl ?_
    conv => whnf
    all_goals (cases h; exact Res.z rfl rfl rfl)
  clear h; intro hb h; conv => whnf
  replace h := obind.elim h; obtain ⟨p, hy, h⟩ := h
  refine sumK.q rfl rfl (r109_eq hy) rfl rfl rfl ?_
  conv => whnf
  replace h := obind.elim h; obtain ⟨p1, hy, h⟩ := h
  refine sumK.q rfl rfl (r109_eq hy) rfl rfl rfl ?_
  conv => whnf
  replace h := oreq.elim h; obtain ⟨hb, h⟩ := h
  first | (refine req.intro hb ?_; conv => whnf) | skip
  all_goals (cases h; exact Res.z rfl rfl rfl)
theorem ok110 (addr_Right : api_Addr → Option Bool) (octet_Put : Int → Int → Option (List UInt8)) (hS : SumsOK Try.prog (aget (sums110 addr_Right octet_Put))) : SumOK Try.prog 110 (s110 (addr_PutF addr_Right octet_Put)) := by
  refine SumOK.of_leads tab_ok (fun ar os r ha hr => ?_) ⟨Try.f110, rfl, by decide, rfl⟩
  replace hr : r110 (addr_PutF addr_Right octet_Put) ar (conts os) = some r := hr
  unfold r110 at hr
  generalize hc : conts os = C at hr
  replace hr := dV.elim hr; obtain ⟨v0, l1, y0, rfl, e0, hr⟩ := hr; obtain rfl := uvapi_Addr_eq _ _ e0
  replace hr := dFin hr; obtain ⟨rfl, rfl, x, h, rfl⟩ := hr
  obtain rfl := kinds_nil hc
  exact ⟨_, rfl, leads110 addr_Right octet_Put hS _ x h⟩
def addr_Put : api_Addr → Option (List UInt8) := addr_PutF addr_Right octet_Put
theorem lift110 : SumOK Try.prog 110 (s110 addr_Put) := ok110 addr_Right octet_Put (SumsOK.of_tab ⟨lift82, lift109, trivial⟩)
def tuple_within_s1 (most : Int) (l : List Int) (t9 : Int) : Option (Sum Int Bool) :=
  cond (decide (t9 < (l.length : Int)))
    (
    oreq (decide ((0 : Int) ≤ t9 ∧ t9 < (l.length : Int))) <|
    (l[t9.toNat]?).bind fun (e : Int) =>
    cond (decide (e < 0))
      (
      some (.inr (false)))
      (
      cond (decide (e > most))
        (
        some (.inr (false)))
        (
        some (.inl (wI .i64 (t9 + 1))))))
    (
    some (.inr (true)))
def tuple_withinF (most : Int) (l : List Int) : Option Bool :=
  iter (fun st => tuple_within_s1 most l st) FUEL 0
def rx160 (x : Bool) : SRes := ⟨.bool x, [], [none]⟩
def r160 (g : Int → (List Int) → Option Bool) : Dec := dV (asI .i64) fun (y0 : Int) => dSl 0 1 (unL (asI .i64)) fun (y1 : List Int) => dEnd (ofG (g y0 y1) rx160)
theorem r160_c {g : Int → (List Int) → Option Bool} {y0 : Int} {y1 : List Int} {x : Bool} (hx : g y0 y1 = some x) : r160 g [.int .i64 y0, .slice (some ⟨0, 0, none⟩) y1.length 1] [some (vI .i64 y1)] = some (rx160 x) := (dV_eq (asI_c _)).trans ((dSl_eq (unI_vI _ _)).trans (ofG_eq hx))
def s160 (g : Int → (List Int) → Option Bool) : Summ := ⟨[.v, .sl 1], r160 g⟩
theorem r160_eq {g : Int → (List Int) → Option Bool} {y0 : Int} {y1 : List Int} {x : Bool} (hx : g y0 y1 = some x) : (s160 g).run [.int .i64 y0, .slice (some ⟨0, 0, none⟩) y1.length 1] [some (vI .i64 y1)] = some (rx160 x) := r160_c hx
abbrev sums160 : List (Nat × Summ) := []
def head160_1 (most : Int) (l : List Int) (t9 : Int) : VM :=
  ⟨⟨160, 21, [(0, .int .i64 most), (7, .slice (some ⟨0, 0, none⟩) l.length 1), (8, .int .i64 (l.length : Int)), (9, .int .i64 t9)], [.code k160_15, .inLoop k160_15, .inBlock 0, .code k160_20], [], false, none⟩, [], [(0, .row false (vI .i64 l))], 1⟩
theorem loop160_1 (hS : SumsOK Try.prog (aget (sums160))) (most : Int) (l : List Int) (res : Bool) : ∀ fuel (st : Int) (o : Bool), iter (fun st => tuple_within_s1 most l st) fuel st = some o → (o = res) →
    Leads Try.prog 160 1 (head160_1 most l st) (fun v H _ => Res 1 (rx160 res) v H) := by
  intro fuel st o h hc
  refine iter_leads (head := fun st => head160_1 most l st) (C := fun o => (o = res)) ?_ fuel st o h hc
  clear h hc o st fuel
  intro t9 o h hc
  replace h : tuple_within_s1 most l t9 = some o := h
  show Leads Try.prog 160 1 (head160_1 most l t9) (fun v H _ => Res 1 (rx160 res) v H)
  unfold tuple_within_s1 at h
  refine ev_ok tab_ok hS true 3000 ?_
  conv => whnf
  refine br.h2 h ?_ ?_ ?_
  · rfl
  · clear h; intro hb h; conv => whnf
    all_goals (cases h; cases hc)
    all_goals exact Res.of [] rfl nw_0 (by decide) js_0 (wr_n wr_0)
  clear h; intro hb h; conv => whnf
  replace h := oreq.elim h; obtain ⟨hb, h⟩ := h
  first | (refine req.intro hb ?_; conv => whnf) | skip
  replace h := obind.elim h; obtain ⟨e, hy, h⟩ := h
  refine rd.I hy (by first | rfl | (rw [Nat.zero_add, Nat.mul_one]; try rfl; done) | omega) ?_
  conv => whnf
  refine br.h h ?_ ?_ ?_
  · rfl
  · clear h; intro hb h; conv => whnf
    all_goals (cases h; cases hc)
    all_goals exact Res.of [] rfl nw_0 (by decide) js_0 (wr_n wr_0)
  clear h; intro hb h; conv => whnf
  refine br.h h ?_ ?_ ?_
  · rfl
  · clear h; intro hb h; conv => whnf
    all_goals (cases h; cases hc)
    all_goals exact Res.of [] rfl nw_0 (by decide) js_0 (wr_n wr_0)
  clear h; intro hb h; conv => whnf
  cases h; simp only [Sum.elim_inl, head160_1] at hc
  exact lrA0 hc [(0, 0)] rfl
theorem leads160 (hS : SumsOK Try.prog (aget (sums160))) (most : Int) (l : List Int) (res : Bool) (h : tuple_withinF most l = some res) :
    Leads Try.prog 160 1 ⟨⟨160, 21, [(0, .int .i64 most), (1, .slice (some ⟨0, 0, none⟩) l.length 1)], [.code k160_22], [], false, none⟩, [], [(0, .row false (vI .i64 l))], 1⟩ (fun v H _ => Res 1 (rx160 res) v H) := by
  unfold tuple_withinF at h
  refine ev_ok tab_ok hS true 3000 ?_
  conv => whnf
  have hl := loop160_1 hS _ _ res _ _ _ h rfl; simp only [head160_1] at hl
  exact lrA0 hl [(0, 0)] rfl
theorem ok160 (hS : SumsOK Try.prog (aget (sums160))) : SumOK Try.prog 160 (s160 (tuple_withinF)) := by
  refine SumOK.of_leads tab_ok (fun ar os r ha hr => ?_) ⟨Try.f160, rfl, by decide, rfl⟩
  replace hr : r160 (tuple_withinF) ar (conts os) = some r := hr
  unfold r160 at hr
  generalize hc : conts os = C at hr
  replace hr := dV.elim hr; obtain ⟨v0, l1, y0, rfl, e0, hr⟩ := hr; obtain rfl := asI_eq _ _ _ e0
  have hq := dSl.elim hr; clear hr; obtain ⟨c1, l2, C, y1, rfl, rfl, e1, hr⟩ := hq; obtain rfl := unI_eq e1
  replace hr := dFin hr; obtain ⟨rfl, rfl, x, h, rfl⟩ := hr
  obtain ⟨os, rfl, ha, hc⟩ := kinds_some ha hc
  obtain rfl := kinds_nil hc
  exact ⟨_, rfl, leads160 hS _ _ x h⟩
def tuple_within : Int → (List Int) → Option Bool := tuple_withinF
theorem lift160 : SumOK Try.prog 160 (s160 tuple_within) := ok160 (SumsOK.of_tab trivial)
end Go.Vm.Code
