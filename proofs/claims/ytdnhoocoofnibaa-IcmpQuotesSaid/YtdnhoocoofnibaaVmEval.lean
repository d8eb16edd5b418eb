import Derived.Test.YtdnhoocoofnibaaVmSumB
namespace Go.Vm
open Go Go.RowKit
def req (b : Bool) (p : Prop) : Prop := match b with | true => p | false => False
theorem req.intro {b : Bool} {p : Prop} (h : b = true) (k : p) : req b p := by subst h; exact k
theorem req.elim {b : Bool} {p : Prop} (h : req b p) : b = true ∧ p := by cases b; exact h.elim; exact ⟨rfl, h⟩
def br (b : Bool) (p q : Prop) : Prop := match b with | true => p | false => q
theorem br.intro {b : Bool} {p q : Prop} (h : b = true → p) (k : b = false → q) : br b p q := by cases b; exact k rfl; exact h rfl
theorem br.pos {b : Bool} {p q : Prop} (e : b = true) (h : p) : br b p q := by subst e; exact h
theorem br.neg {b : Bool} {p q : Prop} (e : b = false) (h : q) : br b p q := by subst e; exact h
def forceV (v : Value) (K : Value → Prop) : Prop :=
  match v with
  | .bool b => K (.bool b)
  | .int k n => K (.int k n)
  | .float k n => K (.float k n)
  | .string s => K (.string s)
  | .pointer none => K (.pointer none)
  | .pointer (some a) => K (.pointer (some a))
  | .slice none n c => K (.slice none n c)
  | .slice (some a) n c => K (.slice (some a) n c)
  | .func f a b => K (.func f a b)
  | .nilFunc => K .nilFunc
  | .nilIface => K .nilIface
  | .iface t v => K (.iface t v)
  | .agg a => K (.agg a)
  | .tuple a => K (.tuple a)
  | v => K v
theorem forceV_eq (v : Value) (K : Value → Prop) : forceV v K = K v := by
  unfold forceV; split <;> rfl
def forceL (l : List Value) (K : List Value → Prop) : Prop :=
  match l with
  | [] => K []
  | v :: l => forceL l (fun l' => K (v :: l'))
theorem forceL_eq : ∀ (l : List Value) (K : List Value → Prop), forceL l K = K l
  | [], _ => rfl
  | v :: l, K => by rw [forceL, forceL_eq l]
def adelK {α : Type} (l : List (Nat × α)) (j : Nat) (K : List (Nat × α) → Prop) : Prop :=
  match l with
  | [] => K []
  | (i, x) :: l => cond (Nat.beq i j) (adelK l j K) (adelK l j (fun l' => K ((i, x) :: l')))
theorem adelK_eq {α : Type} : ∀ (l : List (Nat × α)) (j : Nat) (K : List (Nat × α) → Prop), adelK l j K = K (adel l j)
  | [], _, _ => rfl
  | (i, x) :: l, j, K => by
    simp only [adelK, adel]
    cases Nat.beq i j
    · simp only [cond_false]; rw [adelK_eq l]
    · simp only [cond_true]; rw [adelK_eq l]
def aputK {α : Type} (l : List (Nat × α)) (i : Nat) (x : α) (K : List (Nat × α) → Prop) : Prop := adelK l i (fun l' => K ((i, x) :: l'))
theorem aputK_eq {α : Type} (l : List (Nat × α)) (i : Nat) (x : α) (K : List (Nat × α) → Prop) : aputK l i x K = K (aput l i x) := adelK_eq _ _ _
def rd (cs : List Value) (o : Nat) (K : Value → Prop) : Prop := match cs[o]? with | some v => forceV v K | none => False
theorem rd.intro {cs : List Value} {o : Nat} {K : Value → Prop} {v : Value} (h : cs[o]? = some v) (k : forceV v K) : rd cs o K := by unfold rd; rw [h]; exact k
theorem rd.elim {cs : List Value} {o : Nat} {K : Value → Prop} (h : rd cs o K) : ∃ v, cs[o]? = some v ∧ K v := by
  unfold rd at h
  split at h
  · rename_i v hv; rw [forceV_eq] at h; exact ⟨v, hv, h⟩
  · exact h.elim
def rdN (cs : List Value) (o : Nat) (n : Nat) (K : List Value → Prop) : Prop :=
  match n with
  | 0 => K []
  | n + 1 => rd cs o fun v => rdN cs (o + 1) n fun l => K (v :: l)
theorem rdN.elim : ∀ {n : Nat} {cs : List Value} {o : Nat} {K : List Value → Prop}, rdN cs o n K → (o + n ≤ cs.length ∨ n = 0) ∧ K ((cs.drop o).take n)
  | 0, cs, o, K, h => ⟨.inr rfl, by simpa [rdN] using h⟩
  | n + 1, cs, o, K, h => by
    obtain ⟨v, hv, h2⟩ := rd.elim h
    obtain ⟨h3, h4⟩ := rdN.elim h2
    have hlt : o < cs.length := by
      rcases Nat.lt_or_ge o cs.length with h | h
      · exact h
      · rw [List.getElem?_eq_none h] at hv; cases hv
    refine ⟨.inl (by omega), ?_⟩
    have : (cs.drop o).take (n + 1) = v :: (cs.drop (o + 1)).take n := by
      rw [List.drop_eq_getElem_cons hlt, List.take_succ_cons]
      rw [List.getElem?_eq_getElem hlt, Option.some.injEq] at hv
      rw [hv]
    rw [this]; exact h4
abbrev CK := Option Value → List (Option VObj) → Option VObj → Prop
def optK (r : Option CoreR) (K : CK) : Prop :=
  match r with
  | some ⟨some v, os, fr⟩ => forceV v fun v => K (some v) os fr
  | some ⟨none, os, fr⟩ => K none os fr
  | none => False
def Good (r : Option CoreR) (K : CK) : Prop := ∃ v os fr, r = some ⟨v, os, fr⟩ ∧ K v os fr
theorem optK.good {r : Option CoreR} {K : CK} (h : optK r K) : Good r K := by
  unfold optK at h
  split at h
  · rw [forceV_eq] at h; exact ⟨_, _, _, rfl, h⟩
  · exact ⟨_, _, _, rfl, h⟩
  · exact h.elim
def valK (v : Value) (K : CK) : Prop := forceV v fun v => K (some v) [] none
def fillK : List (Nat × Nat × Value) → List Value → (List Value → Prop) → Prop
  | [], cs, K => K cs
  | (off, size, v) :: rest, cs, K => cond (Nat.beq (cellsL v).length size && Nat.ble (off + size) cs.length) (forceL (setAt cs off (cellsL v)) fun cs' => fillK rest cs' K) False
theorem fillK.elim : ∀ {l : List (Nat × Nat × Value)} {cs : List Value} {K : List Value → Prop}, fillK l cs K → ∃ cs', fillL cs l = some cs' ∧ K cs'
  | [], cs, K, h => ⟨cs, rfl, h⟩
  | (off, size, v) :: rest, cs, K, h => by
    rw [fillK] at h
    cases hb : (Nat.beq (cellsL v).length size && Nat.ble (off + size) cs.length)
    · rw [hb] at h; exact h.elim
    · rw [hb, cond_true, forceL_eq] at h
      obtain ⟨cs', h1, h2⟩ := fillK.elim h
      rw [Bool.and_eq_true] at hb
      exact ⟨cs', by rw [fillL, if_pos ⟨Nat.eq_of_beq_eq_true hb.1, Nat.le_of_ble_eq_true hb.2⟩, h1], h2⟩
def k_build (z : List Value) (ps : List (Nat × Nat × Operand)) (vals : List Value) (objs : List VObj) (K : CK) : Prop :=
  match objs with
  | [] => cond (Nat.beq vals.length ps.length) (fillK (zipP ps vals) z fun cs => K (some (.agg ⟨cs⟩)) [] none) False
  | _ => False
def k_buildSl (len sz : Nat) (z : List Value) (ps : List (Nat × Nat × Operand)) (vals : List Value) (objs : List VObj) (top : Nat) (K : CK) : Prop :=
  match objs with
  | [] => cond (Nat.beq vals.length ps.length) (fillK (zipP ps vals) z fun cs => K (some (.slice (some ⟨top, 0, none⟩) len sz)) [] (some (.row true cs))) False
  | _ => False
theorem k_build_good {z : List Value} {ps : List (Nat × Nat × Operand)} {vals : List Value} {objs : List VObj} {K : CK} (h : k_build z ps vals objs K) : Good (c_build z ps vals objs) K := by
  unfold k_build at h
  split at h
  · cases hb : Nat.beq vals.length ps.length
    · rw [hb] at h; exact h.elim
    · rw [hb, cond_true] at h
      obtain ⟨cs, h1, h2⟩ := h.elim
      exact ⟨_, _, _, by simp only [c_build, if_pos (Nat.eq_of_beq_eq_true hb), h1]; rfl, h2⟩
  · exact h.elim
theorem k_buildSl_good {len sz : Nat} {z : List Value} {ps : List (Nat × Nat × Operand)} {vals : List Value} {objs : List VObj} {top : Nat} {K : CK} (h : k_buildSl len sz z ps vals objs top K) : Good (c_buildSl len sz z ps vals objs top) K := by
  unfold k_buildSl at h
  split at h
  · cases hb : Nat.beq vals.length ps.length
    · rw [hb] at h; exact h.elim
    · rw [hb, cond_true] at h
      obtain ⟨cs, h1, h2⟩ := h.elim
      exact ⟨_, _, _, by simp only [c_buildSl, if_pos (Nat.eq_of_beq_eq_true hb), h1], h2⟩
  · exact h.elim
def k_pick (vals : List Value) (objs : List VObj) (K : CK) : Prop :=
  match vals, objs with
  | [.bool c, a, b], [] => br c (valK a K) (valK b K)
  | _, _ => False
def k_load1 (vals : List Value) (objs : List VObj) (K : CK) : Prop :=
  match vals, objs with
  | [.pointer (some ⟨_, o, none⟩)], [.cells cs] => rd cs o fun v => K (some v) [some (.cells cs)] none
  | [.pointer (some ⟨_, o, none⟩)], [.row w cs] => rd cs o fun v => K (some v) [some (.row w cs)] none
  | [.pointer (some ⟨_, o, none⟩)], [.ty t cs] => rd cs o fun v => K (some v) [some (.ty t cs)] none
  | _, _ => False
def k_loadN (n : Nat) (vals : List Value) (objs : List VObj) (K : CK) : Prop :=
  match vals, objs with
  | [.pointer (some ⟨_, o, none⟩)], [.cells cs] => req (decide (o + n ≤ cs.length)) (rdN cs o n fun l => K (some (.agg ⟨l⟩)) [some (.cells cs)] none)
  | [.pointer (some ⟨_, o, none⟩)], [.row w cs] => req (decide (o + n ≤ cs.length)) (rdN cs o n fun l => K (some (.agg ⟨l⟩)) [some (.row w cs)] none)
  | [.pointer (some ⟨_, o, none⟩)], [.ty t cs] => req (decide (o + n ≤ cs.length)) (rdN cs o n fun l => K (some (.agg ⟨l⟩)) [some (.ty t cs)] none)
  | _, _ => False
def k_store (n : Nat) (vals : List Value) (objs : List VObj) (K : CK) : Prop :=
  match vals, objs with
  | [.pointer (some ⟨_, o, none⟩), v], [.cells cs] => req (decide ((cellsL v).length = n ∧ o + n ≤ cs.length) && (cellsL v).all oneC) (forceL (setAt cs o (cellsL v)) fun cs' => K none [some (.cells cs')] none)
  | [.pointer (some ⟨_, o, none⟩), v], [.ty t cs] => req (decide ((cellsL v).length = n ∧ o + n ≤ cs.length) && (cellsL v).all oneC) (forceL (setAt cs o (cellsL v)) fun cs' => K none [some (.ty t cs')] none)
  | [.pointer (some ⟨_, o, none⟩), v], [.row true cs] => req (decide ((cellsL v).length = n ∧ o + n ≤ cs.length) && (cellsL v).all oneC) (∃ cs', setAt cs o (cellsL v) = cs' ∧ K none [some (.row true cs')] none)
  | _, _ => False
def binK (op : BinOp) (x y : Value) (K : CK) : Prop :=
  match x, y with
  | .int k a, .int k' b => match op with
    | .shl => req (decide (0 ≤ b)) (K (some (.int k (k.wrap (a * 2 ^ (min b.toNat k.bits))))) [] none)
    | .shr => req (decide (0 ≤ b)) (K (some (.int k (a.fdiv (2 ^ (min b.toNat k.bits))))) [] none)
    | .quo => req (decide (k = k') && !(decide (b = 0))) (K (some (.int k (k.wrap (a.tdiv b)))) [] none)
    | .rem => req (decide (k = k') && !(decide (b = 0))) (K (some (.int k (a.tmod b))) [] none)
    | op => optK (match binV op (.int k a) (.int k' b) with | some v => val v | none => none) K
  | .string a, .string b => match op with
    | .add => req (decide (a.data.toList.length + b.data.toList.length < 2 ^ 63)) (K (some (.string ⟨⟨a.data.toList ++ b.data.toList⟩⟩)) [] none)
    | op => optK (match binV op (.string a) (.string b) with | some v => val v | none => none) K
  | _, _ => False
def k_bin (op : BinOp) (vals : List Value) (objs : List VObj) (K : CK) : Prop :=
  match vals, objs with
  | [x, y], [] => binK op x y K
  | _, _ => False
def k_isNil (k : Nat) (neg : Bool) (vals : List Value) (objs : List VObj) (K : CK) : Prop :=
  match k, vals, objs with
  | 1, [.slice (some _) n _], [] => req (Nat.blt 0 n) (K (some (.bool neg)) [] none)
  | k, vals, objs => optK (c_isNil k neg vals objs) K
def k_b2s (vals : List Value) (objs : List VObj) (K : CK) : Prop :=
  match vals, objs with
  | [.slice none 0 _], [] => K (some (.string ⟨⟨[]⟩⟩)) [] none
  | [.slice (some ⟨_, o, none⟩) n 1], [ob] => match ob.cs with
      | some cs => req (decide (o + n ≤ cs.length)) (∃ bs, toBytes ((cs.drop o).take n) = some bs ∧ K (some (.string ⟨⟨bs⟩⟩)) [some ob] none)
      | none => False
  | _, _ => False
def k_s2b (vals : List Value) (objs : List VObj) (top : Nat) (K : CK) : Prop :=
  match vals, objs with
  | [.string s], [] => ∃ cs', ofBytes s.data.toList = cs' ∧ K (some (.slice (some ⟨top, 0, none⟩) s.data.toList.length 1)) [] (some (.row true cs'))
  | _, _ => False
def k_mkSl (sz bytes : Nat) (z : List Value) (vals : List Value) (objs : List VObj) (top : Nat) (K : CK) : Prop :=
  match vals, objs with
  | [.int _ l, .int _ c], [] => req (decide (0 ≤ l ∧ l ≤ c ∧ c < 2 ^ 63 ∧ (bytes : Int) * c ≤ 2 ^ 48))
      (∃ cs', (List.replicate c.toNat z).flatten = cs' ∧ K (some (.slice (some ⟨top, 0, none⟩) l.toNat sz)) [] (some (.row true cs')))
  | _, _ => False
def loHiK (n : Nat) (hasLo hasHi : Bool) (bs : List Value) (K : Nat → Nat → Prop) : Prop :=
  match hasLo, hasHi, bs with
  | false, false, [] => K 0 n
  | true, false, [.int _ l] => req (decide (0 ≤ l ∧ l ≤ n)) (K l.toNat n)
  | false, true, [.int _ h] => req (decide (0 ≤ h ∧ h ≤ n)) (K 0 h.toNat)
  | true, true, [.int _ l, .int _ h] => req (decide (0 ≤ h ∧ h ≤ n ∧ 0 ≤ l ∧ l ≤ h.toNat)) (K l.toNat h.toNat)
  | _, _, _ => False
theorem loHiK.elim {n : Nat} {hl hh : Bool} {bs : List Value} {K : Nat → Nat → Prop} (h : loHiK n hl hh bs K) : ∃ l u, loHi n hl hh bs = some (l, u) ∧ K l u := by
  unfold loHiK at h
  split at h
  · exact ⟨_, _, rfl, h⟩
  · obtain ⟨h1, h2⟩ := h.elim; exact ⟨_, _, by simp only [loHi]; rw [if_pos (of_decide_eq_true h1)], h2⟩
  · obtain ⟨h1, h2⟩ := h.elim; exact ⟨_, _, by simp only [loHi]; rw [if_pos (of_decide_eq_true h1)], h2⟩
  · obtain ⟨h1, h2⟩ := h.elim; exact ⟨_, _, by simp only [loHi]; rw [if_pos (of_decide_eq_true h1)], h2⟩
  · exact h.elim
def k_sliceS (bl bh : Bool) (vals : List Value) (objs : List VObj) (K : CK) : Prop :=
  match vals, objs with
  | .string s :: bs, [] => loHiK s.data.toList.length bl bh bs fun l h => K (some (.string ⟨⟨(s.data.toList.drop l).take (h - l)⟩⟩)) [] none
  | _, _ => False
def k_sliceL (sz : Nat) (bl bh : Bool) (vals : List Value) (objs : List VObj) (K : CK) : Prop :=
  match vals, objs with
  | .slice none 0 c :: bs, [] => loHiK 0 bl bh bs fun _ _ => K (some (.slice none 0 c)) [] none
  | .slice (some ⟨b, o, none⟩) n sz' :: bs, [] => req (Nat.beq sz sz') (loHiK n bl bh bs fun l h => K (some (.slice (some ⟨b, o + l * sz, none⟩) (h - l) sz)) [] none)
  | _, _ => False
def k_sliceA (n sz : Nat) (bl bh : Bool) (vals : List Value) (objs : List VObj) (K : CK) : Prop :=
  match vals, objs with
  | .pointer (some ⟨b, o, none⟩) :: bs, [ob] => match ob.cs with
    | some cs => req (decide (o + n * sz ≤ cs.length)) (loHiK n bl bh bs fun l h => K (some (.slice (some ⟨b, o + l * sz, none⟩) (h - l) sz)) [some ob] none)
    | none => False
  | _, _ => False
def k_idxAA (n sz : Nat) (vals : List Value) (objs : List VObj) (K : CK) : Prop :=
  match vals, objs with
  | [.pointer (some ⟨b, o, none⟩), .int _ i], [] => req (decide (0 ≤ i ∧ i < n)) (K (some (.pointer (some ⟨b, o + i.toNat * sz, none⟩))) [] none)
  | _, _ => False
def k_idxAL (sz : Nat) (vals : List Value) (objs : List VObj) (K : CK) : Prop :=
  match vals, objs with
  | [.slice (some ⟨b, o, none⟩) n _, .int _ i], [] => req (decide (0 ≤ i ∧ i < n)) (K (some (.pointer (some ⟨b, o + i.toNat * sz, none⟩))) [] none)
  | _, _ => False
def k_idxV1 (n : Nat) (vals : List Value) (objs : List VObj) (K : CK) : Prop :=
  match vals, objs with
  | [.agg ⟨cs⟩, .int _ i], [] => req (decide (0 ≤ i ∧ i < n)) (rd cs i.toNat fun v => K (some v) [] none)
  | _, _ => False
def k_idxVN (n sz : Nat) (vals : List Value) (objs : List VObj) (K : CK) : Prop :=
  match vals, objs with
  | [.agg ⟨cs⟩, .int _ i], [] => req (decide (0 ≤ i ∧ i < n ∧ i.toNat * sz + sz ≤ cs.length)) (rdN cs (i.toNat * sz) sz fun l => K (some (.agg ⟨l⟩)) [] none)
  | _, _ => False
def rdS (s : List UInt8) (i : Nat) (K : UInt8 → Prop) : Prop := match s[i]? with | some b => K b | none => False
theorem rdS.intro {s : List UInt8} {i : Nat} {K : UInt8 → Prop} {b : UInt8} (h : s[i]? = some b) (k : K b) : rdS s i K := by unfold rdS; rw [h]; exact k
theorem rdS.elim {s : List UInt8} {i : Nat} {K : UInt8 → Prop} (h : rdS s i K) : ∃ b, s[i]? = some b ∧ K b := by
  unfold rdS at h; split at h
  · exact ⟨_, by assumption, h⟩
  · exact h.elim
def k_idxS (vals : List Value) (objs : List VObj) (K : CK) : Prop :=
  match vals, objs with
  | [.string s, .int _ i], [] => req (decide (0 ≤ i)) (rdS s.data.toList i.toNat fun b => K (some (.int .u8 b.toNat)) [] none)
  | _, _ => False
def srcK (sz : Nat) (y : Value) (objs : List VObj) (K : List Value → Nat → Prop) : Prop :=
  match y, objs with
  | .string s, _ => K (ofBytes s.data.toList) s.data.toList.length
  | .slice none 0 _, _ => K [] 0
  | .slice (some a) n _, [o] => match o.cs with
    | some cs => req (decide (a.off + n * sz ≤ cs.length)) (K ((cs.drop a.off).take (n * sz)) n)
    | none => False
  | _, _ => False
theorem srcK.elim {sz : Nat} {y : Value} {objs : List VObj} {K : List Value → Nat → Prop} (h : srcK sz y objs K) : ∃ c n, srcCells sz y objs = some c ∧ srcLen y = some n ∧ K c n := by
  unfold srcK at h
  split at h
  · exact ⟨_, _, rfl, rfl, h⟩
  · exact ⟨_, _, rfl, rfl, h⟩
  · split at h
    · rename_i cs hcs
      obtain ⟨h1, h2⟩ := h.elim
      exact ⟨_, _, by simp only [srcCells, hcs]; rw [if_pos (of_decide_eq_true h1)], rfl, h2⟩
    · exact h.elim
  · exact h.elim
def k_app (t sz bytes : Nat) (vals : List Value) (objs : List VObj) (top : Nat) (K : CK) : Prop :=
  match vals, objs with
  | [.slice none 0 _, y], objs => srcK sz y objs fun new m => req (decide (m * bytes ≤ 2 ^ 47 ∧ new.length = m * sz)) (∃ cs' n', new = cs' ∧ m = n' ∧ K (some (.slice (some ⟨top, 0, none⟩) n' sz)) (objs.map some) (some (.row true cs')))
  | [.slice (some ⟨b, o, none⟩) n sz', y], .row true cs :: objs => srcK sz y objs fun new m =>
      req (decide ((n + m) * bytes ≤ 2 ^ 47 ∧ o + n * sz ≤ cs.length ∧ sz = sz' ∧ new.length = m * sz) && new.all oneC && (addrBlk y).all (fun c => !Nat.beq b c))
        (∃ cs' n', (cs.drop o).take (n * sz) ++ new = cs' ∧ n + m = n' ∧ K (some (.slice (some ⟨top, 0, none⟩) n' sz)) (none :: objs.map some) (some (.row true cs')))
  | [.func (.method _) ⟨[.slice none 0 e]⟩ ⟨[]⟩, y], objs => srcK sz y objs fun new m => req (decide (m * bytes ≤ 2 ^ 47 ∧ new.length = m * sz ∧ sz = 1 ∧ e = t)) (∃ cs' n', new = cs' ∧ m = n' ∧ K (some (.func (.method "") ⟨[.slice (some ⟨top, 0, none⟩) n' 1]⟩ ⟨[]⟩)) (objs.map some) (some (.ty t cs')))
  | [.func (.method _) ⟨[.slice (some ⟨b, 0, none⟩) n 1]⟩ ⟨[]⟩, y], .ty e cs :: objs => srcK sz y objs fun new m =>
      req (decide ((n + m) * bytes ≤ 2 ^ 47 ∧ n ≤ cs.length ∧ sz = 1 ∧ e = t ∧ new.length = m) && new.all oneC && (addrBlk y).all (fun c => !Nat.beq b c))
        (∃ cs' n', cs.take n ++ new = cs' ∧ n + m = n' ∧ K (some (.func (.method "") ⟨[.slice (some ⟨top, 0, none⟩) n' 1]⟩ ⟨[]⟩)) (none :: objs.map some) (some (.ty t cs')))
  | _, _ => False
def k_ustr (t : Nat) (vals : List Value) (objs : List VObj) (K : CK) : Prop :=
  match vals, objs with
  | [.pointer none, .int .i64 0], [] => K (some (.string ⟨⟨[]⟩⟩)) [] none
  | [.func (.method _) ⟨[.slice (some ⟨_, 0, none⟩) n 1]⟩ ⟨[.bool true]⟩, .int .i64 m], [.ty e cs] => req (decide (e = t ∧ m = n ∧ n ≤ cs.length ∧ n < 2 ^ 63))
      (∃ bs, toBytes (cs.take n) = some bs ∧ K (some (.string ⟨⟨bs⟩⟩)) [some (.row false cs)] none)
  | _, _ => False
def k_nextS (vals : List Value) (objs : List VObj) (K : CK) : Prop :=
  match vals, objs with
  | [.pointer (some ⟨_, 0, none⟩)], [.siter s pos] =>
      br (decide (pos < s.size)) (K (some (.tuple #[.bool true, .int .i64 pos, .int .i32 (Utf8.decode s pos).1])) [some (.siter s (pos + (Utf8.decode s pos).2))] none)
        (K (some (.tuple #[.bool false])) [some (.siter s pos)] none)
  | _, _ => False
def coreK (op : VOp) (vals : List Value) (objs : List VObj) (top : Nat) (K : CK) : Prop :=
  match op with
  | .pick _ _ _ => k_pick vals objs K
  | .load1 _ _ => k_load1 vals objs K
  | .loadN ks _ => k_loadN ks.length vals objs K
  | .store n _ _ => k_store n vals objs K
  | .bin op _ _ => k_bin op vals objs K
  | .isNil k neg _ => k_isNil k neg vals objs K
  | .b2s _ => k_b2s vals objs K
  | .s2b _ => k_s2b vals objs top K
  | .mkSl sz bytes z _ _ => k_mkSl sz bytes z vals objs top K
  | .sliceS _ lo hi => k_sliceS lo.isSome hi.isSome vals objs K
  | .sliceL sz _ lo hi => k_sliceL sz lo.isSome hi.isSome vals objs K
  | .sliceA n sz _ lo hi => k_sliceA n sz lo.isSome hi.isSome vals objs K
  | .idxAA n sz _ _ => k_idxAA n sz vals objs K
  | .idxAL sz _ _ => k_idxAL sz vals objs K
  | .idxV1 n _ _ => k_idxV1 n vals objs K
  | .idxVN n sz _ _ => k_idxVN n sz vals objs K
  | .idxS _ _ => k_idxS vals objs K
  | .app t sz bytes _ _ => k_app t sz bytes vals objs top K
  | .ustr t _ _ => k_ustr t vals objs K
  | .build z ps => k_build z ps vals objs K
  | .buildSl len sz z ps => k_buildSl len sz z ps vals objs top K
  | .nextS _ => k_nextS vals objs K
  | op => optK (core op vals objs top) K
theorem k_pick_good {vals : List Value} {objs : List VObj} {K : CK} (h : k_pick vals objs K) : Good (c_pick vals objs) K := by
  unfold k_pick at h
  split at h
  · rename_i c _ _
    cases c
    · simp only [br, valK, forceV_eq] at h; exact ⟨_, _, _, rfl, h⟩
    · simp only [br, valK, forceV_eq] at h; exact ⟨_, _, _, rfl, h⟩
  · exact h.elim
theorem k_load1_good {vals : List Value} {objs : List VObj} {K : CK} (h : k_load1 vals objs K) : Good (c_load1 vals objs) K := by
  unfold k_load1 at h
  split at h
  · obtain ⟨v, h1, h2⟩ := rd.elim h; exact ⟨_, _, _, by simp only [c_load1, VObj.cs, h1], h2⟩
  · obtain ⟨v, h1, h2⟩ := rd.elim h; exact ⟨_, _, _, by simp only [c_load1, VObj.cs, h1], h2⟩
  · obtain ⟨v, h1, h2⟩ := rd.elim h; exact ⟨_, _, _, by simp only [c_load1, VObj.cs, h1], h2⟩
  · exact h.elim
theorem k_loadN_good {n : Nat} {vals : List Value} {objs : List VObj} {K : CK} (h : k_loadN n vals objs K) : Good (c_loadN n vals objs) K := by
  unfold k_loadN at h
  split at h
  · obtain ⟨h1, h2⟩ := req.elim h
    obtain ⟨_, h3⟩ := rdN.elim h2
    exact ⟨_, _, _, by simp only [c_loadN, VObj.cs, if_pos (of_decide_eq_true h1)], h3⟩
  · obtain ⟨h1, h2⟩ := req.elim h
    obtain ⟨_, h3⟩ := rdN.elim h2
    exact ⟨_, _, _, by simp only [c_loadN, VObj.cs, if_pos (of_decide_eq_true h1)], h3⟩
  · obtain ⟨h1, h2⟩ := req.elim h
    obtain ⟨_, h3⟩ := rdN.elim h2
    exact ⟨_, _, _, by simp only [c_loadN, VObj.cs, if_pos (of_decide_eq_true h1)], h3⟩
  · exact h.elim
theorem k_store_good {n : Nat} {vals : List Value} {objs : List VObj} {K : CK} (h : k_store n vals objs K) : Good (c_store n vals objs) K := by
  unfold k_store at h
  split at h
  · obtain ⟨h1, h2⟩ := req.elim h
    rw [forceL_eq] at h2
    simp only [Bool.and_eq_true, decide_eq_true_eq] at h1
    exact ⟨_, _, _, by simp only [c_store, VObj.cs, VObj.wr]; rw [if_pos ⟨h1.1.1, h1.1.2, h1.2⟩], h2⟩
  · obtain ⟨h1, h2⟩ := req.elim h
    rw [forceL_eq] at h2
    simp only [Bool.and_eq_true, decide_eq_true_eq] at h1
    exact ⟨_, _, _, by simp only [c_store, VObj.cs, VObj.wr]; rw [if_pos ⟨h1.1.1, h1.1.2, h1.2⟩], h2⟩
  · obtain ⟨h1, cs', rfl, h2⟩ := req.elim h
    simp only [Bool.and_eq_true, decide_eq_true_eq] at h1
    exact ⟨_, _, _, by simp only [c_store, VObj.cs, VObj.wr]; rw [if_pos ⟨h1.1.1, h1.1.2, h1.2⟩], h2⟩
  · exact h.elim
theorem k_bin_good {op : BinOp} {vals : List Value} {objs : List VObj} {K : CK} (h : k_bin op vals objs K) : Good (c_bin op vals objs) K := by
  unfold k_bin at h
  split at h
  · rename_i x y
    have key : ∀ v, binV op x y = some v → K (some v) [] none → Good (c_bin op [x, y] []) K := fun v h1 h2 => ⟨_, _, _, by simp only [c_bin, h1, val], h2⟩
    unfold binK at h
    split at h
    · split at h
      · obtain ⟨h1, h2⟩ := req.elim h
        exact key _ (by simp only [binV]; rw [if_pos (of_decide_eq_true h1)]) h2
      · obtain ⟨h1, h2⟩ := req.elim h
        exact key _ (by simp only [binV]; rw [if_pos (of_decide_eq_true h1)]) h2
      · obtain ⟨h1, h2⟩ := req.elim h
        simp only [Bool.and_eq_true, decide_eq_true_eq, Bool.not_eq_true', decide_eq_false_iff_not] at h1
        exact key _ (by simp only [binV]; rw [if_pos h1.1, if_neg h1.2]) h2
      · obtain ⟨h1, h2⟩ := req.elim h
        simp only [Bool.and_eq_true, decide_eq_true_eq, Bool.not_eq_true', decide_eq_false_iff_not] at h1
        exact key _ (by simp only [binV]; rw [if_pos h1.1, if_neg h1.2]) h2
      · exact h.good
    · split at h
      · obtain ⟨h1, h2⟩ := req.elim h
        exact key _ (by simp only [binV]; rw [if_pos (of_decide_eq_true h1)]) h2
      · exact h.good
    · exact h.elim
  · exact h.elim
theorem k_isNil_good {k : Nat} {neg : Bool} {vals : List Value} {objs : List VObj} {K : CK} (h : k_isNil k neg vals objs K) : Good (c_isNil k neg vals objs) K := by
  unfold k_isNil at h
  split at h
  · rename_i n _
    obtain ⟨h1, h2⟩ := req.elim h
    cases n with
    | zero => simp at h1
    | succ n => exact ⟨_, _, _, by simp only [c_isNil, nilV, val]; cases neg <;> rfl, h2⟩
  · exact h.good
theorem k_b2s_good {vals : List Value} {objs : List VObj} {K : CK} (h : k_b2s vals objs K) : Good (c_b2s vals objs) K := by
  unfold k_b2s at h
  split at h
  · exact ⟨_, _, _, rfl, h⟩
  · split at h
    · rename_i cs hcs
      obtain ⟨h1, bs, h2, h3⟩ := req.elim h
      exact ⟨_, _, _, by simp only [c_b2s, hcs]; rw [if_pos (of_decide_eq_true h1)]; simp only [h2], h3⟩
    · exact h.elim
  · exact h.elim
theorem k_s2b_good {vals : List Value} {objs : List VObj} {top : Nat} {K : CK} (h : k_s2b vals objs top K) : Good (c_s2b vals objs top) K := by
  unfold k_s2b at h
  split at h
  · obtain ⟨cs', rfl, h⟩ := h; exact ⟨_, _, _, rfl, h⟩
  · exact h.elim
theorem k_mkSl_good {sz bytes : Nat} {z : List Value} {vals : List Value} {objs : List VObj} {top : Nat} {K : CK} (h : k_mkSl sz bytes z vals objs top K) : Good (c_mkSl sz bytes z vals objs top) K := by
  unfold k_mkSl at h
  split at h
  · obtain ⟨h1, cs', rfl, h2⟩ := req.elim h
    exact ⟨_, _, _, by simp only [c_mkSl]; rw [if_pos (of_decide_eq_true h1)], h2⟩
  · exact h.elim
theorem k_sliceS_good {bl bh : Bool} {vals : List Value} {objs : List VObj} {K : CK} (h : k_sliceS bl bh vals objs K) : Good (c_sliceS bl bh vals objs) K := by
  unfold k_sliceS at h
  split at h
  · obtain ⟨l, u, h1, h2⟩ := loHiK.elim h
    exact ⟨_, _, _, by simp only [c_sliceS, h1, val], h2⟩
  · exact h.elim
theorem k_sliceL_good {sz : Nat} {bl bh : Bool} {vals : List Value} {objs : List VObj} {K : CK} (h : k_sliceL sz bl bh vals objs K) : Good (c_sliceL sz bl bh vals objs) K := by
  unfold k_sliceL at h
  split at h
  · obtain ⟨l, u, h1, h2⟩ := loHiK.elim h
    exact ⟨_, _, _, by simp only [c_sliceL, h1, val], h2⟩
  · obtain ⟨h0, h⟩ := req.elim h
    obtain ⟨l, u, h1, h2⟩ := loHiK.elim h
    exact ⟨_, _, _, by simp only [c_sliceL]; rw [if_pos (Nat.eq_of_beq_eq_true h0)]; simp only [h1, val], h2⟩
  · exact h.elim
theorem k_sliceA_good {n sz : Nat} {bl bh : Bool} {vals : List Value} {objs : List VObj} {K : CK} (h : k_sliceA n sz bl bh vals objs K) : Good (c_sliceA n sz bl bh vals objs) K := by
  unfold k_sliceA at h
  split at h
  · split at h
    · rename_i cs hcs
      obtain ⟨h0, h⟩ := req.elim h
      obtain ⟨l, u, h1, h2⟩ := loHiK.elim h
      exact ⟨_, _, _, by simp only [c_sliceA, hcs]; rw [if_pos (of_decide_eq_true h0)]; simp only [h1], h2⟩
    · exact h.elim
  · exact h.elim
theorem k_idxAA_good {n sz : Nat} {vals : List Value} {objs : List VObj} {K : CK} (h : k_idxAA n sz vals objs K) : Good (c_idxAA n sz vals objs) K := by
  unfold k_idxAA at h
  split at h
  · obtain ⟨h1, h2⟩ := req.elim h
    exact ⟨_, _, _, by simp only [c_idxAA, val]; rw [if_pos (of_decide_eq_true h1)], h2⟩
  · exact h.elim
theorem k_idxAL_good {sz : Nat} {vals : List Value} {objs : List VObj} {K : CK} (h : k_idxAL sz vals objs K) : Good (c_idxAL sz vals objs) K := by
  unfold k_idxAL at h
  split at h
  · obtain ⟨h1, h2⟩ := req.elim h
    exact ⟨_, _, _, by simp only [c_idxAL, val]; rw [if_pos (of_decide_eq_true h1)], h2⟩
  · exact h.elim
theorem k_idxV1_good {n : Nat} {vals : List Value} {objs : List VObj} {K : CK} (h : k_idxV1 n vals objs K) : Good (c_idxV1 n vals objs) K := by
  unfold k_idxV1 at h
  split at h
  · obtain ⟨h1, h2⟩ := req.elim h
    obtain ⟨v, h3, h4⟩ := rd.elim h2
    exact ⟨_, _, _, by simp only [c_idxV1]; rw [if_pos (of_decide_eq_true h1)]; simp only [h3, val], h4⟩
  · exact h.elim
theorem k_idxVN_good {n sz : Nat} {vals : List Value} {objs : List VObj} {K : CK} (h : k_idxVN n sz vals objs K) : Good (c_idxVN n sz vals objs) K := by
  unfold k_idxVN at h
  split at h
  · obtain ⟨h1, h2⟩ := req.elim h
    obtain ⟨_, h3⟩ := rdN.elim h2
    exact ⟨_, _, _, by simp only [c_idxVN, val]; rw [if_pos (of_decide_eq_true h1)], h3⟩
  · exact h.elim
theorem k_idxS_good {vals : List Value} {objs : List VObj} {K : CK} (h : k_idxS vals objs K) : Good (c_idxS vals objs) K := by
  unfold k_idxS at h
  split at h
  · obtain ⟨h1, h2⟩ := req.elim h
    obtain ⟨v, h3, h4⟩ := rdS.elim h2
    exact ⟨_, _, _, by simp only [c_idxS]; rw [if_pos (of_decide_eq_true h1)]; simp only [h3, val], h4⟩
  · exact h.elim
theorem k_ustr_good {t : Nat} {vals : List Value} {objs : List VObj} {K : CK} (h : k_ustr t vals objs K) : Good (c_ustr t vals objs) K := by
  unfold k_ustr at h
  split at h
  · exact ⟨_, _, _, rfl, h⟩
  · obtain ⟨h1, bs, h2, h3⟩ := req.elim h
    exact ⟨_, _, _, by simp only [c_ustr]; rw [if_pos (of_decide_eq_true h1)]; simp only [h2], h3⟩
  · exact h.elim
theorem k_app_good {t sz bytes : Nat} {vals : List Value} {objs : List VObj} {top : Nat} {K : CK} (h : k_app t sz bytes vals objs top K) : Good (c_app t sz bytes vals objs top) K := by
  unfold k_app at h
  split at h
  · obtain ⟨c, m, h1, h2, h3⟩ := srcK.elim h
    obtain ⟨h4, cs', n', rfl, rfl, h5⟩ := req.elim h3
    exact ⟨_, _, _, by simp only [c_app, h1, h2]; rw [if_pos (of_decide_eq_true h4)], h5⟩
  · obtain ⟨c, m, h1, h2, h3⟩ := srcK.elim h
    obtain ⟨h4, cs', n', rfl, rfl, h5⟩ := req.elim h3
    simp only [Bool.and_eq_true, decide_eq_true_eq] at h4
    exact ⟨_, _, _, by simp only [c_app, h1, h2]; rw [if_pos ⟨h4.1.1.1, h4.1.1.2.1, h4.1.1.2.2.1, h4.1.1.2.2.2, h4.1.2, h4.2⟩], h5⟩
  · obtain ⟨c, m, h1, h2, h3⟩ := srcK.elim h
    obtain ⟨h4, cs', n', rfl, rfl, h5⟩ := req.elim h3
    exact ⟨_, _, _, by simp only [c_app, h1, h2, bSl]; rw [if_pos (of_decide_eq_true h4)], h5⟩
  · obtain ⟨c, m, h1, h2, h3⟩ := srcK.elim h
    obtain ⟨h4, cs', n', rfl, rfl, h5⟩ := req.elim h3
    simp only [Bool.and_eq_true, decide_eq_true_eq] at h4
    exact ⟨_, _, _, by simp only [c_app, h1, h2, bSl]; rw [if_pos ⟨h4.1.1.1, h4.1.1.2.1, h4.1.1.2.2.1, h4.1.1.2.2.2.1, h4.1.1.2.2.2.2, h4.1.2, h4.2⟩], h5⟩
  · exact h.elim
theorem k_nextS_good {vals : List Value} {objs : List VObj} {K : CK} (h : k_nextS vals objs K) : Good (c_nextS vals objs) K := by
  unfold k_nextS at h
  split at h
  · rename_i s pos
    cases hb : decide (pos < s.size) with
    | true => rw [hb] at h; exact ⟨_, _, _, by simp only [c_nextS]; rw [if_pos (of_decide_eq_true hb)], h⟩
    | false => rw [hb] at h; exact ⟨_, _, _, by simp only [c_nextS]; rw [if_neg (of_decide_eq_false hb)], h⟩
  · exact h.elim
theorem coreK.good {op : VOp} {vals : List Value} {objs : List VObj} {top : Nat} {K : CK} (h : coreK op vals objs top K) : Good (core op vals objs top) K := by
  cases op with
  | pick => exact k_pick_good h
  | load1 => exact k_load1_good h
  | loadN => exact k_loadN_good h
  | store => exact k_store_good h
  | bin => exact k_bin_good h
  | isNil => exact k_isNil_good h
  | b2s => exact k_b2s_good h
  | s2b => exact k_s2b_good h
  | mkSl => exact k_mkSl_good h
  | sliceS => exact k_sliceS_good h
  | sliceL => exact k_sliceL_good h
  | sliceA => exact k_sliceA_good h
  | idxAA => exact k_idxAA_good h
  | idxAL => exact k_idxAL_good h
  | idxV1 => exact k_idxV1_good h
  | idxVN => exact k_idxVN_good h
  | idxS => exact k_idxS_good h
  | app => exact k_app_good h
  | ustr => exact k_ustr_good h
  | build => exact k_build_good h
  | buildSl => exact k_buildSl_good h
  | nextS => exact k_nextS_good h
  | _ => exact optK.good h
def aputsK (h : Hp) (is : List Nat) (os : List (Option VObj)) (K : Hp → Prop) : Prop :=
  match is, os with
  | i :: is, some o :: os => aputK h i o fun h' => aputsK h' is os K
  | i :: is, none :: os => adelK h i fun h' => aputsK h' is os K
  | _, _ => K h
theorem aputsK_eq : ∀ (is : List Nat) (os : List (Option VObj)) (h : Hp) (K : Hp → Prop), aputsK h is os K = K (aputs h is os)
  | [], _, h, K => by simp [aputsK, aputs]
  | i :: is, [], h, K => by simp [aputsK, aputs]
  | i :: is, some o :: os, h, K => by rw [aputsK, aputK_eq, aputsK_eq is os]; simp [aputs]
  | i :: is, none :: os, h, K => by rw [aputsK, adelK_eq, aputsK_eq is os]; simp [aputs]
def opK (op : VOp) (vals : List Value) (h : Hp) (top : Nat) (K : Option Value → Hp → Nat → Prop) : Prop :=
  match agets h (needs op vals) with
  | none => False
  | some objs => coreK op vals objs top fun v os fr => aputsK h (needs op vals) os fun h' => match fr with
    | none => K v h' top
    | some o => aputK h' top o fun h'' => K v h'' (top + 1)
theorem opK.elim {op : VOp} {vals : List Value} {h : Hp} {top : Nat} {K : Option Value → Hp → Nat → Prop} (hk : opK op vals h top K) : ∃ v h' top', opRun op vals h top = some (v, h', top') ∧ K v h' top' := by
  unfold opK at hk
  split at hk
  · exact hk.elim
  · rename_i objs hobjs
    obtain ⟨v, os, fr, hc, hk⟩ := hk.good
    rw [aputsK_eq] at hk
    cases fr with
    | none => exact ⟨v, _, _, by simp only [opRun, hobjs, hc], hk⟩
    | some o => simp only [aputK_eq] at hk; exact ⟨v, _, _, by simp only [opRun, hobjs, hc], hk⟩
def putK (n : Nat) (e : Env) (d : Option Nat) (v : Value) (K : Env → Prop) : Prop :=
  match d with
  | some i => cond (Nat.blt i n) (aputK e i v K) (K e)
  | none => K e
theorem putK_eq (n : Nat) (e : Env) (d : Option Nat) (v : Value) (K : Env → Prop) : putK n e d v K = K (putD n e d v) := by
  cases d with
  | none => rfl
  | some i => simp only [putK, putD]; cases Nat.blt i n <;> simp [aputK_eq]
def enumK (i : Nat) (vs : List Value) (K : Env → Prop) : Prop :=
  match vs with
  | [] => K []
  | v :: vs => enumK (i + 1) vs fun e => K ((i, v) :: e)
theorem enumK_eq : ∀ (vs : List Value) (i : Nat) (K : Env → Prop), enumK i vs K = K (enumEnv i vs)
  | [], _, _ => rfl
  | v :: vs, i, K => by rw [enumK, enumK_eq vs]; rfl
def enterK (F : Fns) (f : Nat) (args : List Value) (K : VFrame → Prop) : Prop :=
  match F f with
  | some ⟨nt, body, _⟩ => cond (Nat.ble args.length nt) (enumK 0 args fun e => K ⟨f, nt, e, [.code body], [], false, none⟩) False
  | none => False
theorem enterK.elim {F : Fns} {f : Nat} {args : List Value} {K : VFrame → Prop} (h : enterK F f args K) : ∃ c, enterF F f args = some c ∧ K c := by
  unfold enterK at h
  split at h
  · rename_i nt body rs hf
    cases hb : Nat.ble args.length nt with
    | false => rw [hb] at h; exact h.elim
    | true =>
      rw [hb, cond_true, enumK_eq] at h
      exact ⟨_, by simp only [enterF, hf]; rw [if_pos (Nat.le_of_ble_eq_true hb)], h⟩
  · exact h.elim
def finishK (u : VFrame) (v : Value) (K : VFrame → Prop) : Prop :=
  match u with
  | ⟨fn, nt, env, .inReg (⟨dst, _, _⟩ :: rest) :: k, defers, ret, round⟩ => putK nt env dst v fun e => K ⟨fn, nt, e, .inReg rest :: k, defers, ret, round⟩
  | ⟨fn, nt, env, .inRangeFunc l :: k, defers, ret, round⟩ => K ⟨fn, nt, env, .endRangeFunc l :: k, defers, ret, round⟩
  | _ => False
theorem finishK.elim {u : VFrame} {v : Value} {K : VFrame → Prop} (h : finishK u v K) : ∃ u', finish u v = some u' ∧ K u' := by
  unfold finishK at h
  split at h
  · rw [putK_eq] at h; exact ⟨_, rfl, h⟩
  · exact ⟨_, rfl, h⟩
  · exact h.elim
def resK (e : Env) (h : Hp) (rs : List VRes) (K : List Value → Prop) : Prop :=
  match rs with
  | [] => K []
  | .tmp t :: rs => match aget e t with
    | some v => resK e h rs fun vs => K (v :: vs)
    | none => False
  | .cell t ks agg :: rs => match aget e t with
    | some (.pointer (some ⟨b, o, none⟩)) => match aget h b with
      | some ob => match ob.cs with
        | some cs => cond agg (req (decide (o + ks.length ≤ cs.length)) (rdN cs o ks.length fun l => resK e h rs fun vs => K (.agg ⟨l⟩ :: vs))) (rd cs o fun v => resK e h rs fun vs => K (v :: vs))
        | none => False
      | none => False
    | _ => False
theorem resK.elim {e : Env} {h : Hp} : ∀ {rs : List VRes} {K : List Value → Prop}, resK e h rs K → ∃ vs, resVs e h rs = some vs ∧ K vs
  | [], K, hk => ⟨[], rfl, hk⟩
  | .tmp t :: rs, K, hk => by
    simp only [resK] at hk
    split at hk
    · rename_i v hv
      obtain ⟨vs, h1, h2⟩ := resK.elim hk
      exact ⟨v :: vs, by simp only [resVs, resV, hv, h1], h2⟩
    · exact hk.elim
  | .cell t ks agg :: rs, K, hk => by
    simp only [resK] at hk
    split at hk
    · rename_i b o hp
      split at hk
      · rename_i ob hob
        split at hk
        · rename_i cs hcs
          cases agg with
          | true =>
            obtain ⟨h1, h2⟩ := req.elim hk
            obtain ⟨_, h3⟩ := rdN.elim h2
            obtain ⟨vs, h4, h5⟩ := resK.elim h3
            exact ⟨_, by simp only [resVs, resV, hp, hob, hcs, ↓reduceIte, if_pos (of_decide_eq_true h1), h4], h5⟩
          | false =>
            obtain ⟨v, h1, h2⟩ := rd.elim hk
            obtain ⟨vs, h4, h5⟩ := resK.elim h2
            exact ⟨_, by simp only [resVs, resV, hp, hob, hcs, Bool.false_eq_true, ↓reduceIte, h1, h4], h5⟩
        · exact hk.elim
      · exact hk.elim
    · exact hk.elim
def forceO (o : VObj) (K : VObj → Prop) : Prop :=
  match o with
  | .cells cs => K (.cells cs)
  | .row own cs => K (.row own cs)
  | .ty t cs => K (.ty t cs)
  | .siter s p => K (.siter s p)
  | .loop l => K (.loop l)
  | .marks => K .marks
theorem forceO_eq (o : VObj) (K : VObj → Prop) : forceO o K = K o := by cases o <;> rfl
def forceH (h : Hp) (K : Hp → Prop) : Prop :=
  match h with
  | [] => K []
  | (i, o) :: l => forceO o fun o => forceH l fun l => K ((i, o) :: l)
theorem forceH_eq : ∀ (h : Hp) (K : Hp → Prop), forceH h K = K h
  | [], K => rfl
  | (i, o) :: l, K => by rw [forceH, forceO_eq, forceH_eq l]
def sumK (s : Summ) (vals : List Value) (h : Hp) (top : Nat) (K : Value → Hp → Nat → Prop) : Prop :=
  match sumRun s vals h top with
  | some (v, h', top') => forceV v fun v => forceH h' fun h' => K v h' top'
  | none => False
theorem sumK.elim {s : Summ} {vals : List Value} {h : Hp} {top : Nat} {K : Value → Hp → Nat → Prop} (hk : sumK s vals h top K) : ∃ v h' top', sumRun s vals h top = some (v, h', top') ∧ K v h' top' := by
  unfold sumK at hk
  split at hk
  · rw [forceV_eq, forceH_eq] at hk; exact ⟨_, _, _, by assumption, hk⟩
  · exact hk.elim
def stepOpK (F : Fns) (S : Sums) (o : VOper) (rest : List VOper) (k : List VItem) (fn nt : Nat) (env : Env) (defers : List Nat) (round : Option Nat) (up : List VFrame) (h : Hp) (top : Nat) (K : VM → Prop) : Prop :=
  match o with
  | ⟨dst, op, g⟩ => match evalL env op.ops with
    | none => False
    | some vals => match op with
      | .callF f _ => match S f with
        | some s => sumK s vals h top fun v h' top' => putK nt env dst v fun e => K ⟨⟨fn, nt, e, .inReg rest :: k, defers, false, round⟩, up, h', top'⟩
        | none => enterK F f vals fun c => K ⟨c, ⟨fn, nt, env, .inReg (⟨dst, op, g⟩ :: rest) :: k, defers, false, round⟩ :: up, h, top⟩
      | .callV _ _ => match vals with
        | .func (.func f) ⟨first⟩ ⟨caps⟩ :: args => match S f with
          | some s => sumK s (first ++ args ++ caps) h top fun v h' top' => putK nt env dst v fun e => K ⟨⟨fn, nt, e, .inReg rest :: k, defers, false, round⟩, up, h', top'⟩
          | none => enterK F f (first ++ args ++ caps) fun c => K ⟨c, ⟨fn, nt, env, .inReg (⟨dst, op, g⟩ :: rest) :: k, defers, false, round⟩ :: up, h, top⟩
        | .func (.yield l) ⟨[]⟩ ⟨[]⟩ :: args => match callRound l args h with
          | some c => K ⟨c, ⟨fn, nt, env, .inReg (⟨dst, op, g⟩ :: rest) :: k, defers, false, round⟩ :: up, h, top⟩
          | none => False
        | _ => False
      | op => opK op vals h top fun v h' top' => match v with
        | some v => putK nt env dst v fun e => K ⟨⟨fn, nt, e, .inReg rest :: k, defers, false, round⟩, up, h', top'⟩
        | none => putK nt env dst undefV fun e => K ⟨⟨fn, nt, e, .inReg rest :: k, defers, false, round⟩, up, h', top'⟩
theorem stepOpK.elim {F : Fns} {S : Sums} {o : VOper} {rest : List VOper} {k : List VItem} {fn nt : Nat} {env : Env} {todo : List VItem} {defers : List Nat} {round : Option Nat} {up : List VFrame} {h : Hp} {top : Nat} {K : VM → Prop}
    (hk : stepOpK F S o rest k fn nt env defers round up h top K) : ∃ vm', stepOp F S o rest k ⟨fn, nt, env, todo, defers, false, round⟩ up h top = some vm' ∧ K vm' := by
  obtain ⟨dst, op, g⟩ := o
  unfold stepOpK at hk
  unfold stepOp
  simp only at hk ⊢
  split at hk
  · exact hk.elim
  · rename_i vals hv
    simp only [hv]
    split at hk
    · rename_i f xs
      split at hk
      · rename_i s hs
        obtain ⟨v, h', top', h1, h2⟩ := hk.elim
        rw [putK_eq] at h2
        exact ⟨_, by simp only [hs, h1], h2⟩
      · rename_i hs
        obtain ⟨c, h1, h2⟩ := hk.elim
        exact ⟨_, by simp only [hs, h1], h2⟩
    · split at hk
      · split at hk
        · rename_i s hs
          obtain ⟨v, h', top', h1, h2⟩ := hk.elim
          rw [putK_eq] at h2
          exact ⟨_, by simp only [hs, h1], h2⟩
        · rename_i hs
          obtain ⟨c, h1, h2⟩ := hk.elim
          exact ⟨_, by simp only [hs, h1], h2⟩
      · split at hk
        · rename_i c hc
          exact ⟨_, by simp only [hc], hk⟩
        · exact hk.elim
      · exact hk.elim
    · rename_i hne1 hne2
      obtain ⟨v, h', top', h1, h2⟩ := hk.elim
      refine ⟨⟨⟨fn, nt, putD nt env dst (v.getD undefV), .inReg rest :: k, defers, false, round⟩, up, h', top'⟩, ?_, ?_⟩
      · split
        · exact absurd rfl (hne1 _ _)
        · exact absurd rfl (hne2 _ _)
        · simp only [h1]
      · cases v with
        | none => simp only [putK_eq] at h2; exact h2
        | some v => simp only [putK_eq] at h2; exact h2
def setBK (e : Env) (d : Nat) (x : Bool) (K : Env → Prop) : Prop :=
  match e with
  | [] => K []
  | (i, v) :: l => cond (Nat.beq i d) (K ((i, .bool x) :: l)) (setBK l d x fun l' => K ((i, v) :: l'))
theorem setBK_eq : ∀ {e : Env} {d : Nat} {x : Bool} {K : Env → Prop}, aget e d = some (.bool x) → setBK e d x K = K e
  | [], d, x, K, h => rfl
  | (i, v) :: l, d, x, K, h => by
    simp only [aget] at h
    simp only [setBK]
    cases hb : Nat.beq i d with
    | true => rw [hb, cond_true, Option.some.injEq] at h; subst h; rfl
    | false => rw [hb, cond_false] at h; simp only [cond_false]; rw [setBK_eq h]
def leaveRoundK (l : Nat) (jump : Option VC) (up : List VFrame) (h : Hp) (top : Nat) (K : VM → Prop) : Prop :=
  match leaveRound l jump up h top with
  | some ⟨u, us, h', top'⟩ => K ⟨u, us, h', top'⟩
  | none => False
theorem leaveRoundK.elim {l : Nat} {jump : Option VC} {up : List VFrame} {h : Hp} {top : Nat} {K : VM → Prop} (hk : leaveRoundK l jump up h top K) : ∃ vm', leaveRound l jump up h top = some vm' ∧ K vm' := by
  unfold leaveRoundK at hk
  split at hk
  · exact ⟨_, by assumption, hk⟩
  · exact hk.elim
def forceNL (l : List Nat) (K : List Nat → Prop) : Prop :=
  match l with
  | [] => K []
  | n :: l => forceNL l (fun l' => K (n :: l'))
theorem forceNL_eq : ∀ (l : List Nat) (K : List Nat → Prop), forceNL l K = K l
  | [], _ => rfl
  | v :: l, K => by rw [forceNL, forceNL_eq l]
def stepDK (S : Sums) (nt : Nat) (o : VOper) (e : Env) (h : Hp) (m : Nat) (K : Env → Hp → Nat → List Nat → List Nat → Prop) : Prop :=
  match o with
  | ⟨dst, op, _⟩ => match evalL e op.ops with
    | none => False
    | some vals => match op with
      | .callF f _ => match S f with
        | some s => sumK s vals h m fun v h' m' => putK nt e dst v fun e => forceNL (winBlks (winL h s.modes vals)) fun r => forceNL (winWr (winL h s.modes vals)) fun w => K e h' m' r w
        | none => False
      | .callV _ _ => match vals with
        | .func (.func f) ⟨first⟩ ⟨caps⟩ :: args => match S f with
          | some s => sumK s (first ++ args ++ caps) h m fun v h' m' => putK nt e dst v fun e => forceNL (winBlks (winL h s.modes (first ++ args ++ caps))) fun r => forceNL (winWr (winL h s.modes (first ++ args ++ caps))) fun w => K e h' m' r w
          | none => False
        | _ => False
      | op => opK op vals h m fun v h' m' => match v with
        | some v => putK nt e dst v fun e => K e h' m' (needs op vals) (cond (wrOp op) (needs op vals) [])
        | none => putK nt e dst undefV fun e => K e h' m' (needs op vals) (cond (wrOp op) (needs op vals) [])
theorem stepDK.elim {S : Sums} {nt : Nat} {o : VOper} {e : Env} {h : Hp} {m : Nat} {K : Env → Hp → Nat → List Nat → List Nat → Prop} (hk : stepDK S nt o e h m K) (hw : wantedV e o.g = some true) :
    ∃ e' h' m' r w, stepD S nt o e h m = some (e', h', m', r, w) ∧ K e' h' m' r w := by
  obtain ⟨dst, op, g⟩ := o
  unfold stepDK at hk
  simp only at hk hw
  unfold stepD
  simp only [hw]
  split at hk
  · exact hk.elim
  · rename_i vals hv
    simp only [hv]
    split at hk
    · split at hk
      · rename_i s hs
        obtain ⟨v, h', m', h1, h2⟩ := hk.elim
        rw [putK_eq, forceNL_eq, forceNL_eq] at h2
        exact ⟨_, _, _, _, _, by simp only [hs, h1], h2⟩
      · exact hk.elim
    · split at hk
      · split at hk
        · rename_i s hs
          obtain ⟨v, h', m', h1, h2⟩ := hk.elim
          rw [putK_eq, forceNL_eq, forceNL_eq] at h2
          exact ⟨_, _, _, _, _, by simp only [hs, h1], h2⟩
        · exact hk.elim
      · exact hk.elim
    · rename_i hne1 hne2
      obtain ⟨v, h', m', h1, h2⟩ := hk.elim
      refine ⟨putD nt e dst (v.getD undefV), h', m', needs op vals, cond (wrOp op) (needs op vals) [], ?_, ?_⟩
      · split
        · exact absurd rfl (hne1 _ _)
        · exact absurd rfl (hne2 _ _)
        · simp only [h1]
      · cases v with
        | none => simp only [putK_eq] at h2; exact h2
        | some v => simp only [putK_eq] at h2; exact h2
def stepGK (S : Sums) (nt : Nat) (o : VOper) (e : Env) (h : Hp) (m : Nat) (K : Env → Hp → Nat → List Nat → List Nat → Prop) : Prop :=
  match o with
  | ⟨dst, op, none⟩ => stepDK S nt ⟨dst, op, none⟩ e h m K
  | ⟨dst, op, some (d, x)⟩ => match aget e d with
    | some (.bool b) => cond x
        (br b (setBK e d true fun e => stepDK S nt ⟨dst, op, some (d, x)⟩ e h m K) (setBK e d false fun e => putK nt e dst undefV fun e => K e h m [] []))
        (br b (setBK e d true fun e => putK nt e dst undefV fun e => K e h m [] []) (setBK e d false fun e => stepDK S nt ⟨dst, op, some (d, x)⟩ e h m K))
    | some (.tuple ⟨[]⟩) => putK nt e dst undefV fun e => K e h m [] []
    | _ => False
def regDK (S : Sums) (nt : Nat) (os : List VOper) (e : Env) (h : Hp) (m : Nat) (K : List Fp → Env → Hp → Nat → Prop) : Prop :=
  match os with
  | [] => K [] e h m
  | o :: os => stepGK S nt o e h m fun e1 h1 m1 r w => regDK S nt os e1 h1 (m1 + 1) fun fps e h m' => K ((r, w ++ List.range' m (m1 - m)) :: fps) e h m'
theorem br.cases {b : Bool} {p q : Prop} (h : br b p q) : (b = true ∧ p) ∨ (b = false ∧ q) := by cases b; exact .inr ⟨rfl, h⟩; exact .inl ⟨rfl, h⟩
theorem stepGK.elim {S : Sums} {nt : Nat} {o : VOper} {e : Env} {h : Hp} {m : Nat} {K : Env → Hp → Nat → List Nat → List Nat → Prop} (hk : stepGK S nt o e h m K) :
    ∃ e' h' m' r w, stepD S nt o e h m = some (e', h', m', r, w) ∧ K e' h' m' r w := by
  obtain ⟨dst, op, g⟩ := o
  cases g with
  | none => exact stepDK.elim (o := ⟨dst, op, none⟩) hk rfl
  | some p =>
    obtain ⟨d, x⟩ := p
    simp only [stepGK] at hk
    have skip : wantedV e (some (d, x)) = some false → (putK nt e dst undefV fun e => K e h m [] []) → ∃ e' h' m' r w, stepD S nt ⟨dst, op, some (d, x)⟩ e h m = some (e', h', m', r, w) ∧ K e' h' m' r w := fun hw hk => by
      rw [putK_eq] at hk
      exact ⟨_, _, _, _, _, by simp only [stepD, hw], hk⟩
    split at hk
    · rename_i b hb
      cases x with
      | true =>
        rw [cond_true] at hk
        rcases hk.cases with ⟨rfl, hk⟩ | ⟨rfl, hk⟩ <;> rw [setBK_eq hb] at hk
        · exact stepDK.elim (show stepDK S nt ⟨dst, op, some (d, true)⟩ e h m K from hk) (by simp [wantedV, hb])
        · exact skip (by simp [wantedV, hb]) hk
      | false =>
        rw [cond_false] at hk
        rcases hk.cases with ⟨rfl, hk⟩ | ⟨rfl, hk⟩ <;> rw [setBK_eq hb] at hk
        · exact skip (by simp [wantedV, hb]) hk
        · exact stepDK.elim (show stepDK S nt ⟨dst, op, some (d, false)⟩ e h m K from hk) (by simp [wantedV, hb])
    · rename_i hb
      exact skip (by simp [wantedV, hb]) hk
    · exact hk.elim
theorem regDK.elim {S : Sums} {nt : Nat} : ∀ {os : List VOper} {e : Env} {h : Hp} {m : Nat} {K : List Fp → Env → Hp → Nat → Prop}, regDK S nt os e h m K → ∃ fps e' h' m', runD S nt os e h m = some (fps, e', h', m') ∧ K fps e' h' m'
  | [], e, h, m, K, hk => ⟨_, _, _, _, rfl, hk⟩
  | o :: os, e, h, m, K, hk => by
    simp only [regDK] at hk
    obtain ⟨e1, h1, m1, r, w, g1, g2⟩ := hk.elim
    obtain ⟨fps, e', h', m', k1, k2⟩ := regDK.elim g2
    exact ⟨_, _, _, _, by simp only [runD, g1, k1], k2⟩
def evStep (F : Fns) (S : Sums) (f : Nat) (lp : Bool) (L : VM → Prop) (E : Value → Hp → Nat → Prop) (K : VM → Prop) : VM → Prop
  | ⟨⟨fn, nt, env, todo, defers, ret, round⟩, up, h, top⟩ =>
    match ret with
    | true => match defers with
      | r :: ds => match aget h r with
        | some .marks => adelK h r fun h' => K ⟨⟨fn, nt, env, todo, ds, true, round⟩, up, h', top⟩
        | _ => False
      | [] => match F fn with
        | some ⟨_, _, rs⟩ => resK env h rs fun vs => match up with
          | u :: us => forceV (tupV vs) fun v => finishK u v fun u' => K ⟨u', us, h, top⟩
          | [] => cond (Nat.beq fn f) (forceV (tupV vs) fun v => E v h top) False
        | none => False
    | false => match todo with
      | [] => match round with
        | none => K ⟨⟨fn, nt, env, [], defers, true, none⟩, up, h, top⟩
        | some l => leaveRoundK l none up h top K
      | .code .ret :: k => match round with
        | none => K ⟨⟨fn, nt, env, .code .ret :: k, defers, true, none⟩, up, h, top⟩
        | some l => leaveRoundK l (some .ret) up h top K
      | .code .skip :: k => K ⟨⟨fn, nt, env, k, defers, false, round⟩, up, h, top⟩
      | .inBlock _ :: k => K ⟨⟨fn, nt, env, k, defers, false, round⟩, up, h, top⟩
      | .code (.seq a b) :: k => K ⟨⟨fn, nt, env, .code a :: .code b :: k, defers, false, round⟩, up, h, top⟩
      | .code (.cond c a b) :: k => match evalO env c with
        | some (.bool x) => br x (K ⟨⟨fn, nt, env, .code a :: k, defers, false, round⟩, up, h, top⟩) (K ⟨⟨fn, nt, env, .code b :: k, defers, false, round⟩, up, h, top⟩)
        | _ => False
      | .code (.block id b) :: k => K ⟨⟨fn, nt, env, .code b :: .inBlock id :: k, defers, false, round⟩, up, h, top⟩
      | .code (.loop b) :: k => cond lp (L ⟨⟨fn, nt, env, .code b :: .inLoop b :: k, defers, false, round⟩, up, h, top⟩) (K ⟨⟨fn, nt, env, .code b :: .inLoop b :: k, defers, false, round⟩, up, h, top⟩)
      | .inLoop b :: k => cond lp (L ⟨⟨fn, nt, env, .code b :: .inLoop b :: k, defers, false, round⟩, up, h, top⟩) (K ⟨⟨fn, nt, env, .code b :: .inLoop b :: k, defers, false, round⟩, up, h, top⟩)
      | .code (.exit id) :: k => match exitTo id k with
        | some k' => K ⟨⟨fn, nt, env, k', defers, false, round⟩, up, h, top⟩
        | none => match round with
          | none => False
          | some l => leaveRoundK l (some (.exit id)) up h top K
      | .code (.reg ops) :: k => K ⟨⟨fn, nt, env, .inReg ops :: k, defers, false, round⟩, up, h, top⟩
      | .code .stuck :: _ => False
      | .code (.regD ops ord post) :: k => regDK S nt ops env h top fun fps e h m => req (okPairs fps ord) (K ⟨⟨fn, nt, e, .inReg post :: k, defers, false, round⟩, up, h, m⟩)
      | .inReg [] :: k => K ⟨⟨fn, nt, env, k, defers, false, round⟩, up, h, top⟩
      | .inReg (⟨dst, op, none⟩ :: rest) :: k => stepOpK F S ⟨dst, op, none⟩ rest k fn nt env defers round up h top K
      | .inReg (⟨dst, op, some (d, w)⟩ :: rest) :: k => match aget env d with
        | some (.bool b) => cond w
            (br b (setBK env d true fun env => stepOpK F S ⟨dst, op, some (d, w)⟩ rest k fn nt env defers round up h top K) (setBK env d false fun env => putK nt env dst undefV fun e => K ⟨⟨fn, nt, e, .inReg rest :: k, defers, false, round⟩, up, h, top⟩))
            (br b (setBK env d true fun env => putK nt env dst undefV fun e => K ⟨⟨fn, nt, e, .inReg rest :: k, defers, false, round⟩, up, h, top⟩) (setBK env d false fun env => stepOpK F S ⟨dst, op, some (d, w)⟩ rest k fn nt env defers round up h top K))
        | some (.tuple ⟨[]⟩) => putK nt env dst undefV fun e => K ⟨⟨fn, nt, e, .inReg rest :: k, defers, false, round⟩, up, h, top⟩
        | _ => False
      | .code (.rangeF f ps asg body) :: k => match evalO env f, round with
        | some (.func (.func g) ⟨first⟩ ⟨caps⟩), none =>
          enterK F g (first ++ [.func (.yield (top + 1)) #[] #[]] ++ caps) fun c => aputK h top .marks fun h1 => aputK h1 (top + 1) (.loop ⟨.ready, none, fn, nt, env, ps, asg, body, top⟩) fun h2 =>
            K ⟨c, ⟨fn, nt, env, .inRangeFunc (top + 1) :: k, top :: defers, false, none⟩ :: up, h2, top + 2⟩
        | some (.func (.func g) ⟨first⟩ ⟨caps⟩), some l0 => match aget h l0 with
          | some (.loop r0) => enterK F g (first ++ [.func (.yield top) #[] #[]] ++ caps) fun c => aputK h top (.loop ⟨.ready, none, fn, nt, env, ps, asg, body, r0.defers⟩) fun h2 =>
              K ⟨c, ⟨fn, nt, env, .inRangeFunc top :: k, defers, false, some l0⟩ :: up, h2, top + 1⟩
          | _ => False
        | _, _ => False
      | .inRangeFunc _ :: _ => False
      | .endRangeFunc l :: k => match aget h l with
        | some (.loop ⟨st, pend, fn', nt', env', ps, asg, body, ds⟩) => match st with
          | .busy => False
          | _ => aputK h l (.loop ⟨.exhausted, pend, fn', nt', env', ps, asg, body, ds⟩) fun h' => match pend with
            | some c => K ⟨⟨fn, nt, env, .code c :: k, defers, false, round⟩, up, h', top⟩
            | none => K ⟨⟨fn, nt, env, k, defers, false, round⟩, up, h', top⟩
        | _ => False
      | .beginRound :: k => match round with
        | some l => match aget h l with
          | some (.loop ⟨st, pend, fn', nt', env', ps, asg, body, ds⟩) => match st with
            | .ready => aputK h l (.loop ⟨.busy, pend, fn', nt', env', ps, asg, body, ds⟩) fun h' => K ⟨⟨fn, nt, env, k, defers, false, some l⟩, up, h', top⟩
            | _ => False
          | _ => False
        | none => False
section
variable {P : Program} {F : Fns} {S : Sums}
theorem evStep_ok (hF : FnsOK P F) (hS : SumsOK P S) {f base : Nat} {lp : Bool} {R : Value → Hp → Nat → Prop} {K : VM → Prop} (hK : ∀ vm, K vm → Leads P f base vm R) {vm : VM}
    (h : evStep F S f lp (fun vm => Leads P f base vm R) R K vm) : Leads P f base vm R := by
  obtain ⟨⟨fn, nt, env, todo, defers, ret, round⟩, up, H, top⟩ := vm
  unfold evStep at h
  simp only at h
  have go : ∀ vm', vstep F S ⟨⟨fn, nt, env, todo, defers, ret, round⟩, up, H, top⟩ = some vm' → K vm' → Leads P f base ⟨⟨fn, nt, env, todo, defers, ret, round⟩, up, H, top⟩ R :=
    fun vm' h1 h2 => Leads.next hF hS h1 (hK _ h2)
  split at h
  · split at h
    · split at h
      · rename_i hm
        rw [adelK_eq] at h
        exact go _ (by simp only [vstep, hm]) h
      · exact h.elim
    · split at h
      · rename_i nt' b' rs hf
        obtain ⟨vs, h1, h2⟩ := h.elim
        split at h2
        · rw [forceV_eq] at h2
          obtain ⟨u', h3, h4⟩ := h2.elim
          exact go _ (by simp only [vstep, hf, h1, h3]) h4
        · cases hb : Nat.beq fn f with
          | false => rw [hb] at h2; exact h2.elim
          | true =>
            rw [hb, cond_true, forceV_eq] at h2
            have := Nat.eq_of_beq_eq_true hb
            subst this
            exact Leads.stop hF hf h1 h2
      · exact h.elim
  · split at h
    · split at h
      · exact go _ (by simp only [vstep]) h
      · obtain ⟨vm', h1, h2⟩ := h.elim
        exact go _ (by simp only [vstep, h1]) h2
    · split at h
      · exact go _ (by simp only [vstep]) h
      · obtain ⟨vm', h1, h2⟩ := h.elim
        exact go _ (by simp only [vstep, h1]) h2
    · exact go _ (by simp only [vstep]) h
    · exact go _ (by simp only [vstep]) h
    · exact go _ (by simp only [vstep]) h
    · split at h
      · rename_i x hx
        rcases h.cases with ⟨rfl, h⟩ | ⟨rfl, h⟩
        · exact go _ (by simp only [vstep, hx]; rfl) h
        · exact go _ (by simp only [vstep, hx]; rfl) h
      · exact h.elim
    · exact go _ (by simp only [vstep]) h
    · cases lp
      · exact go _ (by simp only [vstep]) h
      · exact Leads.next hF hS (vm' := _) (by simp only [vstep]) h
    · cases lp
      · exact go _ (by simp only [vstep]) h
      · exact Leads.next hF hS (vm' := _) (by simp only [vstep]) h
    · split at h
      · rename_i k' hk'
        exact go _ (by simp only [vstep, hk']) h
      · rename_i hk'
        split at h
        · exact h.elim
        · obtain ⟨vm', h1, h2⟩ := h.elim
          exact go _ (by simp only [vstep, hk', h1]) h2
    · exact go _ (by simp only [vstep]) h
    · exact h.elim
    · obtain ⟨fps, e', h', m', g1, g2⟩ := h.elim
      obtain ⟨g3, g4⟩ := g2.elim
      exact go _ (by simp only [vstep, g1, g3]) g4
    · exact go _ (by simp only [vstep]) h
    · obtain ⟨vm', h1, h2⟩ := stepOpK.elim (todo := _) h
      exact go _ (by simp only [vstep, wantedV]; exact h1) h2
    · split at h
      · rename_i b hb
        rename_i w _ _ _
        cases w
        · rcases h.cases with ⟨rfl, h'⟩ | ⟨rfl, h'⟩ <;> rw [setBK_eq hb] at h'
          · rw [putK_eq] at h'
            replace h := h'
            exact go _ (by simp only [vstep, wantedV, hb]; rfl) h
          · obtain ⟨vm', h1, h2⟩ := stepOpK.elim (todo := _) h'
            exact go _ (by simp only [vstep, wantedV, hb]; exact h1) h2
        · rcases h.cases with ⟨rfl, h'⟩ | ⟨rfl, h'⟩ <;> rw [setBK_eq hb] at h'
          · obtain ⟨vm', h1, h2⟩ := stepOpK.elim (todo := _) h'
            exact go _ (by simp only [vstep, wantedV, hb]; exact h1) h2
          · rw [putK_eq] at h'
            replace h := h'
            exact go _ (by simp only [vstep, wantedV, hb]; rfl) h
      · rename_i hb
        rw [putK_eq] at h
        exact go _ (by simp only [vstep, wantedV, hb]) h
      · exact h.elim
    · split at h
      · rename_i hfv
        obtain ⟨c, h1, h2⟩ := h.elim
        rw [aputK_eq, aputK_eq] at h2
        exact go _ (by simp only [vstep, hfv, h1]) h2
      · rename_i hfv
        split at h
        · rename_i r0 hr0
          obtain ⟨c, h1, h2⟩ := h.elim
          rw [aputK_eq] at h2
          exact go _ (by simp only [vstep, hfv, hr0, h1]) h2
        · exact h.elim
      · exact h.elim
    · exact h.elim
    · split at h
      · rename_i hl
        split at h
        · exact h.elim
        · rename_i hb
          rw [aputK_eq] at h
          split at h
          · rename_i st _ _ _ _ _ _ _ _ _ _
            exact go _ (by simp only [vstep, hl]; cases st <;> first | exact absurd rfl hb | rfl) h
          · rename_i st _ _ _ _ _ _ _ _ _
            exact go _ (by simp only [vstep, hl]; cases st <;> first | exact absurd rfl hb | rfl) h
      · exact h.elim
    · split at h
      · split at h
        · rename_i hl
          split at h
          · rw [aputK_eq] at h
            exact go _ (by simp only [vstep, hl]) h
          · exact h.elim
        · exact h.elim
      · exact h.elim
def ev (F : Fns) (S : Sums) (f : Nat) (lp : Bool) (L : VM → Prop) (E : Value → Hp → Nat → Prop) : Nat → VM → Prop
  | 0, vm => L vm
  | n + 1, vm => evStep F S f lp L E (ev F S f lp L E n) vm
theorem ev_ok (hF : FnsOK P F) (hS : SumsOK P S) {f base : Nat} (lp : Bool) {R : Value → Hp → Nat → Prop} : ∀ (n : Nat) {vm : VM}, ev F S f lp (fun vm => Leads P f base vm R) R n vm → Leads P f base vm R
  | 0, _, h => h
  | n + 1, _, h => evStep_ok hF hS (fun _ h => ev_ok hF hS lp n h) h
end
end Go.Vm
namespace Go.Vm
open Go
def TabOK (P : Program) : List (Nat × VFn) → Prop
  | [] => True
  | (i, vf) :: l => (P.funcs[i]?).bind (compFn P) = some vf ∧ TabOK P l
theorem FnsOK.of_tab {P : Program} : ∀ {l : List (Nat × VFn)}, TabOK P l → FnsOK P (aget l)
  | [], _, f, vf, h => by simp [aget] at h
  | (i, v) :: l, hl, f, vf, h => by
    obtain ⟨h1, h2⟩ := hl
    simp only [aget] at h
    cases hb : Nat.beq i f with
    | true =>
      rw [hb, cond_true, Option.some.injEq] at h
      subst h
      have := Nat.eq_of_beq_eq_true hb
      subst this
      cases hf : P.funcs[i]? with
      | none => simp [hf] at h1
      | some fn => rw [hf, Option.bind_some] at h1; exact ⟨fn, rfl, h1⟩
    | false =>
      rw [hb, cond_false] at h
      exact FnsOK.of_tab h2 f vf h
theorem SumsOK.none {P : Program} : SumsOK P (fun _ => none) := fun _ _ h => by cases h
end Go.Vm
namespace Go.Vm
open Go
def subE (e : Env) : Env → Prop
  | [] => True
  | (i, v) :: l => aget e i = some v ∧ subE e l
theorem subE_get {e : Env} : ∀ {l : Env}, subE e l → ∀ i v, aget l i = some v → aget e i = some v
  | [], _, i, v, h => by simp [aget] at h
  | (j, u) :: l, h, i, v, hv => by
    obtain ⟨h1, h2⟩ := h
    simp only [aget] at hv
    cases hb : Nat.beq j i with
    | true =>
      rw [hb, cond_true, Option.some.injEq] at hv
      subst hv
      have := Nat.eq_of_beq_eq_true hb; subst this
      exact h1
    | false =>
      rw [hb, cond_false] at hv
      exact subE_get h2 i v hv
theorem Leads.env {P : Program} {f base fn nt : Nat} {e e' : Env} {todo : List VItem} {defers : List Nat} {ret : Bool} {round : Option Nat} {up : List VFrame} {H : Hp} {top : Nat} {R : Value → Hp → Nat → Prop}
    (h : Leads P f base ⟨⟨fn, nt, e', todo, defers, ret, round⟩, up, H, top⟩ R) (hs : subE e e') : Leads P f base ⟨⟨fn, nt, e, todo, defers, ret, round⟩, up, H, top⟩ R := by
  refine ⟨fun w0 U ρ rf rfs w cs hr => ?_⟩
  exact h.get w0 U ρ rf rfs w cs ⟨{ hr.cur with env := fun i v hv => hr.cur.env i v (subE_get hs i v hv) }, hr.up, hr.heap⟩
end Go.Vm
