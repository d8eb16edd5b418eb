import Derived.Test.YtjgbmnhijmkejaaNOctetTellsb
namespace Go.Vm
open Go Go.RowKit
def req (b : Bool) (p : Prop) : Prop := match b with | true => p | false => False
theorem req.intro {b : Bool} {p : Prop} (h : b = true) (k : p) : req b p := by subst h; exact k
theorem req.elim {b : Bool} {p : Prop} (h : req b p) : b = true ∧ p := by cases b; exact h.elim; exact ⟨rfl, h⟩
def br (b : Bool) (p q : Prop) : Prop := match b with | true => p | false => q
theorem br.intro {b : Bool} {p q : Prop} (h : b = true → p) (k : b = false → q) : br b p q := by cases b; exact k rfl; exact h rfl
theorem br.pos {b : Bool} {p q : Prop} (e : b = true) (h : p) : br b p q := by subst e; exact h
theorem br.neg {b : Bool} {p q : Prop} (e : b = false) (h : q) : br b p q := by subst e; exact h
def forceV (v : Value) (K : Value → Prop) : Prop :=
  match v with
  | .bool b => K (.bool b)
  | .int k n => K (.int k n)
  | .float k n => K (.float k n)
  | .string s => K (.string s)
  | .pointer none => K (.pointer none)
  | .pointer (some a) => K (.pointer (some a))
  | .slice none n c => K (.slice none n c)
  | .slice (some a) n c => K (.slice (some a) n c)
  | .func f a b => K (.func f a b)
  | .nilFunc => K .nilFunc
  | .nilIface => K .nilIface
  | .iface t v => K (.iface t v)
  | .agg a => K (.agg a)
  | .tuple a => K (.tuple a)
  | v => K v
theorem forceV_eq (v : Value) (K : Value → Prop) : forceV v K = K v := by
  unfold forceV; split <;> rfl
def forceL (l : List Value) (K : List Value → Prop) : Prop :=
  match l with
  | [] => K []
  | v :: l => forceL l (fun l' => K (v :: l'))
theorem forceL_eq : ∀ (l : List Value) (K : List Value → Prop), forceL l K = K l
  | [], _ => rfl
  | v :: l, K => by rw [forceL, forceL_eq l]
def adelK {α : Type} (l : List (Nat × α)) (j : Nat) (K : List (Nat × α) → Prop) : Prop :=
  match l with
  | [] => K []
  | (i, x) :: l => cond (Nat.beq i j) (adelK l j K) (adelK l j (fun l' => K ((i, x) :: l')))
theorem adelK_eq {α : Type} : ∀ (l : List (Nat × α)) (j : Nat) (K : List (Nat × α) → Prop), adelK l j K = K (adel l j)
  | [], _, _ => rfl
  | (i, x) :: l, j, K => by
    simp only [adelK, adel]
    cases Nat.beq i j
    · simp only [cond_false]; rw [adelK_eq l]
    · simp only [cond_true]; rw [adelK_eq l]
def aputK {α : Type} (l : List (Nat × α)) (i : Nat) (x : α) (K : List (Nat × α) → Prop) : Prop := adelK l i (fun l' => K ((i, x) :: l'))
theorem aputK_eq {α : Type} (l : List (Nat × α)) (i : Nat) (x : α) (K : List (Nat × α) → Prop) : aputK l i x K = K (aput l i x) := adelK_eq _ _ _
def rd (cs : List Value) (o : Nat) (K : Value → Prop) : Prop := match cs[o]? with | some v => forceV v K | none => False
theorem rd.intro {cs : List Value} {o : Nat} {K : Value → Prop} {v : Value} (h : cs[o]? = some v) (k : forceV v K) : rd cs o K := by unfold rd; rw [h]; exact k
theorem rd.elim {cs : List Value} {o : Nat} {K : Value → Prop} (h : rd cs o K) : ∃ v, cs[o]? = some v ∧ K v := by
  unfold rd at h
  split at h
  · rename_i v hv; rw [forceV_eq] at h; exact ⟨v, hv, h⟩
  · exact h.elim
def rdN (cs : List Value) (o : Nat) (n : Nat) (K : List Value → Prop) : Prop :=
  match n with
  | 0 => K []
  | n + 1 => rd cs o fun v => rdN cs (o + 1) n fun l => K (v :: l)
theorem rdN.elim : ∀ {n : Nat} {cs : List Value} {o : Nat} {K : List Value → Prop}, rdN cs o n K → (o + n ≤ cs.length ∨ n = 0) ∧ K ((cs.drop o).take n)
  | 0, cs, o, K, h => ⟨.inr rfl, by simpa [rdN] using h⟩
  | n + 1, cs, o, K, h => by
    obtain ⟨v, hv, h2⟩ := rd.elim h
    obtain ⟨h3, h4⟩ := rdN.elim h2
    have hlt : o < cs.length := by
      rcases Nat.lt_or_ge o cs.length with h | h
      · exact h
      · rw [List.getElem?_eq_none h] at hv; cases hv
    refine ⟨.inl (by omega), ?_⟩
    have : (cs.drop o).take (n + 1) = v :: (cs.drop (o + 1)).take n := by
      rw [List.drop_eq_getElem_cons hlt, List.take_succ_cons]
      rw [List.getElem?_eq_getElem hlt, Option.some.injEq] at hv
      rw [hv]
    rw [this]; exact h4
abbrev CK := Option Value → List (Option VObj) → Option VObj → Prop
def optK (r : Option CoreR) (K : CK) : Prop :=
  match r with
  | some ⟨some v, os, fr⟩ => forceV v fun v => K (some v) os fr
  | some ⟨none, os, fr⟩ => K none os fr
  | none => False
def Good (r : Option CoreR) (K : CK) : Prop := ∃ v os fr, r = some ⟨v, os, fr⟩ ∧ K v os fr
theorem optK.good {r : Option CoreR} {K : CK} (h : optK r K) : Good r K := by
  unfold optK at h
  split at h
  · rw [forceV_eq] at h; exact ⟨_, _, _, rfl, h⟩
  · exact ⟨_, _, _, rfl, h⟩
  · exact h.elim
def valK (v : Value) (K : CK) : Prop := forceV v fun v => K (some v) [] none
def fillK : List (Nat × Nat × Value) → List Value → (List Value → Prop) → Prop
  | [], cs, K => K cs
  | (off, size, v) :: rest, cs, K => cond (Nat.beq (cellsL v).length size && Nat.ble (off + size) cs.length) (forceL (setAt cs off (cellsL v)) fun cs' => fillK rest cs' K) False
theorem fillK.elim : ∀ {l : List (Nat × Nat × Value)} {cs : List Value} {K : List Value → Prop}, fillK l cs K → ∃ cs', fillL cs l = some cs' ∧ K cs'
  | [], cs, K, h => ⟨cs, rfl, h⟩
  | (off, size, v) :: rest, cs, K, h => by
    rw [fillK] at h
    cases hb : (Nat.beq (cellsL v).length size && Nat.ble (off + size) cs.length)
    · rw [hb] at h; exact h.elim
    · rw [hb, cond_true, forceL_eq] at h
      obtain ⟨cs', h1, h2⟩ := fillK.elim h
      rw [Bool.and_eq_true] at hb
      exact ⟨cs', by rw [fillL, if_pos ⟨Nat.eq_of_beq_eq_true hb.1, Nat.le_of_ble_eq_true hb.2⟩, h1], h2⟩
def k_build (z : List Value) (ps : List (Nat × Nat × Operand)) (vals : List Value) (objs : List VObj) (K : CK) : Prop :=
  match objs with
  | [] => cond (Nat.beq vals.length ps.length) (fillK (zipP ps vals) z fun cs => K (some (.agg ⟨cs⟩)) [] none) False
  | _ => False
def k_buildSl (len sz : Nat) (z : List Value) (ps : List (Nat × Nat × Operand)) (vals : List Value) (objs : List VObj) (top : Nat) (K : CK) : Prop :=
  match objs with
  | [] => cond (Nat.beq vals.length ps.length) (fillK (zipP ps vals) z fun cs => K (some (.slice (some ⟨top, 0, none⟩) len sz)) [] (some (.row true cs))) False
  | _ => False
theorem k_build_good {z : List Value} {ps : List (Nat × Nat × Operand)} {vals : List Value} {objs : List VObj} {K : CK} (h : k_build z ps vals objs K) : Good (c_build z ps vals objs) K := by
  unfold k_build at h
  split at h
  · cases hb : Nat.beq vals.length ps.length
    · rw [hb] at h; exact h.elim
    · rw [hb, cond_true] at h
      obtain ⟨cs, h1, h2⟩ := h.elim
      exact ⟨_, _, _, by simp only [c_build, if_pos (Nat.eq_of_beq_eq_true hb), h1]; rfl, h2⟩
  · exact h.elim
theorem k_buildSl_good {len sz : Nat} {z : List Value} {ps : List (Nat × Nat × Operand)} {vals : List Value} {objs : List VObj} {top : Nat} {K : CK} (h : k_buildSl len sz z ps vals objs top K) : Good (c_buildSl len sz z ps vals objs top) K := by
  unfold k_buildSl at h
  split at h
  · cases hb : Nat.beq vals.length ps.length
    · rw [hb] at h; exact h.elim
    · rw [hb, cond_true] at h
      obtain ⟨cs, h1, h2⟩ := h.elim
      exact ⟨_, _, _, by simp only [c_buildSl, if_pos (Nat.eq_of_beq_eq_true hb), h1], h2⟩
  · exact h.elim
def k_pick (vals : List Value) (objs : List VObj) (K : CK) : Prop :=
  match vals, objs with
  | [.bool c, a, b], [] => br c (valK a K) (valK b K)
  | _, _ => False
def k_load1 (vals : List Value) (objs : List VObj) (K : CK) : Prop :=
  match vals, objs with
  | [.pointer (some ⟨_, o, none⟩)], [.cells cs] => rd cs o fun v => K (some v) [some (.cells cs)] none
  | [.pointer (some ⟨_, o, none⟩)], [.row w cs] => rd cs o fun v => K (some v) [some (.row w cs)] none
  | [.pointer (some ⟨_, o, none⟩)], [.ty t cs] => rd cs o fun v => K (some v) [some (.ty t cs)] none
  | _, _ => False
def k_loadN (n : Nat) (vals : List Value) (objs : List VObj) (K : CK) : Prop :=
  match vals, objs with
  | [.pointer (some ⟨_, o, none⟩)], [.cells cs] => req (decide (o + n ≤ cs.length)) (rdN cs o n fun l => K (some (.agg ⟨l⟩)) [some (.cells cs)] none)
  | [.pointer (some ⟨_, o, none⟩)], [.row w cs] => req (decide (o + n ≤ cs.length)) (rdN cs o n fun l => K (some (.agg ⟨l⟩)) [some (.row w cs)] none)
  | [.pointer (some ⟨_, o, none⟩)], [.ty t cs] => req (decide (o + n ≤ cs.length)) (rdN cs o n fun l => K (some (.agg ⟨l⟩)) [some (.ty t cs)] none)
  | _, _ => False
def k_store (n : Nat) (vals : List Value) (objs : List VObj) (K : CK) : Prop :=
  match vals, objs with
  | [.pointer (some ⟨_, o, none⟩), v], [.cells cs] => req (decide ((cellsL v).length = n ∧ o + n ≤ cs.length) && (cellsL v).all oneC) (forceL (setAt cs o (cellsL v)) fun cs' => K none [some (.cells cs')] none)
  | [.pointer (some ⟨_, o, none⟩), v], [.ty t cs] => req (decide ((cellsL v).length = n ∧ o + n ≤ cs.length) && (cellsL v).all oneC) (forceL (setAt cs o (cellsL v)) fun cs' => K none [some (.ty t cs')] none)
  | [.pointer (some ⟨_, o, none⟩), v], [.row true cs] => req (decide ((cellsL v).length = n ∧ o + n ≤ cs.length) && (cellsL v).all oneC) (∃ cs', setAt cs o (cellsL v) = cs' ∧ K none [some (.row true cs')] none)
  | _, _ => False
def binK (op : BinOp) (x y : Value) (K : CK) : Prop :=
  match x, y with
  | .int k a, .int k' b => match op with
    | .shl => req (decide (0 ≤ b)) (K (some (.int k (k.wrap (a * 2 ^ (min b.toNat k.bits))))) [] none)
    | .shr => req (decide (0 ≤ b)) (K (some (.int k (a.fdiv (2 ^ (min b.toNat k.bits))))) [] none)
    | .quo => req (decide (k = k') && !(decide (b = 0))) (K (some (.int k (k.wrap (a.tdiv b)))) [] none)
    | .rem => req (decide (k = k') && !(decide (b = 0))) (K (some (.int k (a.tmod b))) [] none)
    | op => optK (match binV op (.int k a) (.int k' b) with | some v => val v | none => none) K
  | .string a, .string b => match op with
    | .add => req (decide (a.data.toList.length + b.data.toList.length < 2 ^ 63)) (K (some (.string ⟨⟨a.data.toList ++ b.data.toList⟩⟩)) [] none)
    | op => optK (match binV op (.string a) (.string b) with | some v => val v | none => none) K
  | _, _ => False
def k_bin (op : BinOp) (vals : List Value) (objs : List VObj) (K : CK) : Prop :=
  match vals, objs with
  | [x, y], [] => binK op x y K
  | _, _ => False
def k_isNil (k : Nat) (neg : Bool) (vals : List Value) (objs : List VObj) (K : CK) : Prop :=
  match k, vals, objs with
  | 1, [.slice (some _) n _], [] => req (Nat.blt 0 n) (K (some (.bool neg)) [] none)
  | k, vals, objs => optK (c_isNil k neg vals objs) K
def k_b2s (vals : List Value) (objs : List VObj) (K : CK) : Prop :=
  match vals, objs with
  | [.slice none 0 _], [] => K (some (.string ⟨⟨[]⟩⟩)) [] none
  | [.slice (some ⟨_, o, none⟩) n 1], [ob] => match ob.cs with
      | some cs => req (decide (o + n ≤ cs.length)) (∃ bs, toBytes ((cs.drop o).take n) = some bs ∧ K (some (.string ⟨⟨bs⟩⟩)) [some ob] none)
      | none => False
  | _, _ => False
def k_s2b (vals : List Value) (objs : List VObj) (top : Nat) (K : CK) : Prop :=
  match vals, objs with
  | [.string s], [] => ∃ cs', ofBytes s.data.toList = cs' ∧ K (some (.slice (some ⟨top, 0, none⟩) s.data.toList.length 1)) [] (some (.row true cs'))
  | _, _ => False
def k_mkSl (sz bytes : Nat) (z : List Value) (vals : List Value) (objs : List VObj) (top : Nat) (K : CK) : Prop :=
  match vals, objs with
  | [.int _ l, .int _ c], [] => req (decide (0 ≤ l ∧ l ≤ c ∧ c < 2 ^ 63 ∧ (bytes : Int) * c ≤ 2 ^ 48))
      (∃ cs', (List.replicate c.toNat z).flatten = cs' ∧ K (some (.slice (some ⟨top, 0, none⟩) l.toNat sz)) [] (some (.row true cs')))
  | _, _ => False
def loHiK (n : Nat) (hasLo hasHi : Bool) (bs : List Value) (K : Nat → Nat → Prop) : Prop :=
  match hasLo, hasHi, bs with
  | false, false, [] => K 0 n
  | true, false, [.int _ l] => req (decide (0 ≤ l ∧ l ≤ n)) (K l.toNat n)
  | false, true, [.int _ h] => req (decide (0 ≤ h ∧ h ≤ n)) (K 0 h.toNat)
  | true, true, [.int _ l, .int _ h] => req (decide (0 ≤ h ∧ h ≤ n ∧ 0 ≤ l ∧ l ≤ h.toNat)) (K l.toNat h.toNat)
  | _, _, _ => False
theorem loHiK.elim {n : Nat} {hl hh : Bool} {bs : List Value} {K : Nat → Nat → Prop} (h : loHiK n hl hh bs K) : ∃ l u, loHi n hl hh bs = some (l, u) ∧ K l u := by
  unfold loHiK at h
  split at h
  · exact ⟨_, _, rfl, h⟩
  · obtain ⟨h1, h2⟩ := h.elim; exact ⟨_, _, by simp only [loHi]; rw [if_pos (of_decide_eq_true h1)], h2⟩
  · obtain ⟨h1, h2⟩ := h.elim; exact ⟨_, _, by simp only [loHi]; rw [if_pos (of_decide_eq_true h1)], h2⟩
  · obtain ⟨h1, h2⟩ := h.elim; exact ⟨_, _, by simp only [loHi]; rw [if_pos (of_decide_eq_true h1)], h2⟩
  · exact h.elim
def k_sliceS (bl bh : Bool) (vals : List Value) (objs : List VObj) (K : CK) : Prop :=
  match vals, objs with
  | .string s :: bs, [] => loHiK s.data.toList.length bl bh bs fun l h => K (some (.string ⟨⟨(s.data.toList.drop l).take (h - l)⟩⟩)) [] none
  | _, _ => False
def k_sliceL (sz : Nat) (bl bh : Bool) (vals : List Value) (objs : List VObj) (K : CK) : Prop :=
  match vals, objs with
  | .slice none 0 c :: bs, [] => loHiK 0 bl bh bs fun _ _ => K (some (.slice none 0 c)) [] none
  | .slice (some ⟨b, o, none⟩) n sz' :: bs, [] => req (Nat.beq sz sz') (loHiK n bl bh bs fun l h => K (some (.slice (some ⟨b, o + l * sz, none⟩) (h - l) sz)) [] none)
  | _, _ => False
def k_sliceA (n sz : Nat) (bl bh : Bool) (vals : List Value) (objs : List VObj) (K : CK) : Prop :=
  match vals, objs with
  | .pointer (some ⟨b, o, none⟩) :: bs, [ob] => match ob.cs with
    | some cs => req (decide (o + n * sz ≤ cs.length)) (loHiK n bl bh bs fun l h => K (some (.slice (some ⟨b, o + l * sz, none⟩) (h - l) sz)) [some ob] none)
    | none => False
  | _, _ => False
def k_idxAA (n sz : Nat) (vals : List Value) (objs : List VObj) (K : CK) : Prop :=
  match vals, objs with
  | [.pointer (some ⟨b, o, none⟩), .int _ i], [] => req (decide (0 ≤ i ∧ i < n)) (K (some (.pointer (some ⟨b, o + i.toNat * sz, none⟩))) [] none)
  | _, _ => False
def k_idxAL (sz : Nat) (vals : List Value) (objs : List VObj) (K : CK) : Prop :=
  match vals, objs with
  | [.slice (some ⟨b, o, none⟩) n _, .int _ i], [] => req (decide (0 ≤ i ∧ i < n)) (K (some (.pointer (some ⟨b, o + i.toNat * sz, none⟩))) [] none)
  | _, _ => False
def k_idxV1 (n : Nat) (vals : List Value) (objs : List VObj) (K : CK) : Prop :=
  match vals, objs with
  | [.agg ⟨cs⟩, .int _ i], [] => req (decide (0 ≤ i ∧ i < n)) (rd cs i.toNat fun v => K (some v) [] none)
  | _, _ => False
def k_idxVN (n sz : Nat) (vals : List Value) (objs : List VObj) (K : CK) : Prop :=
  match vals, objs with
  | [.agg ⟨cs⟩, .int _ i], [] => req (decide (0 ≤ i ∧ i < n ∧ i.toNat * sz + sz ≤ cs.length)) (rdN cs (i.toNat * sz) sz fun l => K (some (.agg ⟨l⟩)) [] none)
  | _, _ => False
def rdS (s : List UInt8) (i : Nat) (K : UInt8 → Prop) : Prop := match s[i]? with | some b => K b | none => False
theorem rdS.intro {s : List UInt8} {i : Nat} {K : UInt8 → Prop} {b : UInt8} (h : s[i]? = some b) (k : K b) : rdS s i K := by unfold rdS; rw [h]; exact k
theorem rdS.elim {s : List UInt8} {i : Nat} {K : UInt8 → Prop} (h : rdS s i K) : ∃ b, s[i]? = some b ∧ K b := by
  unfold rdS at h; split at h
  · exact ⟨_, by assumption, h⟩
  · exact h.elim
def k_idxS (vals : List Value) (objs : List VObj) (K : CK) : Prop :=
  match vals, objs with
  | [.string s, .int _ i], [] => req (decide (0 ≤ i)) (rdS s.data.toList i.toNat fun b => K (some (.int .u8 b.toNat)) [] none)
  | _, _ => False
def k_ixb (vals : List Value) (objs : List VObj) (K : CK) : Prop :=
  match vals, objs with
  | [.string s, .int .u8 c], [] => K (some (.int .i64 (ixB s.data.toList c))) [] none
  | _, _ => False
def srcK (sz : Nat) (y : Value) (objs : List VObj) (K : List Value → Nat → Prop) : Prop :=
  match y, objs with
  | .string s, _ => K (ofBytes s.data.toList) s.data.toList.length
  | .slice none 0 _, _ => K [] 0
  | .slice (some a) n _, [o] => match o.cs with
    | some cs => req (decide (a.off + n * sz ≤ cs.length)) (K ((cs.drop a.off).take (n * sz)) n)
    | none => False
  | _, _ => False
theorem srcK.elim {sz : Nat} {y : Value} {objs : List VObj} {K : List Value → Nat → Prop} (h : srcK sz y objs K) : ∃ c n, srcCells sz y objs = some c ∧ srcLen y = some n ∧ K c n := by
  unfold srcK at h
  split at h
  · exact ⟨_, _, rfl, rfl, h⟩
  · exact ⟨_, _, rfl, rfl, h⟩
  · split at h
    · rename_i cs hcs
      obtain ⟨h1, h2⟩ := h.elim
      exact ⟨_, _, by simp only [srcCells, hcs]; rw [if_pos (of_decide_eq_true h1)], rfl, h2⟩
    · exact h.elim
  · exact h.elim
def k_app (t sz bytes : Nat) (vals : List Value) (objs : List VObj) (top : Nat) (K : CK) : Prop :=
  match vals, objs with
  | [.slice none 0 _, y], objs => srcK sz y objs fun new m => req (decide (m * bytes ≤ 2 ^ 47 ∧ new.length = m * sz)) (∃ cs' n', new = cs' ∧ m = n' ∧ K (some (.slice (some ⟨top, 0, none⟩) n' sz)) (objs.map some) (some (.row true cs')))
  | [.slice (some ⟨b, o, none⟩) n sz', y], .row true cs :: objs => srcK sz y objs fun new m =>
      req (decide ((n + m) * bytes ≤ 2 ^ 47 ∧ o + n * sz ≤ cs.length ∧ sz = sz' ∧ new.length = m * sz) && new.all oneC && (addrBlk y).all (fun c => !Nat.beq b c))
        (∃ cs' n', (cs.drop o).take (n * sz) ++ new = cs' ∧ n + m = n' ∧ K (some (.slice (some ⟨top, 0, none⟩) n' sz)) (none :: objs.map some) (some (.row true cs')))
  | [.func (.method _) ⟨[.slice none 0 e]⟩ ⟨[]⟩, y], objs => srcK sz y objs fun new m => req (decide (m * bytes ≤ 2 ^ 47 ∧ new.length = m * sz ∧ sz = 1 ∧ e = t)) (∃ cs' n', new = cs' ∧ m = n' ∧ K (some (.func (.method "") ⟨[.slice (some ⟨top, 0, none⟩) n' 1]⟩ ⟨[]⟩)) (objs.map some) (some (.ty t cs')))
  | [.func (.method _) ⟨[.slice (some ⟨b, 0, none⟩) n 1]⟩ ⟨[]⟩, y], .ty e cs :: objs => srcK sz y objs fun new m =>
      req (decide ((n + m) * bytes ≤ 2 ^ 47 ∧ n ≤ cs.length ∧ sz = 1 ∧ e = t ∧ new.length = m) && new.all oneC && (addrBlk y).all (fun c => !Nat.beq b c))
        (∃ cs' n', cs.take n ++ new = cs' ∧ n + m = n' ∧ K (some (.func (.method "") ⟨[.slice (some ⟨top, 0, none⟩) n' 1]⟩ ⟨[]⟩)) (none :: objs.map some) (some (.ty t cs')))
  | _, _ => False
def k_ustr (t : Nat) (vals : List Value) (objs : List VObj) (K : CK) : Prop :=
  match vals, objs with
  | [.pointer none, .int .i64 0], [] => K (some (.string ⟨⟨[]⟩⟩)) [] none
  | [.func (.method _) ⟨[.slice (some ⟨_, 0, none⟩) n 1]⟩ ⟨[.bool true]⟩, .int .i64 m], [.ty e cs] => req (decide (e = t ∧ m = n ∧ n ≤ cs.length ∧ n < 2 ^ 63))
      (∃ bs, toBytes (cs.take n) = some bs ∧ K (some (.string ⟨⟨bs⟩⟩)) [some (.row false cs)] none)
  | _, _ => False
def k_clr (sz : Nat) (vals : List Value) (objs : List VObj) (K : CK) : Prop :=
  match vals, objs with
  | [.slice none 0 _], [] => K (some (.tuple ⟨[]⟩)) [] none
  | [.slice (some ⟨_, o, none⟩) n sz'], [.row true cs] => req (decide (sz = sz' ∧ o + n * sz = cs.length)) (∃ cs', cs.take o = cs' ∧ K (some (.tuple ⟨[]⟩)) [some (.row true cs')] none)
  | _, _ => False
def k_nextS (vals : List Value) (objs : List VObj) (K : CK) : Prop :=
  match vals, objs with
  | [.pointer (some ⟨_, 0, none⟩)], [.siter s pos] =>
      br (decide (pos < s.size)) (K (some (.tuple #[.bool true, .int .i64 pos, .int .i32 (Utf8.decode s pos).1])) [some (.siter s (pos + (Utf8.decode s pos).2))] none)
        (K (some (.tuple #[.bool false])) [some (.siter s pos)] none)
  | _, _ => False
def coreK (op : VOp) (vals : List Value) (objs : List VObj) (top : Nat) (K : CK) : Prop :=
  match op with
  | .pick _ _ _ => k_pick vals objs K
  | .load1 _ _ => k_load1 vals objs K
  | .loadN ks _ => k_loadN ks.length vals objs K
  | .store n _ _ => k_store n vals objs K
  | .bin op _ _ => k_bin op vals objs K
  | .isNil k neg _ => k_isNil k neg vals objs K
  | .b2s _ => k_b2s vals objs K
  | .s2b _ => k_s2b vals objs top K
  | .mkSl sz bytes z _ _ => k_mkSl sz bytes z vals objs top K
  | .sliceS _ lo hi => k_sliceS lo.isSome hi.isSome vals objs K
  | .sliceL sz _ lo hi => k_sliceL sz lo.isSome hi.isSome vals objs K
  | .sliceA n sz _ lo hi => k_sliceA n sz lo.isSome hi.isSome vals objs K
  | .idxAA n sz _ _ => k_idxAA n sz vals objs K
  | .idxAL sz _ _ => k_idxAL sz vals objs K
  | .idxV1 n _ _ => k_idxV1 n vals objs K
  | .idxVN n sz _ _ => k_idxVN n sz vals objs K
  | .idxS _ _ => k_idxS vals objs K
  | .ixb _ _ => k_ixb vals objs K
  | .app t sz bytes _ _ => k_app t sz bytes vals objs top K
  | .ustr t _ _ => k_ustr t vals objs K
  | .clr sz _ => k_clr sz vals objs K
  | .build z ps => k_build z ps vals objs K
  | .buildSl len sz z ps => k_buildSl len sz z ps vals objs top K
  | .nextS _ => k_nextS vals objs K
  | op => optK (core op vals objs top) K
theorem k_pick_good {vals : List Value} {objs : List VObj} {K : CK} (h : k_pick vals objs K) : Good (c_pick vals objs) K := by
  unfold k_pick at h
  split at h
  · rename_i c _ _
    cases c
    · simp only [br, valK, forceV_eq] at h; exact ⟨_, _, _, rfl, h⟩
    · simp only [br, valK, forceV_eq] at h; exact ⟨_, _, _, rfl, h⟩
  · exact h.elim
theorem k_load1_good {vals : List Value} {objs : List VObj} {K : CK} (h : k_load1 vals objs K) : Good (c_load1 vals objs) K := by
  unfold k_load1 at h
  split at h
  · obtain ⟨v, h1, h2⟩ := rd.elim h; exact ⟨_, _, _, by simp only [c_load1, VObj.cs, h1], h2⟩
  · obtain ⟨v, h1, h2⟩ := rd.elim h; exact ⟨_, _, _, by simp only [c_load1, VObj.cs, h1], h2⟩
  · obtain ⟨v, h1, h2⟩ := rd.elim h; exact ⟨_, _, _, by simp only [c_load1, VObj.cs, h1], h2⟩
  · exact h.elim
theorem k_loadN_good {n : Nat} {vals : List Value} {objs : List VObj} {K : CK} (h : k_loadN n vals objs K) : Good (c_loadN n vals objs) K := by
  unfold k_loadN at h
  split at h
  · obtain ⟨h1, h2⟩ := req.elim h
    obtain ⟨_, h3⟩ := rdN.elim h2
    exact ⟨_, _, _, by simp only [c_loadN, VObj.cs, if_pos (of_decide_eq_true h1)], h3⟩
  · obtain ⟨h1, h2⟩ := req.elim h
    obtain ⟨_, h3⟩ := rdN.elim h2
    exact ⟨_, _, _, by simp only [c_loadN, VObj.cs, if_pos (of_decide_eq_true h1)], h3⟩
  · obtain ⟨h1, h2⟩ := req.elim h
    obtain ⟨_, h3⟩ := rdN.elim h2
    exact ⟨_, _, _, by simp only [c_loadN, VObj.cs, if_pos (of_decide_eq_true h1)], h3⟩
  · exact h.elim
theorem k_store_good {n : Nat} {vals : List Value} {objs : List VObj} {K : CK} (h : k_store n vals objs K) : Good (c_store n vals objs) K := by
  unfold k_store at h
  split at h
  · obtain ⟨h1, h2⟩ := req.elim h
    rw [forceL_eq] at h2
    simp only [Bool.and_eq_true, decide_eq_true_eq] at h1
    exact ⟨_, _, _, by simp only [c_store, VObj.cs, VObj.wr]; rw [if_pos ⟨h1.1.1, h1.1.2, h1.2⟩], h2⟩
  · obtain ⟨h1, h2⟩ := req.elim h
    rw [forceL_eq] at h2
    simp only [Bool.and_eq_true, decide_eq_true_eq] at h1
    exact ⟨_, _, _, by simp only [c_store, VObj.cs, VObj.wr]; rw [if_pos ⟨h1.1.1, h1.1.2, h1.2⟩], h2⟩
  · obtain ⟨h1, cs', rfl, h2⟩ := req.elim h
    simp only [Bool.and_eq_true, decide_eq_true_eq] at h1
    exact ⟨_, _, _, by simp only [c_store, VObj.cs, VObj.wr]; rw [if_pos ⟨h1.1.1, h1.1.2, h1.2⟩], h2⟩
  · exact h.elim
theorem k_bin_good {op : BinOp} {vals : List Value} {objs : List VObj} {K : CK} (h : k_bin op vals objs K) : Good (c_bin op vals objs) K := by
  unfold k_bin at h
  split at h
  · rename_i x y
    have key : ∀ v, binV op x y = some v → K (some v) [] none → Good (c_bin op [x, y] []) K := fun v h1 h2 => ⟨_, _, _, by simp only [c_bin, h1, val], h2⟩
    unfold binK at h
    split at h
    · split at h
      · obtain ⟨h1, h2⟩ := req.elim h
        exact key _ (by simp only [binV]; rw [if_pos (of_decide_eq_true h1)]) h2
      · obtain ⟨h1, h2⟩ := req.elim h
        exact key _ (by simp only [binV]; rw [if_pos (of_decide_eq_true h1)]) h2
      · obtain ⟨h1, h2⟩ := req.elim h
        simp only [Bool.and_eq_true, decide_eq_true_eq, Bool.not_eq_true', decide_eq_false_iff_not] at h1
        exact key _ (by simp only [binV]; rw [if_pos h1.1, if_neg h1.2]) h2
      · obtain ⟨h1, h2⟩ := req.elim h
        simp only [Bool.and_eq_true, decide_eq_true_eq, Bool.not_eq_true', decide_eq_false_iff_not] at h1
        exact key _ (by simp only [binV]; rw [if_pos h1.1, if_neg h1.2]) h2
      · exact h.good
    · split at h
      · obtain ⟨h1, h2⟩ := req.elim h
        exact key _ (by simp only [binV]; rw [if_pos (of_decide_eq_true h1)]) h2
      · exact h.good
    · exact h.elim
  · exact h.elim
theorem k_isNil_good {k : Nat} {neg : Bool} {vals : List Value} {objs : List VObj} {K : CK} (h : k_isNil k neg vals objs K) : Good (c_isNil k neg vals objs) K := by
  unfold k_isNil at h
  split at h
  · rename_i n _
    obtain ⟨h1, h2⟩ := req.elim h
    cases n with
    | zero => simp at h1
    | succ n => exact ⟨_, _, _, by simp only [c_isNil, nilV, val]; cases neg <;> rfl, h2⟩
  · exact h.good
theorem k_b2s_good {vals : List Value} {objs : List VObj} {K : CK} (h : k_b2s vals objs K) : Good (c_b2s vals objs) K := by
  unfold k_b2s at h
  split at h
  · exact ⟨_, _, _, rfl, h⟩
  · split at h
    · rename_i cs hcs
      obtain ⟨h1, bs, h2, h3⟩ := req.elim h
      exact ⟨_, _, _, by simp only [c_b2s, hcs]; rw [if_pos (of_decide_eq_true h1)]; simp only [h2], h3⟩
    · exact h.elim
  · exact h.elim
theorem k_s2b_good {vals : List Value} {objs : List VObj} {top : Nat} {K : CK} (h : k_s2b vals objs top K) : Good (c_s2b vals objs top) K := by
  unfold k_s2b at h
  split at h
  · obtain ⟨cs', rfl, h⟩ := h; exact ⟨_, _, _, rfl, h⟩
  · exact h.elim
theorem k_mkSl_good {sz bytes : Nat} {z : List Value} {vals : List Value} {objs : List VObj} {top : Nat} {K : CK} (h : k_mkSl sz bytes z vals objs top K) : Good (c_mkSl sz bytes z vals objs top) K := by
  unfold k_mkSl at h
  split at h
  · obtain ⟨h1, cs', rfl, h2⟩ := req.elim h
    exact ⟨_, _, _, by simp only [c_mkSl]; rw [if_pos (of_decide_eq_true h1)], h2⟩
  · exact h.elim
theorem k_sliceS_good {bl bh : Bool} {vals : List Value} {objs : List VObj} {K : CK} (h : k_sliceS bl bh vals objs K) : Good (c_sliceS bl bh vals objs) K := by
  unfold k_sliceS at h
  split at h
  · obtain ⟨l, u, h1, h2⟩ := loHiK.elim h
    exact ⟨_, _, _, by simp only [c_sliceS, h1, val], h2⟩
  · exact h.elim
theorem k_sliceL_good {sz : Nat} {bl bh : Bool} {vals : List Value} {objs : List VObj} {K : CK} (h : k_sliceL sz bl bh vals objs K) : Good (c_sliceL sz bl bh vals objs) K := by
  unfold k_sliceL at h
  split at h
  · obtain ⟨l, u, h1, h2⟩ := loHiK.elim h
    exact ⟨_, _, _, by simp only [c_sliceL, h1, val], h2⟩
  · obtain ⟨h0, h⟩ := req.elim h
    obtain ⟨l, u, h1, h2⟩ := loHiK.elim h
    exact ⟨_, _, _, by simp only [c_sliceL]; rw [if_pos (Nat.eq_of_beq_eq_true h0)]; simp only [h1, val], h2⟩
  · exact h.elim
theorem k_sliceA_good {n sz : Nat} {bl bh : Bool} {vals : List Value} {objs : List VObj} {K : CK} (h : k_sliceA n sz bl bh vals objs K) : Good (c_sliceA n sz bl bh vals objs) K := by
  unfold k_sliceA at h
  split at h
  · split at h
    · rename_i cs hcs
      obtain ⟨h0, h⟩ := req.elim h
      obtain ⟨l, u, h1, h2⟩ := loHiK.elim h
      exact ⟨_, _, _, by simp only [c_sliceA, hcs]; rw [if_pos (of_decide_eq_true h0)]; simp only [h1], h2⟩
    · exact h.elim
  · exact h.elim
theorem k_idxAA_good {n sz : Nat} {vals : List Value} {objs : List VObj} {K : CK} (h : k_idxAA n sz vals objs K) : Good (c_idxAA n sz vals objs) K := by
  unfold k_idxAA at h
  split at h
  · obtain ⟨h1, h2⟩ := req.elim h
    exact ⟨_, _, _, by simp only [c_idxAA, val]; rw [if_pos (of_decide_eq_true h1)], h2⟩
  · exact h.elim
theorem k_idxAL_good {sz : Nat} {vals : List Value} {objs : List VObj} {K : CK} (h : k_idxAL sz vals objs K) : Good (c_idxAL sz vals objs) K := by
  unfold k_idxAL at h
  split at h
  · obtain ⟨h1, h2⟩ := req.elim h
    exact ⟨_, _, _, by simp only [c_idxAL, val]; rw [if_pos (of_decide_eq_true h1)], h2⟩
  · exact h.elim
theorem k_idxV1_good {n : Nat} {vals : List Value} {objs : List VObj} {K : CK} (h : k_idxV1 n vals objs K) : Good (c_idxV1 n vals objs) K := by
  unfold k_idxV1 at h
  split at h
  · obtain ⟨h1, h2⟩ := req.elim h
    obtain ⟨v, h3, h4⟩ := rd.elim h2
    exact ⟨_, _, _, by simp only [c_idxV1]; rw [if_pos (of_decide_eq_true h1)]; simp only [h3, val], h4⟩
  · exact h.elim
theorem k_idxVN_good {n sz : Nat} {vals : List Value} {objs : List VObj} {K : CK} (h : k_idxVN n sz vals objs K) : Good (c_idxVN n sz vals objs) K := by
  unfold k_idxVN at h
  split at h
  · obtain ⟨h1, h2⟩ := req.elim h
    obtain ⟨_, h3⟩ := rdN.elim h2
    exact ⟨_, _, _, by simp only [c_idxVN, val]; rw [if_pos (of_decide_eq_true h1)], h3⟩
  · exact h.elim
theorem k_idxS_good {vals : List Value} {objs : List VObj} {K : CK} (h : k_idxS vals objs K) : Good (c_idxS vals objs) K := by
  unfold k_idxS at h
  split at h
  · obtain ⟨h1, h2⟩ := req.elim h
    obtain ⟨v, h3, h4⟩ := rdS.elim h2
    exact ⟨_, _, _, by simp only [c_idxS]; rw [if_pos (of_decide_eq_true h1)]; simp only [h3, val], h4⟩
  · exact h.elim
theorem k_ixb_good {vals : List Value} {objs : List VObj} {K : CK} (h : k_ixb vals objs K) : Good (c_ixb vals objs) K := by
  unfold k_ixb at h
  split at h
  · exact ⟨_, _, _, rfl, h⟩
  · exact h.elim
theorem k_ustr_good {t : Nat} {vals : List Value} {objs : List VObj} {K : CK} (h : k_ustr t vals objs K) : Good (c_ustr t vals objs) K := by
  unfold k_ustr at h
  split at h
  · exact ⟨_, _, _, rfl, h⟩
  · obtain ⟨h1, bs, h2, h3⟩ := req.elim h
    exact ⟨_, _, _, by simp only [c_ustr]; rw [if_pos (of_decide_eq_true h1)]; simp only [h2], h3⟩
  · exact h.elim
theorem k_clr_good {sz : Nat} {vals : List Value} {objs : List VObj} {K : CK} (h : k_clr sz vals objs K) : Good (c_clr sz vals objs) K := by
  unfold k_clr at h
  split at h
  · exact ⟨_, _, _, rfl, h⟩
  · obtain ⟨h1, cs', rfl, h3⟩ := req.elim h
    exact ⟨_, _, _, by simp only [c_clr]; rw [if_pos (of_decide_eq_true h1)], h3⟩
  · exact h.elim
theorem k_app_good {t sz bytes : Nat} {vals : List Value} {objs : List VObj} {top : Nat} {K : CK} (h : k_app t sz bytes vals objs top K) : Good (c_app t sz bytes vals objs top) K := by
  unfold k_app at h
  split at h
  · obtain ⟨c, m, h1, h2, h3⟩ := srcK.elim h
    obtain ⟨h4, cs', n', rfl, rfl, h5⟩ := req.elim h3
    exact ⟨_, _, _, by simp only [c_app, h1, h2]; rw [if_pos (of_decide_eq_true h4)], h5⟩
  · obtain ⟨c, m, h1, h2, h3⟩ := srcK.elim h
    obtain ⟨h4, cs', n', rfl, rfl, h5⟩ := req.elim h3
    simp only [Bool.and_eq_true, decide_eq_true_eq] at h4
    exact ⟨_, _, _, by simp only [c_app, h1, h2]; rw [if_pos ⟨h4.1.1.1, h4.1.1.2.1, h4.1.1.2.2.1, h4.1.1.2.2.2, h4.1.2, h4.2⟩], h5⟩
  · obtain ⟨c, m, h1, h2, h3⟩ := srcK.elim h
    obtain ⟨h4, cs', n', rfl, rfl, h5⟩ := req.elim h3
    exact ⟨_, _, _, by simp only [c_app, h1, h2, bSl]; rw [if_pos (of_decide_eq_true h4)], h5⟩
  · obtain ⟨c, m, h1, h2, h3⟩ := srcK.elim h
    obtain ⟨h4, cs', n', rfl, rfl, h5⟩ := req.elim h3
    simp only [Bool.and_eq_true, decide_eq_true_eq] at h4
    exact ⟨_, _, _, by simp only [c_app, h1, h2, bSl]; rw [if_pos ⟨h4.1.1.1, h4.1.1.2.1, h4.1.1.2.2.1, h4.1.1.2.2.2.1, h4.1.1.2.2.2.2, h4.1.2, h4.2⟩], h5⟩
  · exact h.elim
theorem k_nextS_good {vals : List Value} {objs : List VObj} {K : CK} (h : k_nextS vals objs K) : Good (c_nextS vals objs) K := by
  unfold k_nextS at h
  split at h
  · rename_i s pos
    cases hb : decide (pos < s.size) with
    | true => rw [hb] at h; exact ⟨_, _, _, by simp only [c_nextS]; rw [if_pos (of_decide_eq_true hb)], h⟩
    | false => rw [hb] at h; exact ⟨_, _, _, by simp only [c_nextS]; rw [if_neg (of_decide_eq_false hb)], h⟩
  · exact h.elim
theorem coreK.good {op : VOp} {vals : List Value} {objs : List VObj} {top : Nat} {K : CK} (h : coreK op vals objs top K) : Good (core op vals objs top) K := by
  cases op with
  | pick => exact k_pick_good h
  | load1 => exact k_load1_good h
  | loadN => exact k_loadN_good h
  | store => exact k_store_good h
  | bin => exact k_bin_good h
  | isNil => exact k_isNil_good h
  | b2s => exact k_b2s_good h
  | s2b => exact k_s2b_good h
  | mkSl => exact k_mkSl_good h
  | sliceS => exact k_sliceS_good h
  | sliceL => exact k_sliceL_good h
  | sliceA => exact k_sliceA_good h
  | idxAA => exact k_idxAA_good h
  | idxAL => exact k_idxAL_good h
  | idxV1 => exact k_idxV1_good h
  | idxVN => exact k_idxVN_good h
  | idxS => exact k_idxS_good h
  | ixb => exact k_ixb_good h
  | app => exact k_app_good h
  | ustr => exact k_ustr_good h
  | clr => exact k_clr_good h
  | build => exact k_build_good h
  | buildSl => exact k_buildSl_good h
  | nextS => exact k_nextS_good h
  | _ => exact optK.good h
def aputsK (h : Hp) (is : List Nat) (os : List (Option VObj)) (K : Hp → Prop) : Prop :=
  match is, os with
  | i :: is, some o :: os => aputK h i o fun h' => aputsK h' is os K
  | i :: is, none :: os => adelK h i fun h' => aputsK h' is os K
  | _, _ => K h
theorem aputsK_eq : ∀ (is : List Nat) (os : List (Option VObj)) (h : Hp) (K : Hp → Prop), aputsK h is os K = K (aputs h is os)
  | [], _, h, K => by simp [aputsK, aputs]
  | i :: is, [], h, K => by simp [aputsK, aputs]
  | i :: is, some o :: os, h, K => by rw [aputsK, aputK_eq, aputsK_eq is os]; simp [aputs]
  | i :: is, none :: os, h, K => by rw [aputsK, adelK_eq, aputsK_eq is os]; simp [aputs]
def opK (op : VOp) (vals : List Value) (h : Hp) (top : Nat) (K : Option Value → Hp → Nat → Prop) : Prop :=
  match agets h (needs op vals) with
  | none => False
  | some objs => coreK op vals objs top fun v os fr => aputsK h (needs op vals) os fun h' => match fr with
    | none => K v h' top
    | some o => aputK h' top o fun h'' => K v h'' (top + 1)
theorem opK.elim {op : VOp} {vals : List Value} {h : Hp} {top : Nat} {K : Option Value → Hp → Nat → Prop} (hk : opK op vals h top K) : ∃ v h' top', opRun op vals h top = some (v, h', top') ∧ K v h' top' := by
  unfold opK at hk
  split at hk
  · exact hk.elim
  · rename_i objs hobjs
    obtain ⟨v, os, fr, hc, hk⟩ := hk.good
    rw [aputsK_eq] at hk
    cases fr with
    | none => exact ⟨v, _, _, by simp only [opRun, hobjs, hc], hk⟩
    | some o => simp only [aputK_eq] at hk; exact ⟨v, _, _, by simp only [opRun, hobjs, hc], hk⟩
def putK (n : Nat) (e : Env) (d : Option Nat) (v : Value) (K : Env → Prop) : Prop :=
  match d with
  | some i => cond (Nat.blt i n) (aputK e i v K) (K e)
  | none => K e
theorem putK_eq (n : Nat) (e : Env) (d : Option Nat) (v : Value) (K : Env → Prop) : putK n e d v K = K (putD n e d v) := by
  cases d with
  | none => rfl
  | some i => simp only [putK, putD]; cases Nat.blt i n <;> simp [aputK_eq]
def enumK (i : Nat) (vs : List Value) (K : Env → Prop) : Prop :=
  match vs with
  | [] => K []
  | v :: vs => enumK (i + 1) vs fun e => K ((i, v) :: e)
theorem enumK_eq : ∀ (vs : List Value) (i : Nat) (K : Env → Prop), enumK i vs K = K (enumEnv i vs)
  | [], _, _ => rfl
  | v :: vs, i, K => by rw [enumK, enumK_eq vs]; rfl
def enterK (F : Fns) (f : Nat) (args : List Value) (K : VFrame → Prop) : Prop :=
  match F f with
  | some ⟨nt, body, _⟩ => cond (Nat.ble args.length nt) (enumK 0 args fun e => K ⟨f, nt, e, [.code body], [], false, none⟩) False
  | none => False
theorem enterK.elim {F : Fns} {f : Nat} {args : List Value} {K : VFrame → Prop} (h : enterK F f args K) : ∃ c, enterF F f args = some c ∧ K c := by
  unfold enterK at h
  split at h
  · rename_i nt body rs hf
    cases hb : Nat.ble args.length nt with
    | false => rw [hb] at h; exact h.elim
    | true =>
      rw [hb, cond_true, enumK_eq] at h
      exact ⟨_, by simp only [enterF, hf]; rw [if_pos (Nat.le_of_ble_eq_true hb)], h⟩
  · exact h.elim
def finishK (u : VFrame) (v : Value) (K : VFrame → Prop) : Prop :=
  match u with
  | ⟨fn, nt, env, .inReg (⟨dst, _, _⟩ :: rest) :: k, defers, ret, round⟩ => putK nt env dst v fun e => K ⟨fn, nt, e, .inReg rest :: k, defers, ret, round⟩
  | ⟨fn, nt, env, .inRangeFunc l :: k, defers, ret, round⟩ => K ⟨fn, nt, env, .endRangeFunc l :: k, defers, ret, round⟩
  | _ => False
theorem finishK.elim {u : VFrame} {v : Value} {K : VFrame → Prop} (h : finishK u v K) : ∃ u', finish u v = some u' ∧ K u' := by
  unfold finishK at h
  split at h
  · rw [putK_eq] at h; exact ⟨_, rfl, h⟩
  · exact ⟨_, rfl, h⟩
  · exact h.elim
def resK (e : Env) (h : Hp) (rs : List VRes) (K : List Value → Prop) : Prop :=
  match rs with
  | [] => K []
  | .tmp t :: rs => match aget e t with
    | some v => resK e h rs fun vs => K (v :: vs)
    | none => False
  | .cell t ks agg :: rs => match aget e t with
    | some (.pointer (some ⟨b, o, none⟩)) => match aget h b with
      | some ob => match ob.cs with
        | some cs => cond agg (req (decide (o + ks.length ≤ cs.length)) (rdN cs o ks.length fun l => resK e h rs fun vs => K (.agg ⟨l⟩ :: vs))) (rd cs o fun v => resK e h rs fun vs => K (v :: vs))
        | none => False
      | none => False
    | _ => False
theorem resK.elim {e : Env} {h : Hp} : ∀ {rs : List VRes} {K : List Value → Prop}, resK e h rs K → ∃ vs, resVs e h rs = some vs ∧ K vs
  | [], K, hk => ⟨[], rfl, hk⟩
  | .tmp t :: rs, K, hk => by
    simp only [resK] at hk
    split at hk
    · rename_i v hv
      obtain ⟨vs, h1, h2⟩ := resK.elim hk
      exact ⟨v :: vs, by simp only [resVs, resV, hv, h1], h2⟩
    · exact hk.elim
  | .cell t ks agg :: rs, K, hk => by
    simp only [resK] at hk
    split at hk
    · rename_i b o hp
      split at hk
      · rename_i ob hob
        split at hk
        · rename_i cs hcs
          cases agg with
          | true =>
            obtain ⟨h1, h2⟩ := req.elim hk
            obtain ⟨_, h3⟩ := rdN.elim h2
            obtain ⟨vs, h4, h5⟩ := resK.elim h3
            exact ⟨_, by simp only [resVs, resV, hp, hob, hcs, ↓reduceIte, if_pos (of_decide_eq_true h1), h4], h5⟩
          | false =>
            obtain ⟨v, h1, h2⟩ := rd.elim hk
            obtain ⟨vs, h4, h5⟩ := resK.elim h2
            exact ⟨_, by simp only [resVs, resV, hp, hob, hcs, Bool.false_eq_true, ↓reduceIte, h1, h4], h5⟩
        · exact hk.elim
      · exact hk.elim
    · exact hk.elim
def forceO (o : VObj) (K : VObj → Prop) : Prop :=
  match o with
  | .cells cs => K (.cells cs)
  | .row own cs => K (.row own cs)
  | .ty t cs => K (.ty t cs)
  | .siter s p => K (.siter s p)
  | .loop l => K (.loop l)
  | .marks => K .marks
theorem forceO_eq (o : VObj) (K : VObj → Prop) : forceO o K = K o := by cases o <;> rfl
def forceH (h : Hp) (K : Hp → Prop) : Prop :=
  match h with
  | [] => K []
  | (i, o) :: l => forceO o fun o => forceH l fun l => K ((i, o) :: l)
theorem forceH_eq : ∀ (h : Hp) (K : Hp → Prop), forceH h K = K h
  | [], K => rfl
  | (i, o) :: l, K => by rw [forceH, forceO_eq, forceH_eq l]
def sumK (s : Summ) (vals : List Value) (h : Hp) (top : Nat) (K : Value → Hp → Nat → Prop) : Prop :=
  match sumRun s vals h top with
  | some (v, h', top') => forceV v fun v => forceH h' fun h' => K v h' top'
  | none => False
theorem sumK.elim {s : Summ} {vals : List Value} {h : Hp} {top : Nat} {K : Value → Hp → Nat → Prop} (hk : sumK s vals h top K) : ∃ v h' top', sumRun s vals h top = some (v, h', top') ∧ K v h' top' := by
  unfold sumK at hk
  split at hk
  · rw [forceV_eq, forceH_eq] at hk; exact ⟨_, _, _, by assumption, hk⟩
  · exact hk.elim
def stepOpK (F : Fns) (S : Sums) (o : VOper) (rest : List VOper) (k : List VItem) (fn nt : Nat) (env : Env) (defers : List Nat) (round : Option Nat) (up : List VFrame) (h : Hp) (top : Nat) (K : VM → Prop) : Prop :=
  match o with
  | ⟨dst, op, g⟩ => match evalL env op.ops with
    | none => False
    | some vals => match op with
      | .callF f _ => match S f with
        | some s => sumK s vals h top fun v h' top' => putK nt env dst v fun e => K ⟨⟨fn, nt, e, .inReg rest :: k, defers, false, round⟩, up, h', top'⟩
        | none => enterK F f vals fun c => K ⟨c, ⟨fn, nt, env, .inReg (⟨dst, op, g⟩ :: rest) :: k, defers, false, round⟩ :: up, h, top⟩
      | .callV _ _ => match vals with
        | .func (.func f) ⟨first⟩ ⟨caps⟩ :: args => match S f with
          | some s => sumK s (first ++ args ++ caps) h top fun v h' top' => putK nt env dst v fun e => K ⟨⟨fn, nt, e, .inReg rest :: k, defers, false, round⟩, up, h', top'⟩
          | none => enterK F f (first ++ args ++ caps) fun c => K ⟨c, ⟨fn, nt, env, .inReg (⟨dst, op, g⟩ :: rest) :: k, defers, false, round⟩ :: up, h, top⟩
        | .func (.yield l) ⟨[]⟩ ⟨[]⟩ :: args => match callRound l args h with
          | some c => K ⟨c, ⟨fn, nt, env, .inReg (⟨dst, op, g⟩ :: rest) :: k, defers, false, round⟩ :: up, h, top⟩
          | none => False
        | _ => False
      | op => opK op vals h top fun v h' top' => match v with
        | some v => putK nt env dst v fun e => K ⟨⟨fn, nt, e, .inReg rest :: k, defers, false, round⟩, up, h', top'⟩
        | none => putK nt env dst undefV fun e => K ⟨⟨fn, nt, e, .inReg rest :: k, defers, false, round⟩, up, h', top'⟩
theorem stepOpK.elim {F : Fns} {S : Sums} {o : VOper} {rest : List VOper} {k : List VItem} {fn nt : Nat} {env : Env} {todo : List VItem} {defers : List Nat} {round : Option Nat} {up : List VFrame} {h : Hp} {top : Nat} {K : VM → Prop}
    (hk : stepOpK F S o rest k fn nt env defers round up h top K) : ∃ vm', stepOp F S o rest k ⟨fn, nt, env, todo, defers, false, round⟩ up h top = some vm' ∧ K vm' := by
  obtain ⟨dst, op, g⟩ := o
  unfold stepOpK at hk
  unfold stepOp
  simp only at hk ⊢
  split at hk
  · exact hk.elim
  · rename_i vals hv
    simp only [hv]
    split at hk
    · rename_i f xs
      split at hk
      · rename_i s hs
        obtain ⟨v, h', top', h1, h2⟩ := hk.elim
        rw [putK_eq] at h2
        exact ⟨_, by simp only [hs, h1], h2⟩
      · rename_i hs
        obtain ⟨c, h1, h2⟩ := hk.elim
        exact ⟨_, by simp only [hs, h1], h2⟩
    · split at hk
      · split at hk
        · rename_i s hs
          obtain ⟨v, h', top', h1, h2⟩ := hk.elim
          rw [putK_eq] at h2
          exact ⟨_, by simp only [hs, h1], h2⟩
        · rename_i hs
          obtain ⟨c, h1, h2⟩ := hk.elim
          exact ⟨_, by simp only [hs, h1], h2⟩
      · split at hk
        · rename_i c hc
          exact ⟨_, by simp only [hc], hk⟩
        · exact hk.elim
      · exact hk.elim
    · rename_i hne1 hne2
      obtain ⟨v, h', top', h1, h2⟩ := hk.elim
      refine ⟨⟨⟨fn, nt, putD nt env dst (v.getD undefV), .inReg rest :: k, defers, false, round⟩, up, h', top'⟩, ?_, ?_⟩
      · split
        · exact absurd rfl (hne1 _ _)
        · exact absurd rfl (hne2 _ _)
        · simp only [h1]
      · cases v with
        | none => simp only [putK_eq] at h2; exact h2
        | some v => simp only [putK_eq] at h2; exact h2
def setBK (e : Env) (d : Nat) (x : Bool) (K : Env → Prop) : Prop :=
  match e with
  | [] => K []
  | (i, v) :: l => cond (Nat.beq i d) (K ((i, .bool x) :: l)) (setBK l d x fun l' => K ((i, v) :: l'))
theorem setBK_eq : ∀ {e : Env} {d : Nat} {x : Bool} {K : Env → Prop}, aget e d = some (.bool x) → setBK e d x K = K e
  | [], d, x, K, h => rfl
  | (i, v) :: l, d, x, K, h => by
    simp only [aget] at h
    simp only [setBK]
    cases hb : Nat.beq i d with
    | true => rw [hb, cond_true, Option.some.injEq] at h; subst h; rfl
    | false => rw [hb, cond_false] at h; simp only [cond_false]; rw [setBK_eq h]
def leaveRoundK (l : Nat) (jump : Option VC) (up : List VFrame) (h : Hp) (top : Nat) (K : VM → Prop) : Prop :=
  match leaveRound l jump up h top with
  | some ⟨u, us, h', top'⟩ => K ⟨u, us, h', top'⟩
  | none => False
theorem leaveRoundK.elim {l : Nat} {jump : Option VC} {up : List VFrame} {h : Hp} {top : Nat} {K : VM → Prop} (hk : leaveRoundK l jump up h top K) : ∃ vm', leaveRound l jump up h top = some vm' ∧ K vm' := by
  unfold leaveRoundK at hk
  split at hk
  · exact ⟨_, by assumption, hk⟩
  · exact hk.elim
def forceNL (l : List Nat) (K : List Nat → Prop) : Prop :=
  match l with
  | [] => K []
  | n :: l => forceNL l (fun l' => K (n :: l'))
theorem forceNL_eq : ∀ (l : List Nat) (K : List Nat → Prop), forceNL l K = K l
  | [], _ => rfl
  | v :: l, K => by rw [forceNL, forceNL_eq l]
def stepDK (S : Sums) (nt : Nat) (o : VOper) (e : Env) (h : Hp) (m : Nat) (K : Env → Hp → Nat → List Nat → List Nat → Prop) : Prop :=
  match o with
  | ⟨dst, op, _⟩ => match evalL e op.ops with
    | none => False
    | some vals => match op with
      | .callF f _ => match S f with
        | some s => sumK s vals h m fun v h' m' => putK nt e dst v fun e => forceNL (winBlks (winL h s.modes vals)) fun r => forceNL (winWr (winL h s.modes vals)) fun w => K e h' m' r w
        | none => False
      | .callV _ _ => match vals with
        | .func (.func f) ⟨first⟩ ⟨caps⟩ :: args => match S f with
          | some s => sumK s (first ++ args ++ caps) h m fun v h' m' => putK nt e dst v fun e => forceNL (winBlks (winL h s.modes (first ++ args ++ caps))) fun r => forceNL (winWr (winL h s.modes (first ++ args ++ caps))) fun w => K e h' m' r w
          | none => False
        | _ => False
      | op => opK op vals h m fun v h' m' => match v with
        | some v => putK nt e dst v fun e => K e h' m' (needs op vals) (cond (wrOp op) (needs op vals) [])
        | none => putK nt e dst undefV fun e => K e h' m' (needs op vals) (cond (wrOp op) (needs op vals) [])
theorem stepDK.elim {S : Sums} {nt : Nat} {o : VOper} {e : Env} {h : Hp} {m : Nat} {K : Env → Hp → Nat → List Nat → List Nat → Prop} (hk : stepDK S nt o e h m K) (hw : wantedV e o.g = some true) :
    ∃ e' h' m' r w, stepD S nt o e h m = some (e', h', m', r, w) ∧ K e' h' m' r w := by
  obtain ⟨dst, op, g⟩ := o
  unfold stepDK at hk
  simp only at hk hw
  unfold stepD
  simp only [hw]
  split at hk
  · exact hk.elim
  · rename_i vals hv
    simp only [hv]
    split at hk
    · split at hk
      · rename_i s hs
        obtain ⟨v, h', m', h1, h2⟩ := hk.elim
        rw [putK_eq, forceNL_eq, forceNL_eq] at h2
        exact ⟨_, _, _, _, _, by simp only [hs, h1], h2⟩
      · exact hk.elim
    · split at hk
      · split at hk
        · rename_i s hs
          obtain ⟨v, h', m', h1, h2⟩ := hk.elim
          rw [putK_eq, forceNL_eq, forceNL_eq] at h2
          exact ⟨_, _, _, _, _, by simp only [hs, h1], h2⟩
        · exact hk.elim
      · exact hk.elim
    · rename_i hne1 hne2
      obtain ⟨v, h', m', h1, h2⟩ := hk.elim
      refine ⟨putD nt e dst (v.getD undefV), h', m', needs op vals, cond (wrOp op) (needs op vals) [], ?_, ?_⟩
      · split
        · exact absurd rfl (hne1 _ _)
        · exact absurd rfl (hne2 _ _)
        · simp only [h1]
      · cases v with
        | none => simp only [putK_eq] at h2; exact h2
        | some v => simp only [putK_eq] at h2; exact h2
def stepGK (S : Sums) (nt : Nat) (o : VOper) (e : Env) (h : Hp) (m : Nat) (K : Env → Hp → Nat → List Nat → List Nat → Prop) : Prop :=
  match o with
  | ⟨dst, op, none⟩ => stepDK S nt ⟨dst, op, none⟩ e h m K
  | ⟨dst, op, some (d, x)⟩ => match aget e d with
    | some (.bool b) => cond x
        (br b (setBK e d true fun e => stepDK S nt ⟨dst, op, some (d, x)⟩ e h m K) (setBK e d false fun e => putK nt e dst undefV fun e => K e h m [] []))
        (br b (setBK e d true fun e => putK nt e dst undefV fun e => K e h m [] []) (setBK e d false fun e => stepDK S nt ⟨dst, op, some (d, x)⟩ e h m K))
    | some (.tuple ⟨[]⟩) => putK nt e dst undefV fun e => K e h m [] []
    | _ => False
def regDK (S : Sums) (nt : Nat) (os : List VOper) (e : Env) (h : Hp) (m : Nat) (K : List Fp → Env → Hp → Nat → Prop) : Prop :=
  match os with
  | [] => K [] e h m
  | o :: os => stepGK S nt o e h m fun e1 h1 m1 r w => regDK S nt os e1 h1 (m1 + 1) fun fps e h m' => K ((r, w ++ List.range' m (m1 - m)) :: fps) e h m'
theorem br.cases {b : Bool} {p q : Prop} (h : br b p q) : (b = true ∧ p) ∨ (b = false ∧ q) := by cases b; exact .inr ⟨rfl, h⟩; exact .inl ⟨rfl, h⟩
theorem stepGK.elim {S : Sums} {nt : Nat} {o : VOper} {e : Env} {h : Hp} {m : Nat} {K : Env → Hp → Nat → List Nat → List Nat → Prop} (hk : stepGK S nt o e h m K) :
    ∃ e' h' m' r w, stepD S nt o e h m = some (e', h', m', r, w) ∧ K e' h' m' r w := by
  obtain ⟨dst, op, g⟩ := o
  cases g with
  | none => exact stepDK.elim (o := ⟨dst, op, none⟩) hk rfl
  | some p =>
    obtain ⟨d, x⟩ := p
    simp only [stepGK] at hk
    have skip : wantedV e (some (d, x)) = some false → (putK nt e dst undefV fun e => K e h m [] []) → ∃ e' h' m' r w, stepD S nt ⟨dst, op, some (d, x)⟩ e h m = some (e', h', m', r, w) ∧ K e' h' m' r w := fun hw hk => by
      rw [putK_eq] at hk
      exact ⟨_, _, _, _, _, by simp only [stepD, hw], hk⟩
    split at hk
    · rename_i b hb
      cases x with
      | true =>
        rw [cond_true] at hk
        rcases hk.cases with ⟨rfl, hk⟩ | ⟨rfl, hk⟩ <;> rw [setBK_eq hb] at hk
        · exact stepDK.elim (show stepDK S nt ⟨dst, op, some (d, true)⟩ e h m K from hk) (by simp [wantedV, hb])
        · exact skip (by simp [wantedV, hb]) hk
      | false =>
        rw [cond_false] at hk
        rcases hk.cases with ⟨rfl, hk⟩ | ⟨rfl, hk⟩ <;> rw [setBK_eq hb] at hk
        · exact skip (by simp [wantedV, hb]) hk
        · exact stepDK.elim (show stepDK S nt ⟨dst, op, some (d, false)⟩ e h m K from hk) (by simp [wantedV, hb])
    · rename_i hb
      exact skip (by simp [wantedV, hb]) hk
    · exact hk.elim
theorem regDK.elim {S : Sums} {nt : Nat} : ∀ {os : List VOper} {e : Env} {h : Hp} {m : Nat} {K : List Fp → Env → Hp → Nat → Prop}, regDK S nt os e h m K → ∃ fps e' h' m', runD S nt os e h m = some (fps, e', h', m') ∧ K fps e' h' m'
  | [], e, h, m, K, hk => ⟨_, _, _, _, rfl, hk⟩
  | o :: os, e, h, m, K, hk => by
    simp only [regDK] at hk
    obtain ⟨e1, h1, m1, r, w, g1, g2⟩ := hk.elim
    obtain ⟨fps, e', h', m', k1, k2⟩ := regDK.elim g2
    exact ⟨_, _, _, _, by simp only [runD, g1, k1], k2⟩
def evStep (F : Fns) (S : Sums) (f : Nat) (lp : Bool) (L : VM → Prop) (E : Value → Hp → Nat → Prop) (K : VM → Prop) : VM → Prop
  | ⟨⟨fn, nt, env, todo, defers, ret, round⟩, up, h, top⟩ =>
    match ret with
    | true => match defers with
      | r :: ds => match aget h r with
        | some .marks => adelK h r fun h' => K ⟨⟨fn, nt, env, todo, ds, true, round⟩, up, h', top⟩
        | _ => False
      | [] => match F fn with
        | some ⟨_, _, rs⟩ => resK env h rs fun vs => match up with
          | u :: us => forceV (tupV vs) fun v => finishK u v fun u' => K ⟨u', us, h, top⟩
          | [] => cond (Nat.beq fn f) (forceV (tupV vs) fun v => E v h top) False
        | none => False
    | false => match todo with
      | [] => match round with
        | none => K ⟨⟨fn, nt, env, [], defers, true, none⟩, up, h, top⟩
        | some l => leaveRoundK l none up h top K
      | .code .ret :: k => match round with
        | none => K ⟨⟨fn, nt, env, .code .ret :: k, defers, true, none⟩, up, h, top⟩
        | some l => leaveRoundK l (some .ret) up h top K
      | .code .skip :: k => K ⟨⟨fn, nt, env, k, defers, false, round⟩, up, h, top⟩
      | .inScope :: k => K ⟨⟨fn, nt, env, k, defers, false, round⟩, up, h, top⟩
      | .code (.scope b) :: k => K ⟨⟨fn, nt, env, .code b :: .inScope :: k, defers, false, round⟩, up, h, top⟩
      | .inBlock _ :: k => K ⟨⟨fn, nt, env, k, defers, false, round⟩, up, h, top⟩
      | .code (.seq a b) :: k => K ⟨⟨fn, nt, env, .code a :: .code b :: k, defers, false, round⟩, up, h, top⟩
      | .code (.cond c a b) :: k => match evalO env c with
        | some (.bool x) => br x (K ⟨⟨fn, nt, env, .code a :: k, defers, false, round⟩, up, h, top⟩) (K ⟨⟨fn, nt, env, .code b :: k, defers, false, round⟩, up, h, top⟩)
        | _ => False
      | .code (.block id b) :: k => K ⟨⟨fn, nt, env, .code b :: .inBlock id :: k, defers, false, round⟩, up, h, top⟩
      | .code (.loop b) :: k => cond lp (L ⟨⟨fn, nt, env, .code b :: .inLoop b :: k, defers, false, round⟩, up, h, top⟩) (K ⟨⟨fn, nt, env, .code b :: .inLoop b :: k, defers, false, round⟩, up, h, top⟩)
      | .inLoop b :: k => cond lp (L ⟨⟨fn, nt, env, .code b :: .inLoop b :: k, defers, false, round⟩, up, h, top⟩) (K ⟨⟨fn, nt, env, .code b :: .inLoop b :: k, defers, false, round⟩, up, h, top⟩)
      | .code (.exit id) :: k => match exitTo id k with
        | some k' => K ⟨⟨fn, nt, env, k', defers, false, round⟩, up, h, top⟩
        | none => match round with
          | none => False
          | some l => leaveRoundK l (some (.exit id)) up h top K
      | .code (.reg ops) :: k => K ⟨⟨fn, nt, env, .inReg ops :: k, defers, false, round⟩, up, h, top⟩
      | .code .stuck :: _ => False
      | .code (.regD ops ord post) :: k => regDK S nt ops env h top fun fps e h m => req (okPairs fps ord) (K ⟨⟨fn, nt, e, .inReg post :: k, defers, false, round⟩, up, h, m⟩)
      | .inReg [] :: k => K ⟨⟨fn, nt, env, k, defers, false, round⟩, up, h, top⟩
      | .inReg (⟨dst, op, none⟩ :: rest) :: k => stepOpK F S ⟨dst, op, none⟩ rest k fn nt env defers round up h top K
      | .inReg (⟨dst, op, some (d, w)⟩ :: rest) :: k => match aget env d with
        | some (.bool b) => cond w
            (br b (setBK env d true fun env => stepOpK F S ⟨dst, op, some (d, w)⟩ rest k fn nt env defers round up h top K) (setBK env d false fun env => putK nt env dst undefV fun e => K ⟨⟨fn, nt, e, .inReg rest :: k, defers, false, round⟩, up, h, top⟩))
            (br b (setBK env d true fun env => putK nt env dst undefV fun e => K ⟨⟨fn, nt, e, .inReg rest :: k, defers, false, round⟩, up, h, top⟩) (setBK env d false fun env => stepOpK F S ⟨dst, op, some (d, w)⟩ rest k fn nt env defers round up h top K))
        | some (.tuple ⟨[]⟩) => putK nt env dst undefV fun e => K ⟨⟨fn, nt, e, .inReg rest :: k, defers, false, round⟩, up, h, top⟩
        | _ => False
      | .code (.rangeF f ps asg body) :: k => match evalO env f, round with
        | some (.func (.func g) ⟨first⟩ ⟨caps⟩), none =>
          enterK F g (first ++ [.func (.yield (top + 1)) #[] #[]] ++ caps) fun c => aputK h top .marks fun h1 => aputK h1 (top + 1) (.loop ⟨.ready, none, fn, nt, env, ps, asg, body, top⟩) fun h2 =>
            K ⟨c, ⟨fn, nt, env, .inRangeFunc (top + 1) :: k, top :: defers, false, none⟩ :: up, h2, top + 2⟩
        | some (.func (.func g) ⟨first⟩ ⟨caps⟩), some l0 => match aget h l0 with
          | some (.loop r0) => enterK F g (first ++ [.func (.yield top) #[] #[]] ++ caps) fun c => aputK h top (.loop ⟨.ready, none, fn, nt, env, ps, asg, body, r0.defers⟩) fun h2 =>
              K ⟨c, ⟨fn, nt, env, .inRangeFunc top :: k, defers, false, some l0⟩ :: up, h2, top + 1⟩
          | _ => False
        | _, _ => False
      | .inRangeFunc _ :: _ => False
      | .endRangeFunc l :: k => match aget h l with
        | some (.loop ⟨st, pend, fn', nt', env', ps, asg, body, ds⟩) => match st with
          | .busy => False
          | _ => aputK h l (.loop ⟨.exhausted, pend, fn', nt', env', ps, asg, body, ds⟩) fun h' => match pend with
            | some c => K ⟨⟨fn, nt, env, .code c :: k, defers, false, round⟩, up, h', top⟩
            | none => K ⟨⟨fn, nt, env, k, defers, false, round⟩, up, h', top⟩
        | _ => False
      | .beginRound :: k => match round with
        | some l => match aget h l with
          | some (.loop ⟨st, pend, fn', nt', env', ps, asg, body, ds⟩) => match st with
            | .ready => aputK h l (.loop ⟨.busy, pend, fn', nt', env', ps, asg, body, ds⟩) fun h' => K ⟨⟨fn, nt, env, k, defers, false, some l⟩, up, h', top⟩
            | _ => False
          | _ => False
        | none => False
section
variable {P : Program} {F : Fns} {S : Sums}
theorem evStep_ok (hF : FnsOK P F) (hS : SumsOK P S) {f base : Nat} {lp : Bool} {R : Value → Hp → Nat → Prop} {K : VM → Prop} (hK : ∀ vm, K vm → Leads P f base vm R) {vm : VM}
    (h : evStep F S f lp (fun vm => Leads P f base vm R) R K vm) : Leads P f base vm R := by
  obtain ⟨⟨fn, nt, env, todo, defers, ret, round⟩, up, H, top⟩ := vm
  unfold evStep at h
  simp only at h
  have go : ∀ vm', vstep F S ⟨⟨fn, nt, env, todo, defers, ret, round⟩, up, H, top⟩ = some vm' → K vm' → Leads P f base ⟨⟨fn, nt, env, todo, defers, ret, round⟩, up, H, top⟩ R :=
    fun vm' h1 h2 => Leads.next hF hS h1 (hK _ h2)
  split at h
  · split at h
    · split at h
      · rename_i hm
        rw [adelK_eq] at h
        exact go _ (by simp only [vstep, hm]) h
      · exact h.elim
    · split at h
      · rename_i nt' b' rs hf
        obtain ⟨vs, h1, h2⟩ := h.elim
        split at h2
        · rw [forceV_eq] at h2
          obtain ⟨u', h3, h4⟩ := h2.elim
          exact go _ (by simp only [vstep, hf, h1, h3]) h4
        · cases hb : Nat.beq fn f with
          | false => rw [hb] at h2; exact h2.elim
          | true =>
            rw [hb, cond_true, forceV_eq] at h2
            have := Nat.eq_of_beq_eq_true hb
            subst this
            exact Leads.stop hF hf h1 h2
      · exact h.elim
  · split at h
    · split at h
      · exact go _ (by simp only [vstep]) h
      · obtain ⟨vm', h1, h2⟩ := h.elim
        exact go _ (by simp only [vstep, h1]) h2
    · split at h
      · exact go _ (by simp only [vstep]) h
      · obtain ⟨vm', h1, h2⟩ := h.elim
        exact go _ (by simp only [vstep, h1]) h2
    · exact go _ (by simp only [vstep]) h
    · exact go _ (by simp only [vstep]) h
    · exact go _ (by simp only [vstep]) h
    · exact go _ (by simp only [vstep]) h
    · exact go _ (by simp only [vstep]) h
    · split at h
      · rename_i x hx
        rcases h.cases with ⟨rfl, h⟩ | ⟨rfl, h⟩
        · exact go _ (by simp only [vstep, hx]; rfl) h
        · exact go _ (by simp only [vstep, hx]; rfl) h
      · exact h.elim
    · exact go _ (by simp only [vstep]) h
    · cases lp
      · exact go _ (by simp only [vstep]) h
      · exact Leads.next hF hS (vm' := _) (by simp only [vstep]) h
    · cases lp
      · exact go _ (by simp only [vstep]) h
      · exact Leads.next hF hS (vm' := _) (by simp only [vstep]) h
    · split at h
      · rename_i k' hk'
        exact go _ (by simp only [vstep, hk']) h
      · rename_i hk'
        split at h
        · exact h.elim
        · obtain ⟨vm', h1, h2⟩ := h.elim
          exact go _ (by simp only [vstep, hk', h1]) h2
    · exact go _ (by simp only [vstep]) h
    · exact h.elim
    · obtain ⟨fps, e', h', m', g1, g2⟩ := h.elim
      obtain ⟨g3, g4⟩ := g2.elim
      exact go _ (by simp only [vstep, g1, g3]) g4
    · exact go _ (by simp only [vstep]) h
    · obtain ⟨vm', h1, h2⟩ := stepOpK.elim (todo := _) h
      exact go _ (by simp only [vstep, wantedV]; exact h1) h2
    · split at h
      · rename_i b hb
        rename_i w _ _ _
        cases w
        · rcases h.cases with ⟨rfl, h'⟩ | ⟨rfl, h'⟩ <;> rw [setBK_eq hb] at h'
          · rw [putK_eq] at h'
            replace h := h'
            exact go _ (by simp only [vstep, wantedV, hb]; rfl) h
          · obtain ⟨vm', h1, h2⟩ := stepOpK.elim (todo := _) h'
            exact go _ (by simp only [vstep, wantedV, hb]; exact h1) h2
        · rcases h.cases with ⟨rfl, h'⟩ | ⟨rfl, h'⟩ <;> rw [setBK_eq hb] at h'
          · obtain ⟨vm', h1, h2⟩ := stepOpK.elim (todo := _) h'
            exact go _ (by simp only [vstep, wantedV, hb]; exact h1) h2
          · rw [putK_eq] at h'
            replace h := h'
            exact go _ (by simp only [vstep, wantedV, hb]; rfl) h
      · rename_i hb
        rw [putK_eq] at h
        exact go _ (by simp only [vstep, wantedV, hb]) h
      · exact h.elim
    · split at h
      · rename_i hfv
        obtain ⟨c, h1, h2⟩ := h.elim
        rw [aputK_eq, aputK_eq] at h2
        exact go _ (by simp only [vstep, hfv, h1]) h2
      · rename_i hfv
        split at h
        · rename_i r0 hr0
          obtain ⟨c, h1, h2⟩ := h.elim
          rw [aputK_eq] at h2
          exact go _ (by simp only [vstep, hfv, hr0, h1]) h2
        · exact h.elim
      · exact h.elim
    · exact h.elim
    · split at h
      · rename_i hl
        split at h
        · exact h.elim
        · rename_i hb
          rw [aputK_eq] at h
          split at h
          · rename_i st _ _ _ _ _ _ _ _ _ _
            exact go _ (by simp only [vstep, hl]; cases st <;> first | exact absurd rfl hb | rfl) h
          · rename_i st _ _ _ _ _ _ _ _ _
            exact go _ (by simp only [vstep, hl]; cases st <;> first | exact absurd rfl hb | rfl) h
      · exact h.elim
    · split at h
      · split at h
        · rename_i hl
          split at h
          · rw [aputK_eq] at h
            exact go _ (by simp only [vstep, hl]) h
          · exact h.elim
        · exact h.elim
      · exact h.elim
def ev (F : Fns) (S : Sums) (f : Nat) (lp : Bool) (L : VM → Prop) (E : Value → Hp → Nat → Prop) : Nat → VM → Prop
  | 0, vm => L vm
  | n + 1, vm => evStep F S f lp L E (ev F S f lp L E n) vm
theorem ev_ok (hF : FnsOK P F) (hS : SumsOK P S) {f base : Nat} (lp : Bool) {R : Value → Hp → Nat → Prop} : ∀ (n : Nat) {vm : VM}, ev F S f lp (fun vm => Leads P f base vm R) R n vm → Leads P f base vm R
  | 0, _, h => h
  | n + 1, _, h => evStep_ok hF hS (fun _ h => ev_ok hF hS lp n h) h
end
end Go.Vm
namespace Go.Vm
open Go
def TabOK (P : Program) : List (Nat × VFn) → Prop
  | [] => True
  | (i, vf) :: l => (P.funcs[i]?).bind (compFn P) = some vf ∧ TabOK P l
theorem FnsOK.of_tab {P : Program} : ∀ {l : List (Nat × VFn)}, TabOK P l → FnsOK P (aget l)
  | [], _, f, vf, h => by simp [aget] at h
  | (i, v) :: l, hl, f, vf, h => by
    obtain ⟨h1, h2⟩ := hl
    simp only [aget] at h
    cases hb : Nat.beq i f with
    | true =>
      rw [hb, cond_true, Option.some.injEq] at h
      subst h
      have := Nat.eq_of_beq_eq_true hb
      subst this
      cases hf : P.funcs[i]? with
      | none => simp [hf] at h1
      | some fn => rw [hf, Option.bind_some] at h1; exact ⟨fn, rfl, h1⟩
    | false =>
      rw [hb, cond_false] at h
      exact FnsOK.of_tab h2 f vf h
theorem SumsOK.none {P : Program} : SumsOK P (fun _ => none) := fun _ _ h => by cases h
end Go.Vm
namespace Go.Vm
open Go
def subE (e : Env) : Env → Prop
  | [] => True
  | (i, v) :: l => aget e i = some v ∧ subE e l
theorem subE_get {e : Env} : ∀ {l : Env}, subE e l → ∀ i v, aget l i = some v → aget e i = some v
  | [], _, i, v, h => by simp [aget] at h
  | (j, u) :: l, h, i, v, hv => by
    obtain ⟨h1, h2⟩ := h
    simp only [aget] at hv
    cases hb : Nat.beq j i with
    | true =>
      rw [hb, cond_true, Option.some.injEq] at hv
      subst hv
      have := Nat.eq_of_beq_eq_true hb; subst this
      exact h1
    | false =>
      rw [hb, cond_false] at hv
      exact subE_get h2 i v hv
theorem Leads.env {P : Program} {f base fn nt : Nat} {e e' : Env} {todo : List VItem} {defers : List Nat} {ret : Bool} {round : Option Nat} {up : List VFrame} {H : Hp} {top : Nat} {R : Value → Hp → Nat → Prop}
    (h : Leads P f base ⟨⟨fn, nt, e', todo, defers, ret, round⟩, up, H, top⟩ R) (hs : subE e e') : Leads P f base ⟨⟨fn, nt, e, todo, defers, ret, round⟩, up, H, top⟩ R := by
  refine ⟨fun w0 U ρ rf rfs w cs hr => ?_⟩
  exact h.get w0 U ρ rf rfs w cs ⟨{ hr.cur with env := fun i v hv => hr.cur.env i v (subE_get hs i v hv) }, hr.up, hr.heap⟩
end Go.Vm
namespace Go.Vm
open Go Go.RowKit
inductive SArg where
  | v (x : Value)
  | sl (n : Nat) (cs : List Value)
def entry (k : Nat) : List Md → List SArg → List Value
  | .v :: ms, .v x :: aqs => x :: entry k ms aqs
  | .sl sz :: ms, .sl n _ :: aqs => .slice (some ⟨k, 0, none⟩) n sz :: entry (k + 1) ms aqs
  | _, _ => []
def rowsOf (k : Nat) : List SArg → Hp
  | .sl _ cs :: aqs => (k, .row false cs) :: rowsOf (k + 1) aqs
  | .v _ :: aqs => rowsOf k aqs
  | [] => []
def wins : List SArg → Nat
  | .sl _ _ :: aqs => wins aqs + 1
  | .v _ :: aqs => wins aqs
  | [] => 0
def ArgR (w : World) : Md → SArg → Value → Prop
  | .v, .v x, rv => flatV x = true ∧ rv = x
  | .sl sz, .sl n cs, rv => ((∃ a, rv = .slice a 0 0) ∧ n = 0 ∧ cs = []) ∨ ∃ b o c, rv = .slice (some ⟨b, o, none⟩) n c ∧ n ≤ c ∧ ∀ ρ, CellsR ρ w ⟨b, o, c * sz⟩ false cs
  | _, _, _ => False
inductive ArgsR (w : World) : List Md → List SArg → List Value → Prop
  | nil : ArgsR w [] [] []
  | cons {m ms a aqs v vs} (h : ArgR w m a v) (t : ArgsR w ms aqs vs) : ArgsR w (m :: ms) (a :: aqs) (v :: vs)
theorem add_win {k n : Nat} {ρc : Ren} {vs rvs : List Value} {Hr : Hp} {w : World} (c1 : ∀ i l, ρc i = some l → k + 1 ≤ i ∧ i < k + 1 + n) (c2 : VRL ρc vs rvs)
    (c3 : ∀ i o, aget Hr i = some o → ∃ cs l, o = .row false cs ∧ ρc i = some l ∧ ∀ ρ', CellsR ρ' w l false cs) (l : Loc) (cs : List Value) (hc : ∀ ρ', CellsR ρ' w l false cs) :
    (∀ i l', upd ρc k l i = some l' → k ≤ i ∧ i < k + 1 + n) ∧ VRL (upd ρc k l) vs rvs ∧
      (∀ i o, aget ((k, .row false cs) :: Hr) i = some o → ∃ cs l', o = .row false cs ∧ upd ρc k l i = some l' ∧ ∀ ρ', CellsR ρ' w l' false cs) ∧ upd ρc k l k = some l := by
  have hoff : ρc k = none := by
    cases e : ρc k with
    | none => rfl
    | some l => have := (c1 k l e).1; omega
  refine ⟨fun i l' e => ?_, c2.mono (Ext.upd hoff), fun i o e => ?_, upd_same _ _ _⟩
  · by_cases hi : k = i
    · subst hi; omega
    · rw [upd_ne _ _ hi] at e; have := c1 i l' e; omega
  · rw [aget_cons] at e
    split at e
    · rename_i hk
      cases e; subst hk
      exact ⟨cs, l, rfl, upd_same _ _ _, hc⟩
    · rename_i hk
      obtain ⟨cs', l', a, b, c⟩ := c3 i o e
      exact ⟨cs', l', a, by rw [upd_ne _ _ hk]; exact b, c⟩
theorem argsR_fit {w : World} : ∀ {ms : List Md} {aqs : List SArg} {rvals : List Value} (k : Nat), ArgsR w ms aqs rvals →
    ∃ ρc : Ren, (∀ i l, ρc i = some l → k ≤ i ∧ i < k + wins aqs) ∧ VRL ρc (entry k ms aqs) rvals ∧
      (∀ i o, aget (rowsOf k aqs) i = some o → ∃ cs l, o = .row false cs ∧ ρc i = some l ∧ ∀ ρ', CellsR ρ' w l false cs)
  | _, _, _, k, .nil => ⟨fun _ => none, fun i l e => by simp at e, .nil, fun i o e => by simp [rowsOf, aget] at e⟩
  | _, _, _, k, .cons (m := m) (a := a) (v := v) h t => by
    cases m with
    | v =>
      cases a with
      | v x =>
        obtain ⟨hf, rfl⟩ := h
        obtain ⟨ρc, c1, c2, c3⟩ := argsR_fit k t
        exact ⟨ρc, c1, .cons (VR.flat _ _ hf) c2, c3⟩
      | _ => exact h.elim
    | sl sz =>
      cases a with
      | sl n cs =>
        obtain ⟨ρc, c1, c2, c3⟩ := argsR_fit (k + 1) t
        rcases h with ⟨⟨a, rfl⟩, rfl, rfl⟩ | ⟨b, o, c, rfl, hn, hc⟩
        · obtain ⟨d1, d2, d3, d4⟩ := add_win c1 c2 c3 ⟨0, 0, 0⟩ [] (fun ρ' => ⟨Nat.zero_le _, fun i v e => by simp at e, fun i hi => absurd hi (Nat.not_lt_zero _)⟩)
          exact ⟨_, by simpa [wins, Nat.add_assoc, Nat.add_comm 1] using d1, .cons (.slice0 _) d2, d3⟩
        · obtain ⟨d1, d2, d3, d4⟩ := add_win c1 c2 c3 ⟨b, o, c * sz⟩ cs hc
          exact ⟨_, by simpa [wins, Nat.add_assoc, Nat.add_comm 1] using d1, .cons (.slice d4 hn (by simp)) d2, d3⟩
      | _ => exact h.elim
    | pt n => cases a <;> exact h.elim
    | tr ps => cases a <;> exact h.elim
theorem calls_of_leads {P : Program} {F : Fns} (hF : FnsOK P F) {f : Nat} {ms : List Md} {aqs : List SArg} {rvals : List Value} {w : World} {c : VFrame} {r : Bool}
    (ha : ArgsR w ms aqs rvals) (hc : enterF F f (entry 0 ms aqs) = some c) (hl : Leads P f (wins aqs) ⟨c, [], rowsOf 0 aqs, wins aqs⟩ (fun v _ _ => v = .bool r)) :
    Calls P f ⟨rvals⟩ w fun e w' => e = .returned (.bool r) ∧ Below w.heap.size w w' := by
  intro cs
  obtain ⟨ρc, c1, c2, c3⟩ := argsR_fit 0 ha
  have hpc : HpR P w UG.no ρc (rowsOf 0 aqs) (wins aqs) w :=
    { obj := fun i o e => by obtain ⟨cs', l, rfl, a, b⟩ := c3 i o e; exact ⟨l, a, b ρc, fun e => by cases e⟩
      dis := fun i j oi oj li lj _ hi _ _ _ hw => by obtain ⟨cs', l, rfl, a, b⟩ := c3 i oi hi; cases hw
      lt := fun i l e => by have := c1 i l e; exact .inr ⟨Nat.zero_le _, by omega⟩
      keep := Keep.refl _ _ }
  obtain ⟨ρ', rv, fr', w', v', Hc, tc, g1, g2, g3, g4, g5, g6, g7⟩ := hl.get w _ ρc _ [] w cs ⟨(enter_ok hF hc c2).1, .nil, hpc⟩
  subst g7
  obtain rfl := g4.boolInv
  exact ⟨.returned (.bool r), w', fr', ⟨rfl, g5.keep.toBelow⟩, g1, g2, g3⟩
end Go.Vm
namespace Go.Vm
open Go
def SumTab (P : Program) : List (Nat × Summ) → Prop
  | [] => True
  | (i, s) :: l => SumOK P i s ∧ SumTab P l
theorem SumsOK.of_tab {P : Program} : ∀ {l : List (Nat × Summ)}, SumTab P l → SumsOK P (aget l)
  | [], _, f, s, h => by simp [aget] at h
  | (i, v) :: l, hl, f, s, h => by
    obtain ⟨h1, h2⟩ := hl
    simp only [aget] at h
    cases hb : Nat.beq i f with
    | true =>
      rw [hb, cond_true, Option.some.injEq] at h
      subst h
      have := Nat.eq_of_beq_eq_true hb
      subst this
      exact h1
    | false =>
      rw [hb, cond_false] at h
      exact SumsOK.of_tab h2 f s h
theorem sumK.intro {s : Summ} {vals : List Value} {h : Hp} {top : Nat} {K : Value → Hp → Nat → Prop} {v : Value} {h' : Hp} {top' : Nat} (e : sumRun s vals h top = some (v, h', top')) (k : forceV v fun v => K v h' top') : sumK s vals h top K := by
  unfold sumK; rw [e]; simp only [forceV_eq, forceH_eq] at *; exact k
theorem flatL_map {α : Type} {g : α → Value} (h : ∀ x, flatV (g x) = true) : ∀ (xs : List α), flatV.flatL (xs.map g) = true
  | [] => rfl
  | x :: xs => by rw [List.map_cons, flatV.flatL, h, flatL_map h xs]; rfl
def asI (k : IntKind) : Value → Option Int | .int k' n => if k' = k then some n else none | _ => none
theorem asI_eq (k : IntKind) (v : Value) (x : Int) (h : asI k v = some x) : v = .int k x := by
  cases v <;> simp [asI] at h
  obtain ⟨rfl, rfl⟩ := h; rfl
def reE (m : Nat → Option Nat) (e : Env) : Env → Prop
  | [] => True
  | (i, v) :: l => (∃ v', renV m v = some v' ∧ aget e i = some v') ∧ reE m e l
theorem reE_ren {m : Nat → Option Nat} {e : Env} : ∀ {l : Env}, reE m e l → renE m e l
  | [], _ => trivial
  | (i, v) :: l, ⟨⟨v', h1, h2⟩, h3⟩ => ⟨by rw [h1]; exact h2, reE_ren h3⟩
def reH (m : Nat → Option Nat) (H : Hp) : Hp → Prop
  | [] => True
  | (i, o') :: l => (∃ j o, m i = some j ∧ aget H j = some o ∧ OSub m o o') ∧ reH m H l
theorem reH_sub {m : Nat → Option Nat} {H : Hp} : ∀ {l : Hp}, reH m H l → HSub m H l
  | [], _, i, o, h => by simp [aget] at h
  | (k, x) :: l, ⟨h1, h2⟩, i, o, h => by
    rw [aget_cons] at h
    split at h
    · rename_i e; cases h; subst e; exact h1
    · exact reH_sub h2 i o h
def reU (m : Nat → Option Nat) : List VFrame → List VFrame → Prop
  | [], [] => True
  | ⟨fn, nt, e, td, ds, ret, rd⟩ :: l, ⟨fn', nt', e', td', ds', ret', rd'⟩ :: l' => (fn' = fn ∧ nt' = nt ∧ ret' = ret ∧ rd = none ∧ rd' = none ∧ reE m e e' ∧ renT m td' = some td ∧ renN m ds' = some ds) ∧ reU m l l'
  | _, _ => False
theorem reU_sub {m : Nat → Option Nat} : ∀ {l l' : List VFrame}, reU m l l' → All2 (FSub m) l l'
  | [], [], _ => .nil
  | ⟨_, _, _, _, _, _, _⟩ :: l, ⟨_, _, _, _, _, _, _⟩ :: l', ⟨⟨h1, h2, h3, h4, h5, h6, h7, h8⟩, h9⟩ => .cons ⟨h1, h2, reE_ren h6, h7, h8, h3, by simp only; rw [h4, h5]; trivial⟩ (reU_sub h9)
  | [], _ :: _, h => h.elim
  | _ :: _, [], h => h.elim
def valsNot (j : Nat) : List (Nat × Nat) → Bool
  | [] => true
  | (_, k) :: l => cond (Nat.beq j k) false (valsNot j l)
def chkM (base top' : Nat) : List (Nat × Nat) → Bool
  | m => injM m && ltM m && fixM m base
where
  injM : List (Nat × Nat) → Bool
    | [] => true
    | (_, j) :: l => valsNot j l && injM l
  ltM : List (Nat × Nat) → Bool
    | [] => true
    | (i, _) :: l => Nat.blt i top' && ltM l
  fixM (m : List (Nat × Nat)) : Nat → Bool
    | 0 => true
    | n + 1 => (match aget m n with | some j => Nat.beq j n | none => false) && fixM m n
theorem valsNot_spec {j : Nat} : ∀ {l : List (Nat × Nat)}, valsNot j l = true → ∀ i, aget l i ≠ some j
  | [], _, i, h => by simp [aget] at h
  | (a, k) :: l, hv, i, h => by
    simp only [valsNot] at hv
    cases hb : Nat.beq j k with
    | true => rw [hb] at hv; cases hv
    | false =>
      rw [hb, cond_false] at hv
      rw [aget_cons] at h
      split at h
      · cases h; simp at hb
      · exact valsNot_spec hv i h
theorem injM_spec {top' : Nat} : ∀ {l : List (Nat × Nat)}, chkM.injM l = true → ∀ i j k, aget l i = some k → aget l j = some k → i = j
  | [], _, i, j, k, h, _ => by simp [aget] at h
  | (a, b) :: l, hv, i, j, k, h1, h2 => by
    simp only [chkM.injM, Bool.and_eq_true] at hv
    rw [aget_cons] at h1 h2
    split at h1 <;> split at h2
    · omega
    · cases h1; exact absurd h2 (valsNot_spec hv.1 j)
    · cases h2; exact absurd h1 (valsNot_spec hv.1 i)
    · exact injM_spec (top' := top') hv.2 i j k h1 h2
theorem ltM_spec {top' : Nat} : ∀ {l : List (Nat × Nat)}, chkM.ltM top' l = true → ∀ i j, aget l i = some j → i < top'
  | [], _, i, j, h => by simp [aget] at h
  | (a, b) :: l, hv, i, j, h => by
    simp only [chkM.ltM, Bool.and_eq_true] at hv
    rw [aget_cons] at h
    split at h
    · rename_i e; subst e; exact Nat.blt_eq.mp hv.1
    · exact ltM_spec hv.2 i j h
theorem fixM_spec {m : List (Nat × Nat)} : ∀ {n : Nat}, chkM.fixM m n = true → ∀ i, i < n → aget m i = some i
  | 0, _, i, h => absurd h (Nat.not_lt_zero _)
  | n + 1, hv, i, h => by
    simp only [chkM.fixM, Bool.and_eq_true] at hv
    by_cases hi : i = n
    · subst hi
      have := hv.1
      split at this
      · rename_i j hj; rw [hj, Nat.eq_of_beq_eq_true this]
      · cases this
    · exact fixM_spec hv.2 i (by omega)
theorem Leads.re {P : Program} {f base fn nt : Nat} {e e' : Env} {todo todo' : List VItem} {ds ds' : List Nat} {ret : Bool} {up up' : List VFrame} {H H' : Hp} {top top' : Nat} {R : Value → Hp → Nat → Prop}
    (h : Leads P f base ⟨⟨fn, nt, e', todo', ds', ret, none⟩, up', H', top'⟩ R) (m : List (Nat × Nat)) (hc : chkM base top' m = true) (he : reE (aget m) e e') (hH : reH (aget m) H H')
    (ht : renT (aget m) todo' = some todo := by rfl) (hd : renN (aget m) ds' = some ds := by rfl) (hu : reU (aget m) up up' := by trivial) :
    Leads P f base ⟨⟨fn, nt, e, todo, ds, ret, none⟩, up, H, top⟩ R := by
  simp only [chkM, Bool.and_eq_true] at hc
  refine Leads.sub (s := aget m) ?_ h
  exact ⟨⟨rfl, rfl, reE_ren he, ht, hd, rfl, trivial⟩, reU_sub hu, reH_sub hH, injM_spec (top' := top') hc.1.1, ltM_spec hc.1.2, fixM_spec hc.2⟩
end Go.Vm
namespace Go.Vm
open Go Go.RowKit Go.WideShapes
def structK (g : TypeId → Option (List SK)) (P : Program) (o : Nat) : List Field → Option (List SK)
  | [] => some []
  | f :: fs => if f.offset = o then match g f.type with
    | some a => if a.length = P.cellsOf f.type then match structK g P (o + a.length) fs with
      | some b => some (a ++ b)
      | none => none
      else none
    | none => none
    else none
def leafK (P : Program) : Nat → TypeId → Option (List SK)
  | 0, _ => none
  | n + 1, t => match P.underlying t with
    | some .bool => some [.bool]
    | some (.int k) => some [.int k]
    | some .string => some [.str]
    | some (.struct fs) => match structK (leafK P n) P 0 fs.toList with
      | some ks => if ks.length = P.cellsOf t then some ks else none
      | none => none
    | _ => none
def leafOK : SK → Value → Prop
  | .bool, v => ∃ b, v = .bool b
  | .int k, v => ∃ n, v = .int k n ∧ (Lit.int k n).wf = true
  | .str, v => ∃ s, v = .string s ∧ s.size ≤ maxLen
  | .oth, _ => False
def cellsOK : List SK → List Value → Prop
  | [], [] => True
  | k :: ks, v :: vs => leafOK k v ∧ cellsOK ks vs
  | _, _ => False
theorem cellsOK.append : ∀ {a b : List SK} {x y : List Value}, cellsOK a x → cellsOK b y → cellsOK (a ++ b) (x ++ y)
  | [], _, [], _, _, k => k
  | [], _, _ :: _, _, h, _ => h.elim
  | _ :: _, _, [], _, h, _ => h.elim
  | _ :: _, _, _ :: _, _, h, k => ⟨h.1, cellsOK.append h.2 k⟩
theorem cellsOK.length : ∀ {a : List SK} {x : List Value}, cellsOK a x → x.length = a.length
  | [], [], _ => rfl
  | [], _ :: _, h => h.elim
  | _ :: _, [], h => h.elim
  | _ :: _, _ :: _, h => by simp [cellsOK.length h.2]
theorem cellsOK.inv {k : SK} {ks : List SK} {cs : List Value} (h : cellsOK (k :: ks) cs) : ∃ v vs, cs = v :: vs ∧ leafOK k v ∧ cellsOK ks vs := by
  cases cs with
  | nil => exact h.elim
  | cons v vs => exact ⟨v, vs, rfl, h⟩
theorem cellsOK.inv0 {cs : List Value} (h : cellsOK [] cs) : cs = [] := by
  cases cs with
  | nil => rfl
  | cons => exact h.elim
section
variable {H : Type} {enc : TypeId × Value → H} {P : Program} {w : World} {base : Nat} {spare : Nat → Bool} {held : Bool}
theorem structK_ok {g : TypeId → Option (List SK)} {F : TypeId → List Value → Prop} (hg : ∀ t ks cs, g t = some ks → F t cs → cellsOK ks cs) {cs : List Value} :
    ∀ {fs : List Field} {o : Nat} {ks : List SK}, structK g P o fs = some ks → (∀ f ∈ fs, F f.type ((cs.drop f.offset).take (P.cellsOf f.type))) → cellsOK ks ((cs.drop o).take ks.length)
  | [], o, ks, h, _ => by simp only [structK, Option.some.injEq] at h; subst h; simp [cellsOK]
  | f :: fs, o, ks, h, hm => by
    simp only [structK] at h
    split at h <;> try (cases h; done)
    rename_i ho
    split at h <;> try (cases h; done)
    rename_i a ha
    split at h <;> try (cases h; done)
    rename_i hl
    split at h <;> cases h
    rename_i b hb
    have h1 := hg f.type a _ ha (hm f (by simp))
    have h2 := structK_ok hg hb (fun f' hf => hm f' (by simp [hf]))
    have h3 := h1.append h2
    rw [ho, ← hl] at h3
    rw [List.length_append, List.take_add, List.drop_drop]
    exact h3
theorem trod_flat : ∀ {n : Nat} {t : TypeId} {ks : List SK} {fuel : Nat} {cs : List Value} {x : DataW H × List MemPlace}, leafK P n t = some ks → DataW.trod enc P w base spare held fuel t cs = some x → cellsOK ks cs
  | 0, t, ks, fuel, cs, x, h, _ => by simp [leafK] at h
  | n + 1, t, ks, fuel, cs, x, h, hd => by
    simp only [leafK] at h
    split at h
    · rename_i ht
      cases h
      obtain ⟨b, rfl, _⟩ := DataW.trod_bool ht hd
      exact ⟨⟨_, rfl⟩, trivial⟩
    · rename_i k ht
      cases h
      obtain ⟨b, rfl, _, hw⟩ := DataW.trod_int ht hd
      exact ⟨⟨_, rfl, hw⟩, trivial⟩
    · rename_i ht
      cases h
      obtain ⟨b, rfl, _, hw⟩ := DataW.trod_string ht hd
      exact ⟨⟨_, rfl, hw⟩, trivial⟩
    · rename_i fs ht
      split at h <;> try (cases h; done)
      rename_i ks' hks
      split at h <;> cases h
      rename_i hlen
      obtain ⟨xs, m, _, _, hcl, hxl, hf⟩ := DataW.trod_struct ht hd
      have := structK_ok (P := P) (cs := cs) (F := fun t cs => ∃ x, DataW.trod enc P w base spare held m t cs = some x) (fun t ks cs h1 ⟨x, h2⟩ => trod_flat h1 h2) hks (fun f hfm => by
        obtain ⟨i, hi⟩ := List.getElem?_of_mem hfm
        rw [Array.getElem?_toList] at hi
        have hlt : i < xs.length := by rw [hxl]; exact (Array.getElem?_eq_some_iff.1 hi).1
        exact ⟨xs[i], by rw [hf i f hi, List.getElem?_eq_getElem hlt]⟩)
      rw [List.drop_zero, List.take_of_length_le (by omega)] at this
      exact this
    · cases h
theorem open_flat {r : Reach} {b0 n : Nat} {t : TypeId} {ks : List SK} {v : Value} {d : DataW H} {ps : List MemPlace} (hk : leafK P n t = some ks) (hval : Value.okWide P w r b0 t v) (hd : DataW.Trod enc P w base spare held t v d ps) :
    cellsOK ks (cellsL v) ∧ ((isAggB P t = true ∧ v = .agg ⟨cellsL v⟩) ∨ isAggB P t = false) := by
  obtain ⟨fuel, hf⟩ := hd
  refine ⟨trod_flat hk hf, ?_⟩
  unfold Value.okWide at hval
  unfold isAggB
  split at hval
  · rename_i hu; rw [hu]
    obtain ⟨cs, rfl, _⟩ := hval
    exact .inl ⟨rfl, rfl⟩
  · rename_i hu; rw [hu]
    obtain ⟨cs, rfl, _⟩ := hval
    exact .inl ⟨rfl, rfl⟩
  · rename_i h1 h2
    right
    split
    · rename_i hu; exact absurd hu (h1 _)
    · rename_i hu; exact absurd hu (h2 _ _)
    · rfl
def RowR (w : World) (k : SK) (a : Option Addr) (len cap : Nat) (zs : List Value) : Prop :=
  (a = none ∧ len = 0 ∧ cap = 0 ∧ zs = []) ∨ ∃ x, a = some x ∧ len ≤ cap ∧ cap ≤ maxLen ∧ zs.length = cap ∧ ∀ (i : Nat) v, zs[i]? = some v → w.cell? (x.add i) = some v ∧ leafOK k v
theorem leafOK.flat {k : SK} {v : Value} (h : leafOK k v) : flatV v = true := by
  cases k with
  | bool => obtain ⟨b, rfl⟩ := h; rfl
  | int k => obtain ⟨b, rfl, _⟩ := h; rfl
  | str => obtain ⟨b, rfl, _⟩ := h; rfl
  | oth => exact h.elim
theorem ArgR.row {k : SK} {w : World} {a : Option Addr} {len cap : Nat} {zs : List Value} (h : RowR w k a len cap zs) : ArgR w (.sl 1) (.sl len (zs.take len)) (.slice a len cap) ∧ (zs.take len).length = len ∧ (∀ v ∈ zs.take len, leafOK k v) ∧ len ≤ maxLen := by
  rcases h with ⟨rfl, rfl, rfl, rfl⟩ | ⟨x, rfl, hl, hm, hz, hc⟩
  · exact ⟨.inl ⟨⟨_, rfl⟩, rfl, rfl⟩, rfl, fun v hv => by simp at hv, by simp [maxLen]⟩
  · have hleaf : ∀ v ∈ zs.take len, leafOK k v := fun v hv => by
      obtain ⟨i, hi⟩ := List.getElem?_of_mem (List.mem_of_mem_take hv)
      exact (hc i v hi).2
    refine ⟨?_, by simp; omega, hleaf, by omega⟩
    rcases Nat.eq_zero_or_pos cap with h0 | h0
    · subst h0
      obtain rfl : len = 0 := by omega
      exact .inl ⟨⟨_, rfl⟩, rfl, by simp⟩
    · have hs : x.spot = none := by
        have := (hc 0 zs[0] (List.getElem?_eq_getElem (by omega))).1
        cases hx : x.spot with
        | none => rfl
        | some q =>
          simp only [Addr.add, ↓reduceIte, World.cell?] at this
          split at this
          · simp [hx] at this
          · cases this
      obtain ⟨b, o, q⟩ := x
      simp only at hs
      subst hs
      have hadd : ∀ i, (⟨b, o, none⟩ : Addr).add i = ⟨b, o + i, none⟩ := fun i => by
        unfold Addr.add; split
        · rename_i e; subst e; rfl
        · rfl
      refine .inr ⟨b, o, cap, rfl, hl, fun ρ => ⟨by simp; omega, fun i v e => ?_, fun i hi => ?_⟩⟩
      · have hi : i < len := by
          rcases Nat.lt_or_ge i len with h | h
          · exact h
          · rw [List.getElem?_eq_none (by simp; omega)] at e; cases e
        rw [List.getElem?_take_of_lt hi] at e
        obtain ⟨h1, h2⟩ := hc i v e
        rw [hadd] at h1
        exact ⟨v, h1, VR.flat ρ v h2.flat⟩
      · have hi' : i < zs.length := by simp at hi; omega
        obtain ⟨h1, _⟩ := hc i zs[i] (List.getElem?_eq_getElem hi')
        rw [hadd] at h1
        exact ⟨by simp [h1], fun e => by cases e⟩
end
theorem wf_u64 {n : Int} (h : (Lit.int .u64 n).wf = true) : 0 ≤ n ∧ n < 18446744073709551616 := by simp [Lit.wf, IntKind.min, IntKind.max, IntKind.signed, IntKind.bits] at h; omega
end Go.Vm
namespace Go.Vm
open Go Go.RowKit
abbrev wI (k : IntKind) (n : Int) : Int := IntKind.wrap k n
abbrev andI (k : IntKind) (a b : Int) : Int := IntKind.wrap k (BitVec.ofInt k.bits a &&& BitVec.ofInt k.bits b).toNat
abbrev iorI (k : IntKind) (a b : Int) : Int := IntKind.wrap k (BitVec.ofInt k.bits a ||| BitVec.ofInt k.bits b).toNat
def oreq {α : Type} (b : Bool) (x : Option α) : Option α := match b with | true => x | false => none
theorem oreq.elim {α : Type} {b : Bool} {x : Option α} {r : α} (h : oreq b x = some r) : b = true ∧ x = some r := by cases b; cases h; exact ⟨rfl, h⟩
theorem oreq.mk {α : Type} {b : Bool} {x : Option α} (h : b = true) : oreq b x = x := by subst h; rfl
theorem obind.elim {α β : Type} {x : Option α} {F : α → Option β} {r : β} (h : x.bind F = some r) : ∃ a, x = some a ∧ F a = some r := by cases x with | none => cases h | some a => exact ⟨a, rfl, h⟩
def FUEL : Nat := 2 ^ 64
def iter {σ ρ : Type} (f : σ → Option (Sum σ ρ)) : Nat → σ → Option ρ
  | 0, _ => none
  | n + 1, s => match f s with
    | none => none
    | some (.inl s') => iter f n s'
    | some (.inr r) => some r
theorem iter_leads {σ ρ : Type} {P : Program} {f base : Nat} {R : Value → Hp → Nat → Prop} {step : σ → Option (Sum σ ρ)} {head : σ → VM} {C : ρ → Prop}
    (h : ∀ s o, step s = some o → Sum.elim (fun s' => Leads P f base (head s') R) C o → Leads P f base (head s) R) :
    ∀ n s r, iter step n s = some r → C r → Leads P f base (head s) R
  | 0, _, _, e, _ => by cases e
  | n + 1, s, r, e, hc => by
    rw [iter] at e
    split at e
    · cases e
    · rename_i s' hs
      exact h s _ hs (iter_leads h n s' r e hc)
    · rename_i r' hs
      cases e
      exact h s _ hs hc
def vI (k : IntKind) (xs : List Int) : List Value := xs.map (Value.int k)
def vB (xs : List Bool) : List Value := xs.map Value.bool
def vS (xs : List (List UInt8)) : List Value := xs.map fun s => Value.string ⟨⟨s⟩⟩
def bI (l : List UInt8) : List Int := l.map fun b => (b.toNat : Int)
def iB (xs : List Int) : List UInt8 := xs.map fun n => UInt8.ofNat n.toNat
@[simp] theorem vI_len (k : IntKind) (xs : List Int) : (vI k xs).length = xs.length := List.length_map _
@[simp] theorem vB_len (xs : List Bool) : (vB xs).length = xs.length := List.length_map _
@[simp] theorem vS_len (xs : List (List UInt8)) : (vS xs).length = xs.length := List.length_map _
@[simp] theorem bI_len (l : List UInt8) : (bI l).length = l.length := List.length_map _
@[simp] theorem iB_len (l : List Int) : (iB l).length = l.length := List.length_map _
theorem vI_flat (k : IntKind) (xs : List Int) : flatV.flatL (vI k xs) = true := flatL_map (fun _ => rfl) xs
theorem vB_flat (xs : List Bool) : flatV.flatL (vB xs) = true := flatL_map (fun _ => rfl) xs
theorem vS_flat (xs : List (List UInt8)) : flatV.flatL (vS xs) = true := flatL_map (fun _ => rfl) xs
theorem vI_one (k : IntKind) : ∀ (xs : List Int), (vI k xs).all oneC = true
  | [] => rfl
  | _ :: xs => by simp only [vI, List.map_cons, List.all_cons, oneC, Bool.true_and]; exact vI_one k xs
theorem vB_one : ∀ (xs : List Bool), (vB xs).all oneC = true
  | [] => rfl
  | _ :: xs => by simp only [vB, List.map_cons, List.all_cons, oneC, Bool.true_and]; exact vB_one xs
theorem vS_one : ∀ (xs : List (List UInt8)), (vS xs).all oneC = true
  | [] => rfl
  | _ :: xs => by simp only [vS, List.map_cons, List.all_cons, oneC, Bool.true_and]; exact vS_one xs
theorem ofBytes_vI (l : List UInt8) : ofBytes l = vI .u8 (bI l) := by simp [ofBytes, vI, bI, List.map_map]
theorem toBytes_vI : ∀ (xs : List Int), toBytes (vI .u8 xs) = some (iB xs)
  | [] => rfl
  | x :: xs => by simp only [vI, List.map_cons, toBytes]; rw [show toBytes (xs.map (Value.int .u8)) = _ from toBytes_vI xs]; rfl
theorem vI_set (k : IntKind) (xs : List Int) (i : Nat) (x : Int) : (vI k xs).set i (.int k x) = vI k (xs.set i x) := by simp [vI, List.map_set]
theorem vI_drop (k : IntKind) (xs : List Int) (n : Nat) : (vI k xs).drop n = vI k (xs.drop n) := by simp [vI, List.map_drop]
theorem vI_take (k : IntKind) (xs : List Int) (n : Nat) : (vI k xs).take n = vI k (xs.take n) := by simp [vI, List.map_take]
theorem vS_drop (xs : List (List UInt8)) (n : Nat) : (vS xs).drop n = vS (xs.drop n) := by simp [vS, List.map_drop]
theorem vS_take (xs : List (List UInt8)) (n : Nat) : (vS xs).take n = vS (xs.take n) := by simp [vS, List.map_take]
theorem vI_app (k : IntKind) (xs ys : List Int) : vI k xs ++ vI k ys = vI k (xs ++ ys) := by simp [vI]
theorem br.h {α : Type} {b b' : Bool} {X Y : Option α} {r : α} {p q : Prop} (h : cond b' X Y = some r) (e : b = b') (k1 : b' = true → X = some r → p) (k2 : b' = false → Y = some r → q) : br b p q := by
  subst e; cases b; exact k2 rfl h; exact k1 rfl h
theorem rd.I {k : IntKind} {xs : List Int} {o i : Nat} {x : Int} {K : Value → Prop} (hx : xs[i]? = some x) (e : o = i) (h : forceV (.int k x) K) : rd (vI k xs) o K := by
  subst e; exact rd.intro (v := .int k x) (by simp [vI, hx]) h
theorem rd.B {xs : List Bool} {o i : Nat} {x : Bool} {K : Value → Prop} (hx : xs[i]? = some x) (e : o = i) (h : forceV (.bool x) K) : rd (vB xs) o K := by
  subst e; exact rd.intro (v := .bool x) (by simp [vB, hx]) h
theorem rd.S {xs : List (List UInt8)} {o i : Nat} {x : List UInt8} {K : Value → Prop} (hx : xs[i]? = some x) (e : o = i) (h : forceV (.string ⟨⟨x⟩⟩) K) : rd (vS xs) o K := by
  subst e; exact rd.intro (v := .string ⟨⟨x⟩⟩) (by simp [vS, hx]) h
theorem req_stI {k : IntKind} {xs : List Int} {o i : Nat} {x : Int} (hb : decide (i < xs.length) = true) (e : o = i) : (decide ((cellsL (.int k x)).length = 1 ∧ o + 1 ≤ (vI k xs).length) && (cellsL (.int k x)).all oneC) = true := by
  subst e; have := of_decide_eq_true hb; simp [cellsL, Value.cells, oneC]; omega
theorem pk_stI {k : IntKind} {xs : List Int} {o i : Nat} {x : Int} {K : List Value → Prop} (e : o = i) (h : K (vI k (xs.set i x))) : ∃ cs', setAt (vI k xs) o (cellsL (.int k x)) = cs' ∧ K cs' :=
  ⟨_, by subst e; exact vI_set k xs o x, h⟩
theorem pk_mkI {k : IntKind} {n : Nat} {z : Int} {K : List Value → Prop} (h : K (vI k (List.replicate n z))) : ∃ cs', (List.replicate n [Value.int k z]).flatten = cs' ∧ K cs' :=
  ⟨_, by simp [vI, List.flatten_replicate_singleton], h⟩
theorem pk_s2b {l : List UInt8} {K : List Value → Prop} (h : K (vI .u8 (bI l))) : ∃ cs', ofBytes l = cs' ∧ K cs' := ⟨_, ofBytes_vI l, h⟩
theorem pk_b2s {xs : List Int} {o n : Nat} {K : List UInt8 → Prop} (h : K (iB ((xs.drop o).take n))) : ∃ bs, toBytes (((vI .u8 xs).drop o).take n) = some bs ∧ K bs :=
  ⟨_, by rw [vI_drop, vI_take]; exact toBytes_vI _, h⟩
theorem pk_b2sA {xs : List Int} {o n : Nat} {K : List UInt8 → Prop} (h0 : o = 0) (hn : xs.length ≤ n) (h : K (iB xs)) : ∃ bs, toBytes (((vI .u8 xs).drop o).take n) = some bs ∧ K bs := by
  subst h0; exact ⟨_, by rw [List.drop_zero, List.take_of_length_le (by simpa using hn)]; exact toBytes_vI _, h⟩
theorem pk_b2sL {l : List Value} {bs : List UInt8} {K : List UInt8 → Prop} (e : toBytes l = some bs) (h : K bs) : ∃ bs, toBytes l = some bs ∧ K bs := ⟨_, e, h⟩
theorem pk_ap0I {k : IntKind} {new : List Value} {m : Nat} {ys : List Int} {K : List Value → Nat → Prop} (e : new = vI k ys) (em : m = ys.length) (h : K (vI k ys) ys.length) : ∃ cs' n', new = cs' ∧ m = n' ∧ K cs' n' := ⟨_, _, e, em, h⟩
theorem pk_apI {k : IntKind} {new : List Value} {xs : List Int} {o c n m : Nat} {ys : List Int} {K : List Value → Nat → Prop} (e : new = vI k ys) (h0 : o = 0) (hc : c = xs.length) (hn : n + m = (xs ++ ys).length) (h : K (vI k (xs ++ ys)) (xs ++ ys).length) :
    ∃ cs' n', ((vI k xs).drop o).take c ++ new = cs' ∧ n + m = n' ∧ K cs' n' :=
  ⟨_, _, by subst h0; rw [List.drop_zero, List.take_of_length_le (by simp [hc]), e, vI_app], hn, h⟩
def vT {α : Type} (f : α → List Value) (xs : List α) : List Value := xs.flatMap f
section
variable {α : Type} {f : α → List Value} {c : Nat}
theorem vT_len (hf : ∀ x, (f x).length = c) (xs : List α) : (vT f xs).length = xs.length * c := by
  induction xs with
  | nil => simp [vT]
  | cons x xs ih =>
    have : vT f (x :: xs) = f x ++ vT f xs := rfl
    rw [this, List.length_append, hf, ih, List.length_cons, Nat.succ_mul]; omega
theorem vT_flat (hf : ∀ x, flatV.flatL (f x) = true) (xs : List α) : flatV.flatL (vT f xs) = true := by
  have app : ∀ a b : List Value, flatV.flatL a = true → flatV.flatL b = true → flatV.flatL (a ++ b) = true := by
    intro a b ha hb
    induction a with
    | nil => exact hb
    | cons v a ih => simp only [flatV.flatL, Bool.and_eq_true, List.cons_append] at ha ⊢; exact ⟨ha.1, ih ha.2⟩
  induction xs with
  | nil => rfl
  | cons x xs ih => exact app _ _ (hf x) ih
theorem vT_one (hf : ∀ x, (f x).all oneC = true) (xs : List α) : (vT f xs).all oneC = true := by
  induction xs with
  | nil => rfl
  | cons x xs ih => have : vT f (x :: xs) = f x ++ vT f xs := rfl; rw [this, List.all_append, hf, ih]; rfl
theorem vT_drop (hf : ∀ x, (f x).length = c) (xs : List α) (n : Nat) : (vT f xs).drop (n * c) = vT f (xs.drop n) := by
  induction xs generalizing n with
  | nil => simp [vT]
  | cons x xs ih =>
    cases n with
    | zero => simp
    | succ n =>
      have : vT f (x :: xs) = f x ++ vT f xs := rfl
      rw [this, List.drop_succ_cons, Nat.succ_mul, Nat.add_comm, List.drop_append, hf, List.drop_eq_nil_of_le (by rw [hf]; omega), List.nil_append, show c + n * c - c = n * c by omega, ih]
theorem vT_take (hf : ∀ x, (f x).length = c) (xs : List α) (n : Nat) : (vT f xs).take (n * c) = vT f (xs.take n) := by
  induction xs generalizing n with
  | nil => simp [vT]
  | cons x xs ih =>
    cases n with
    | zero => simp [vT]
    | succ n =>
      have : vT f (x :: xs) = f x ++ vT f xs := rfl
      have h2 : vT f ((x :: xs).take (n + 1)) = f x ++ vT f (xs.take n) := rfl
      rw [this, h2, Nat.succ_mul, Nat.add_comm, List.take_append, hf, List.take_of_length_le (by rw [hf]; omega), show c + n * c - c = n * c by omega, ih]
theorem vT_get (hf : ∀ x, (f x).length = c) {xs : List α} {i j : Nat} {x : α} (hx : xs[i]? = some x) (hj : j < c) : (vT f xs)[i * c + j]? = (f x)[j]? := by
  induction xs generalizing i with
  | nil => simp at hx
  | cons y xs ih =>
    have : vT f (y :: xs) = f y ++ vT f xs := rfl
    rw [this]
    cases i with
    | zero =>
      simp at hx; subst hx
      rw [Nat.zero_mul, Nat.zero_add, List.getElem?_append_left (by rw [hf]; exact hj)]
    | succ i =>
      rw [List.getElem?_append_right (by rw [hf, Nat.succ_mul]; omega), hf, show (i + 1) * c + j - c = i * c + j by rw [Nat.succ_mul]; omega]
      exact ih (by simpa using hx)
theorem rd.T (hf : ∀ x, (f x).length = c) {xs : List α} {o i j : Nat} {x : α} {v : Value} {K : Value → Prop} (hx : xs[i]? = some x) (e : o = i * c + j) (hj : j < c) (hv : (f x)[j]? = some v) (h : forceV v K) : rd (vT f xs) o K := by
  subst e; exact rd.intro (by rw [vT_get hf hx hj]; exact hv) h
end
theorem sumRun_of {s : Summ} {vals aqs : List Value} {os : List (Option VObj)} {h h1 h2 : Hp} {top n m t' : Nat} {ws : List Wd} {r : SRes} {v' : Value} (e1 : readArgs h 0 s.modes vals = some (aqs, os)) (ew : winL h s.modes vals = ws) {cw : List (Option (List Value))} (ec : conts os = cw) (e2 : s.run aqs cw = some r) (e3 : apartB ws = true)
    (hn : r.new.length = n) (hm : emps ws = m) (ht : top + n + m = t') (e4 : wback h (numR top n ws) ws r.wr = some h1) (e5 : addNew h1 (numR top n ws) top r.new = some h2) (e6 : renV (numR top n ws) r.v = some v') : sumRun s vals h top = some (v', addEmp h2 (top + n) m, t') := by
  subst hn hm ht ec
  simp only [sumRun, e1, e2, ew, e3, e4, e5, e6]
theorem ra_nil {h : Hp} {k : Nat} : readArgs h k [] [] = some ([], []) := rfl
theorem ra_cons {h : Hp} {k k' : Nat} {m : Md} {ms : List Md} {v a : Value} {vs aqs : List Value} {os os' : List (Option VObj)} (e : readArg h k m v = some (a, os)) (hk : k + os.length = k') (t : readArgs h k' ms vs = some (aqs, os')) : readArgs h k (m :: ms) (v :: vs) = some (a :: aqs, os ++ os') := by
  subst hk
  simp only [readArgs, e, t]
def skipW : Wd → Bool
  | .no | .emp _ | .win _ _ _ false | .blk _ false => true
  | _ => false
theorem wb_nil {h : Hp} {s : Nat → Option Nat} : wback h s [] [] = some h := rfl
theorem wb_skip {h h' : Hp} {s : Nat → Option Nat} {x : Wd} {ws : List Wd} {c : Option (List Value)} {cs : List (Option (List Value))} (hx : skipW x = true) (t : wback h s ws cs = some h') : wback h s (x :: ws) (c :: cs) = some h' := by
  cases x with
  | win b o n w => cases w <;> first | (simp only [wback]; exact t) | cases hx
  | blk b w => cases w <;> first | (simp only [wback]; exact t) | cases hx
  | _ => simp only [wback]; exact t
theorem wb_win {h h' : Hp} {s : Nat → Option Nat} {b off n : Nat} {ws : List Wd} {c c' x y : List Value} {cs : List (Option (List Value))} {ob ob' : VObj} (e1 : aget h b = some ob) (e2 : ob.wcs = some x) (e3 : renV.renL s c = some c') (e4 : c'.length = n ∧ off + n ≤ x.length) (e5 : setAt x off c' = y) (e6 : ob.wr y = some ob') (t : wback (aput h b ob') s ws cs = some h') :
    wback h s (.win b off n true :: ws) (some c :: cs) = some h' := by
  subst e5
  simp only [wback, e1, e2, e3, e6, if_pos e4]; exact t
theorem an_nil {h : Hp} {s : Nat → Option Nat} {top : Nat} : addNew h s top [] = some h := rfl
theorem an_cons {h h' : Hp} {s : Nat → Option Nat} {top : Nat} {c c' : List Value} {cs : List (List Value)} (e : renV.renL s c = some c') (t : addNew (aput h top (.row true c')) s (top + 1) cs = some h') : addNew h s top (c :: cs) = some h' := by
  simp only [addNew, e]; exact t
def jsOK (n : Nat) (wr : List (Option (List Value))) : List Nat → Prop
  | [] => True
  | j :: js => (n ≤ j ∨ wr[j]? = some none) ∧ jsOK n wr js
theorem jsOK_mem {n : Nat} {wr : List (Option (List Value))} : ∀ {js : List Nat}, jsOK n wr js → ∀ j ∈ js, n ≤ j ∨ wr[j]? = some none
  | [], _, j, h => by cases h
  | k :: js, h, j, hj => by
    rcases List.mem_cons.1 hj with rfl | hj
    · exact h.1
    · exact jsOK_mem h.2 j hj
theorem Res.of {n : Nat} {r : SRes} {v' : Value} {H' : Hp} (js : List Nat) (e1 : renV (resR js n) r.v = some v') (e2 : newOK H' (resR js n) js r.new) (e3 : js.Nodup) (e4 : jsOK n r.wr js) (e5 : wrOK H' (resR js n) 0 r.wr) : Res n r v' H' :=
  ⟨⟨js, e1, e2, e3, jsOK_mem e4, e5⟩⟩
theorem hs_cells {H : Hp} {j : Nat} {c : List Value} (h : aget H j = some (.cells c)) : Has H j c := .inr (.inl h)
abbrev Dec := List Value → List (Option (List Value)) → Option SRes
def dV {α : Type} (un : Value → Option α) (K : α → Dec) : Dec := fun vs cs => match vs with
  | v :: vs' => match un v with
    | some x => K x vs' cs
    | none => none
  | [] => none
theorem dV_eq {α : Type} {un : Value → Option α} {K : α → Dec} {v : Value} {vs : List Value} {cs : List (Option (List Value))} {x : α} (h : un v = some x) : dV un K (v :: vs) cs = K x vs cs := by simp only [dV, h]
theorem dV.elim {α : Type} {un : Value → Option α} {K : α → Dec} {vs : List Value} {cs : List (Option (List Value))} {r : SRes} (h : dV un K vs cs = some r) : ∃ v vs' x, vs = v :: vs' ∧ un v = some x ∧ K x vs' cs = some r := by
  unfold dV at h
  split at h <;> try (cases h; done)
  split at h <;> try (cases h; done)
  exact ⟨_, _, _, rfl, by assumption, h⟩
def dSl {α : Type} (k sz : Nat) (un : List Value → Option (List α)) (K : List α → Dec) : Dec := fun vs cs => match vs, cs with
  | .slice (some ⟨k', 0, none⟩) n sz' :: vs', some c :: cs' => match un c with
    | some xs => if k' = k ∧ sz' = sz ∧ n = xs.length then K xs vs' cs' else none
    | none => none
  | _, _ => none
theorem dSl.elim {α : Type} {k sz : Nat} {un : List Value → Option (List α)} {K : List α → Dec} {vs : List Value} {cs : List (Option (List Value))} {r : SRes} (h : dSl k sz un K vs cs = some r) : ∃ c vs' cs' xs, vs = .slice (some ⟨k, 0, none⟩) xs.length sz :: vs' ∧ cs = some c :: cs' ∧ un c = some xs ∧ K xs vs' cs' = some r := by
  unfold dSl at h
  split at h <;> try (cases h; done)
  split at h <;> try (cases h; done)
  split at h <;> try (cases h; done)
  rename_i hc
  obtain ⟨rfl, rfl, rfl⟩ := hc
  exact ⟨_, _, _, _, rfl, rfl, by assumption, h⟩
def dTr {α : Type} (n : Nat) (un : Value → List (Option (List Value)) → Option α) (K : α → Dec) : Dec := fun vs cs => match vs with
  | v :: vs' => match un v (cs.take n) with
    | some x => K x vs' (cs.drop n)
    | none => none
  | [] => none
theorem dTr.elim {α : Type} {n : Nat} {un : Value → List (Option (List Value)) → Option α} {K : α → Dec} {vs : List Value} {cs : List (Option (List Value))} {r : SRes} (h : dTr n un K vs cs = some r) : ∃ v vs' cs1 cs2 x, vs = v :: vs' ∧ cs = cs1 ++ cs2 ∧ un v cs1 = some x ∧ K x vs' cs2 = some r := by
  unfold dTr at h
  split at h <;> try (cases h; done)
  split at h <;> try (cases h; done)
  exact ⟨_, _, _, _, _, rfl, (List.take_append_drop n cs).symm, by assumption, h⟩
def dPt {α : Type} (k : Nat) (un : List Value → Option α) (K : α → Dec) : Dec := fun vs cs => match vs, cs with
  | .pointer (some ⟨k', 0, none⟩) :: vs', some c :: cs' => match un c with
    | some x => if k' = k then K x vs' cs' else none
    | none => none
  | _, _ => none
theorem dPt_eq {α : Type} {k : Nat} {un : List Value → Option α} {K : α → Dec} {vs : List Value} {c : List Value} {cs : List (Option (List Value))} {x : α} (h : un c = some x) : dPt k un K (.pointer (some ⟨k, 0, none⟩) :: vs) (some c :: cs) = K x vs cs := by simp [dPt, h]
theorem dPt.elim {α : Type} {k : Nat} {un : List Value → Option α} {K : α → Dec} {vs : List Value} {cs : List (Option (List Value))} {r : SRes} (h : dPt k un K vs cs = some r) : ∃ c vs' cs' x, vs = .pointer (some ⟨k, 0, none⟩) :: vs' ∧ cs = some c :: cs' ∧ un c = some x ∧ K x vs' cs' = some r := by
  unfold dPt at h
  split at h <;> try (cases h; done)
  split at h <;> try (cases h; done)
  split at h <;> try (cases h; done)
  rename_i hc
  subst hc
  exact ⟨_, _, _, _, rfl, rfl, by assumption, h⟩
def dNo : Nat → Dec → Dec
  | 0, K => K
  | n + 1, K => fun vs cs => match cs with
    | none :: cs' => dNo n K vs cs'
    | _ => none
theorem dNo.elim {K : Dec} {vs : List Value} {r : SRes} : ∀ {n : Nat} {cs : List (Option (List Value))}, dNo n K vs cs = some r → ∃ cs', cs = List.replicate n none ++ cs' ∧ K vs cs' = some r
  | 0, cs, h => ⟨cs, rfl, h⟩
  | n + 1, cs, h => by
    simp only [dNo] at h
    split at h <;> try (cases h; done)
    obtain ⟨cs', rfl, h2⟩ := dNo.elim h
    exact ⟨cs', rfl, h2⟩
def dNl (n : Nat) (K : Dec) : Dec := fun vs cs => match vs with
  | .pointer none :: vs' => dNo n K vs' cs
  | _ => none
theorem dNl.elim {n : Nat} {K : Dec} {vs : List Value} {cs : List (Option (List Value))} {r : SRes} (h : dNl n K vs cs = some r) : ∃ vs' cs', vs = .pointer none :: vs' ∧ cs = List.replicate n none ++ cs' ∧ K vs' cs' = some r := by
  unfold dNl at h
  split at h <;> try (cases h; done)
  obtain ⟨cs', rfl, h2⟩ := dNo.elim h
  exact ⟨_, cs', rfl, rfl, h2⟩
def dEnd (r : Option SRes) : Dec := fun vs cs => match vs, cs with
  | [], [] => r
  | _, _ => none
theorem dEnd.elim {o : Option SRes} {vs : List Value} {cs : List (Option (List Value))} {r : SRes} (h : dEnd o vs cs = some r) : vs = [] ∧ cs = [] ∧ o = some r := by
  unfold dEnd at h
  split at h <;> try (cases h; done)
  exact ⟨rfl, rfl, h⟩
def orD (a b : Dec) : Dec := fun vs cs => match a vs cs with
  | some r => some r
  | none => b vs cs
theorem orD.elim {a b : Dec} {vs : List Value} {cs : List (Option (List Value))} {r : SRes} (h : orD a b vs cs = some r) : a vs cs = some r ∨ b vs cs = some r := by
  unfold orD at h
  split at h
  · cases h; left; assumption
  · exact .inr h
def ofG {α : Type} (o : Option α) (f : α → SRes) : Option SRes := match o with
  | some x => some (f x)
  | none => none
theorem ofG_eq {α : Type} {o : Option α} {f : α → SRes} {x : α} (h : o = some x) : ofG o f = some (f x) := by subst h; rfl
theorem ofG.elim {α : Type} {o : Option α} {f : α → SRes} {r : SRes} (h : ofG o f = some r) : ∃ x, o = some x ∧ f x = r := by
  cases o with
  | none => cases h
  | some x => exact ⟨x, rfl, by cases h; rfl⟩
def asS : Value → Option (List UInt8) | .string s => some s.data.toList | _ => none
theorem asS_eq (v : Value) (x : List UInt8) (h : asS v = some x) : v = .string ⟨⟨x⟩⟩ := by cases v <;> simp [asS] at h; subst h; rfl
end Go.Vm
namespace Go.Vm
open Go Go.RowKit
end Go.Vm
namespace Go.Vm
open Go Go.RowKit
theorem st_I {k : IntKind} {xs : List Int} {o i : Nat} {x : Int} {K : List Value → Prop} (hb : decide (i < xs.length) = true) (e : o = i) (h : K (vI k (xs.set i x))) :
    req (decide ((cellsL (.int k x)).length = 1 ∧ o + 1 ≤ (vI k xs).length) && (cellsL (.int k x)).all oneC) (∃ cs', setAt (vI k xs) o (cellsL (.int k x)) = cs' ∧ K cs') := req.intro (req_stI hb e) (pk_stI e h)
end Go.Vm
namespace Go.Vm
theorem br.h2 {α : Type} {b b' : Bool} {X Y : Option α} {r : α} {p q : Prop} (h : cond b' X Y = some r) (e : b = b') (k2 : b' = false → Y = some r → q) (k1 : b' = true → X = some r → p) : br b p q := br.h h e k1 k2
end Go.Vm
namespace Go.Vm
open Go Go.RowKit
theorem VR.ofNil {ρ : Ren} {s : Nat} {rv : Value} (h : VR ρ (.slice none 0 s) rv) (j sz : Nat) : VR ρ (.slice (some ⟨j, 0, none⟩) 0 sz) rv := by
  cases h; exact .slice0 none
theorem Leads.nilT {P : Program} {f base fn nt s : Nat} {e : Env} {todo : List VItem} {ds : List Nat} {ret : Bool} {rd : Option Nat} {up : List VFrame} {H : Hp} {top : Nat} {R : Value → Hp → Nat → Prop} (t sz : Nat)
    (h : Leads P f base ⟨⟨fn, nt, aput e t (.slice (some ⟨top, 0, none⟩) 0 sz), todo, ds, ret, rd⟩, up, aput H top (.row true []), top + 1⟩ R) (he : aget e t = some (.slice none 0 s) := by rfl) :
    Leads P f base ⟨⟨fn, nt, e, todo, ds, ret, rd⟩, up, H, top⟩ R := by
  refine ⟨fun w0 U ρ rf rfs w cs hr => ?_⟩
  have hx := Ext.upd (l := ⟨0, 0, 0⟩) hr.heap.off0
  have hcur : FrR P (upd ρ top ⟨0, 0, 0⟩) ⟨fn, nt, aput e t (.slice (some ⟨top, 0, none⟩) 0 sz), todo, ds, ret, rd⟩ rf :=
    { hr.cur.mono hx with
      env := fun i v hv => by
        rw [aget_aput] at hv
        split at hv
        · rename_i hi; subst hi; cases hv
          obtain ⟨v', a, b⟩ := hr.cur.env t _ he
          exact ⟨v', a, (VR.ofNil b _ _).mono hx⟩
        · exact (hr.cur.env.mono hx) i v hv }
  obtain ⟨ρ', rv, fr', w', v, H', top', h1, h2, h3, h4, h5, h6, h7⟩ := h.get w0 U _ rf rfs w cs ⟨hcur, hr.up.mono (fun _ _ x => x.mono hx), empty_row hr.heap⟩
  exact ⟨ρ', rv, fr', w', v, H', top', h1, h2, h3, h4, h5, fun i l hi hl => h6 i l hi (hx _ _ hl), h7⟩
mutual
inductive Nv (j : Nat) : Value → Value → Prop
  | same (v) : Nv j v v
  | nil (s sz) : Nv j (.slice none 0 s) (.slice (some ⟨j, 0, none⟩) 0 sz)
  | tup {a b : List Value} (h : NvL j a b) : Nv j (.tuple ⟨a⟩) (.tuple ⟨b⟩)
  | agg {a b : List Value} (h : NvL j a b) : Nv j (.agg ⟨a⟩) (.agg ⟨b⟩)
inductive NvL (j : Nat) : List Value → List Value → Prop
  | nil : NvL j [] []
  | cons {v v' : Value} {l l' : List Value} (h : Nv j v v') (t : NvL j l l') : NvL j (v :: l) (v' :: l')
end
mutual
theorem Nv.vr {j : Nat} {ρ : Ren} : ∀ {v v' : Value}, Nv j v v' → ∀ {rv : Value}, VR ρ v rv → VR ρ v' rv
  | _, _, .same v, _, h => h
  | _, _, .nil s sz, _, h => VR.ofNil h _ _
  | _, _, .tup hl, _, h => by cases h with | tuple ht => exact .tuple (NvL.vr hl ht)
  | _, _, .agg hl, _, h => by cases h with | agg ht => exact .agg (NvL.vr hl ht)
theorem NvL.vr {j : Nat} {ρ : Ren} : ∀ {l l' : List Value}, NvL j l l' → ∀ {rl : List Value}, VRL ρ l rl → VRL ρ l' rl
  | _, _, .nil, _, h => h
  | _, _, .cons hv ht, _, h => by cases h with | cons a b => exact .cons (Nv.vr hv a) (NvL.vr ht b)
end
end Go.Vm
namespace Go.Vm
theorem ap_req {A B C D : Prop} [Decidable (A ∧ B ∧ C ∧ D)] {p q : Bool} (a : A) (b : B) (c : C) (d : D) (e : p = true) (g : q = true) : (decide (A ∧ B ∧ C ∧ D) && p && q) = true := by
  rw [decide_eq_true ⟨a, b, c, d⟩, e, g]; rfl
end Go.Vm
namespace Go.Vm
open Go Go.RowKit
def forceOL (o : VObj) (K : VObj → Prop) : Prop :=
  match o with
  | .cells cs => forceL cs fun cs => K (.cells cs)
  | .row own cs => forceL cs fun cs => K (.row own cs)
  | .ty t cs => K (.ty t cs)
  | .siter s p => K (.siter s p)
  | .loop l => K (.loop l)
  | .marks => K .marks
theorem forceOL_eq (o : VObj) (K : VObj → Prop) : forceOL o K = K o := by
  cases o <;> simp only [forceOL, forceL_eq]
def forceH2 (bs : List Nat) (h : Hp) (K : Hp → Prop) : Prop :=
  match h with
  | [] => K []
  | (i, o) :: l => cond (memB i bs) (forceOL o fun o => forceH2 bs l fun l => K ((i, o) :: l)) (forceO o fun o => forceH2 bs l fun l => K ((i, o) :: l))
theorem forceH2_eq (bs : List Nat) : ∀ (h : Hp) (K : Hp → Prop), forceH2 bs h K = K h
  | [], K => rfl
  | (i, o) :: l, K => by
    rw [forceH2]
    cases memB i bs
    · rw [cond_false, forceO_eq, forceH2_eq bs l]
    · rw [cond_true, forceOL_eq, forceH2_eq bs l]
theorem sumK.introF {s : Summ} {vals : List Value} {h : Hp} {top : Nat} {K : Value → Hp → Nat → Prop} {v : Value} {h' : Hp} {top' : Nat} (bs : List Nat) (e : sumRun s vals h top = some (v, h', top')) (k : forceV v fun v => forceH2 bs h' fun h' => K v h' top') : sumK s vals h top K :=
  sumK.intro e (by simpa only [forceV_eq, forceH2_eq] using k)
end Go.Vm
namespace Go.Vm
open Go Go.RowKit
inductive NilW : Value → Hp → Nat → Value → Hp → Nat → Prop
  | refl (v : Value) (H : Hp) (t : Nat) : NilW v H t v H t
  | val {v v' v2 : Value} {H H2 : Hp} {t t2 : Nat} (h : Nv t v v') (k : NilW v' (aput H t (.row true [])) (t + 1) v2 H2 t2) : NilW v H t v2 H2 t2
  | cell {v v2 : Value} {H H2 : Hp} {t t2 s : Nat} (b i sz : Nat) {cs : List Value} (hb : aget H b = some (.cells cs)) (hi : cs[i]? = some (.slice none 0 s)) (k : NilW v (aput (aput H b (.cells (cs.set i (.slice (some ⟨t, 0, none⟩) 0 sz)))) t (.row true [])) (t + 1) v2 H2 t2) : NilW v H t v2 H2 t2
theorem nilC_hp {P : Program} {w0 : World} {U : UG} {ρ : Ren} {H : Hp} {top s : Nat} {w : World} (h : HpR P w0 U ρ H top w) {b i : Nat} (sz : Nat) {cs : List Value} (hb : aget H b = some (.cells cs)) (hi : cs[i]? = some (.slice none 0 s)) : HpR P w0 U ρ (aput H b (.cells (cs.set i (.slice (some ⟨top, 0, none⟩) 0 sz)))) top w :=
  { h with
    obj := fun j o ho => by
      rw [aget_aput] at ho
      split at ho
      · rename_i hj; subst hj; cases ho
        obtain ⟨l, hl, hc, hw⟩ := h.obj b _ hb
        refine ⟨l, hl, ?_, fun _ => hw rfl⟩
        obtain ⟨g1, g2, g3⟩ := (hc : CellsR ρ w l true cs)
        refine ⟨by simpa using g1, fun k v hv => ?_, g3⟩
        rw [List.getElem?_set] at hv
        split at hv
        · rename_i hk; subst hk
          split at hv
          · cases hv
            obtain ⟨v', a, b'⟩ := g2 i _ hi
            exact ⟨v', a, VR.ofNil b' _ _⟩
          · cases hv
        · exact g2 k v hv
      · exact h.obj j o ho
    dis := fun j k oj ok lj lk hjk hj hk hlj hlk hw => by
      have key : ∀ j o, aget (aput H b (.cells (cs.set i (.slice (some ⟨top, 0, none⟩) 0 sz)))) j = some o → ∃ o', aget H j = some o' ∧ (writable o = true → writable o' = true) := fun j o ho => by
        rw [aget_aput] at ho
        split at ho
        · rename_i hj; subst hj; exact ⟨_, hb, fun _ => rfl⟩
        · exact ⟨o, ho, id⟩
      obtain ⟨oj', a1, a2⟩ := key j oj hj
      obtain ⟨ok', b1, _⟩ := key k ok hk
      exact h.dis j k oj' ok' lj lk hjk a1 b1 hlj hlk (a2 hw) }
theorem NilW.ok {P : Program} {w0 : World} {U : Nat → Nat → Prop} {v v2 rv : Value} {H H2 : Hp} {t t2 : Nat} (k : NilW v H t v2 H2 t2) : ∀ {ρ : Ren} {w : World}, VR ρ v rv → HpR P w0 (.of U) ρ H t w → ∃ ρ', Ext ρ ρ' ∧ VR ρ' v2 rv ∧ HpR P w0 (.of U) ρ' H2 t2 w := by
  induction k with
  | refl => intro ρ w h1 h2; exact ⟨ρ, Ext.refl ρ, h1, h2⟩
  | val h k ih =>
    intro ρ w h1 h2
    have hx := Ext.upd (l := ⟨0, 0, 0⟩) h2.off0
    obtain ⟨ρ', e1, e2, e3⟩ := ih ((h.vr h1).mono hx) (empty_row h2)
    exact ⟨ρ', hx.trans e1, e2, e3⟩
  | cell b i sz hb hi k ih =>
    intro ρ w h1 h2
    have hx := Ext.upd (l := ⟨0, 0, 0⟩) h2.off0
    obtain ⟨ρ', e1, e2, e3⟩ := ih (h1.mono hx) (empty_row (nilC_hp h2 sz hb hi))
    exact ⟨ρ', hx.trans e1, e2, e3⟩
end Go.Vm
namespace Go.Vm
end Go.Vm
namespace Go.Vm
open Go Go.RowKit
@[simp] theorem ofBytes_len (l : List UInt8) : (ofBytes l).length = l.length := by simp [ofBytes]
theorem pk_us {xs : List Int} {n : Nat} {K : List UInt8 → Prop} (h : K (iB xs)) (hn : xs.length ≤ n := by first | exact Nat.le_refl _ | omega | (simp; done) | (simp; omega)) : ∃ bs, toBytes ((vI .u8 xs).take n) = some bs ∧ K bs :=
  ⟨_, by rw [List.take_of_length_le (by simpa using hn)]; exact toBytes_vI _, h⟩
theorem us_req {A B C D : Prop} [Decidable (A ∧ B ∧ C ∧ D)] (a : A) (b : B) (c : C) (d : D) : decide (A ∧ B ∧ C ∧ D) = true := decide_eq_true ⟨a, b, c, d⟩
theorem apb_req {A B C D E : Prop} [Decidable (A ∧ B ∧ C ∧ D ∧ E)] {p q : Bool} (a : A) (b : B) (c : C) (d : D) (e : E) (f : p = true) (g : q = true) : (decide (A ∧ B ∧ C ∧ D ∧ E) && p && q) = true := by
  rw [decide_eq_true ⟨a, b, c, d, e⟩, f, g]; rfl
theorem pk_apW {new : List Value} {xs : List Int} {n m : Nat} {ys : List Int} {K : List Value → Nat → Prop} (e : new = vI .u8 ys) (hc : n = xs.length) (hn : n + m = (xs ++ ys).length) (h : K (vI .u8 (xs ++ ys)) (xs ++ ys).length) :
    ∃ cs' n', (vI .u8 xs).take n ++ new = cs' ∧ n + m = n' ∧ K cs' n' :=
  ⟨_, _, by rw [List.take_of_length_le (by simp [hc]), e, vI_app], hn, h⟩
theorem asI_c (k : IntKind) {n : Int} : asI k (.int k n) = some n := by simp [asI]
theorem asS_c {s : List UInt8} : asS (.string ⟨⟨s⟩⟩) = some s := rfl
theorem dNl_1 {K : Dec} {vs : List Value} {cs : List (Option (List Value))} : dNl 1 K (.pointer none :: vs) (none :: cs) = K vs cs := rfl
def pickN (i : Nat) (a b : Dec) : Dec := fun vs cs => match vs[i]? with
  | some (.pointer none) => b vs cs
  | _ => a vs cs
theorem pickN.elim {i : Nat} {a b : Dec} {vs : List Value} {cs : List (Option (List Value))} {r : SRes} (h : pickN i a b vs cs = some r) : a vs cs = some r ∨ b vs cs = some r := by
  unfold pickN at h
  split at h
  · exact .inr h
  · exact .inl h
theorem nw_0 {H : Hp} {s : Nat → Option Nat} : newOK H s [] [] := trivial
theorem nw_s {H : Hp} {s : Nat → Option Nat} {j : Nat} {js : List Nat} {c c' : List Value} {cs : List (List Value)} (e : renV.renL s c = some c') (h : Has H j c') (t : newOK H s js cs) : newOK H s (j :: js) (c :: cs) := ⟨⟨_, e, h⟩, t⟩
theorem js_0 {n : Nat} {wr : List (Option (List Value))} : jsOK n wr [] := trivial
theorem js_l {n j : Nat} {wr : List (Option (List Value))} {js : List Nat} (h : n ≤ j) (t : jsOK n wr js) : jsOK n wr (j :: js) := ⟨.inl h, t⟩
theorem wr_0 {H : Hp} {s : Nat → Option Nat} {k : Nat} : wrOK H s k [] := trivial
theorem wr_n {H : Hp} {s : Nat → Option Nat} {k : Nat} {l : List (Option (List Value))} (t : wrOK H s (k + 1) l) : wrOK H s k (none :: l) := t
theorem wr_s {H : Hp} {s : Nat → Option Nat} {k : Nat} {c c' : List Value} {l : List (Option (List Value))} (e : renV.renL s c = some c') (h : Has H k c') (t : wrOK H s (k + 1) l) : wrOK H s k (some c :: l) := ⟨⟨_, e, h⟩, t⟩
theorem Res.flat {n : Nat} {r : SRes} {v' : Value} {H' : Hp} {b : Bool} (e : r.v = .bool b) (_ : r.new = []) (h : Res n r v' H') : v' = .bool b := by
  obtain ⟨js, h1, h2, -⟩ := h.ex
  rw [e] at h1
  cases h1; rfl
theorem sumK.q {s : Summ} {vals : List Value} {h : Hp} {top : Nat} {K : Value → Hp → Nat → Prop} {r : SRes} {v' : Value} (e1 : readArgs h 0 s.modes vals = some (vals, [])) (ew : winL h s.modes vals = []) (e2 : s.run vals [] = some r) (hn : r.new = []) (hw : r.wr = []) (e6 : renV (numR top 0 []) r.v = some v')
    (k : forceV v' fun v => forceH2 [] h fun h' => K v h' top) : sumK s vals h top K := by
  refine sumK.introF [] (sumRun_of (n := 0) (m := 0) (t' := top) e1 ew rfl e2 rfl (by rw [hn]; rfl) rfl rfl (by rw [hw]; exact wb_nil) (by rw [hn]; exact an_nil) e6) k
theorem dFin {α : Type} {o : Option α} {f : α → SRes} {vs : List Value} {cs : List (Option (List Value))} {r : SRes} (h : dEnd (ofG o f) vs cs = some r) : vs = [] ∧ cs = [] ∧ ∃ x, o = some x ∧ f x = r := by
  obtain ⟨a, b, c⟩ := dEnd.elim h
  exact ⟨a, b, ofG.elim c⟩
theorem Res.z {n : Nat} {r : SRes} {v' : Value} {H' : Hp} (e1 : renV (resR [] n) r.v = some v') (e2 : r.new = []) (e3 : r.wr = []) : Res n r v' H' :=
  Res.of [] e1 (by rw [e2]; exact nw_0) (by decide) js_0 (by rw [e3]; exact wr_0)
end Go.Vm
namespace Go.Vm
open Go Go.RowKit
section
variable {α : Type} {f : α → List Value} {c : Nat}
end
end Go.Vm
namespace Go.Vm
end Go.Vm
namespace Go.Vm
open Go
theorem wI64 {n : Int} (h1 : -9223372036854775808 ≤ n) (h2 : n < 9223372036854775808) : wI .i64 n = n := by
  show IntKind.wrap .i64 n = n; rw [IntKind.wrap_i64]; omega
theorem wU64 {n : Int} (h1 : 0 ≤ n) (h2 : n < 18446744073709551616) : wI .u64 n = n := by
  show IntKind.wrap .u64 n = n
  simp only [IntKind.wrap, IntKind.bits, IntKind.signed]; simp; omega
theorem wU8 {n : Int} (h1 : 0 ≤ n) (h2 : n < 256) : wI .u8 n = n := by
  show IntKind.wrap .u8 n = n
  simp only [IntKind.wrap, IntKind.bits, IntKind.signed]; simp; omega
theorem wU8m (n : Int) : wI .u8 n = n % 256 := by
  show IntKind.wrap .u8 n = _
  simp only [IntKind.wrap, IntKind.bits, IntKind.signed]; simp
theorem bv64 {n : Nat} (h : n < 18446744073709551616) : (BitVec.ofInt 64 (n : Int)).toNat = n := by
  rw [BitVec.toNat_ofInt]; omega
theorem iorU64 {a b : Nat} (ha : a < 18446744073709551616) (hb : b < 18446744073709551616) : iorI .u64 (a : Int) (b : Int) = ((a ||| b : Nat) : Int) := by
  have h : a ||| b < 2 ^ 64 := Nat.or_lt_two_pow (by omega) (by omega)
  show IntKind.wrap .u64 _ = _
  rw [show IntKind.bits .u64 = 64 from rfl, BitVec.toNat_or, bv64 (by omega), bv64 (by omega)]
  exact wU64 (by omega) (by omega)
theorem or_low {a b k : Nat} (hb : b < 2 ^ k) : (a * 2 ^ k) ||| b = a * 2 ^ k + b := by
  rw [Nat.mul_comm]; exact (Nat.two_pow_add_eq_or_of_lt hb a).symm
theorem iorU64_low (k : Nat) {a b : Int} (h0 : 0 ≤ a) (h1 : a * 2 ^ k < 18446744073709551616) (hb0 : 0 ≤ b) (hb : b < 2 ^ k) (hb1 : b < 18446744073709551616) : iorI .u64 (a * 2 ^ k) b = a * 2 ^ k + b := by
  obtain ⟨n, rfl⟩ := Int.eq_ofNat_of_zero_le h0
  obtain ⟨m, rfl⟩ := Int.eq_ofNat_of_zero_le hb0
  have e : ((n : Int) * 2 ^ k) = ((n * 2 ^ k : Nat) : Int) := by push_cast; rfl
  rw [e] at h1 ⊢
  rw [iorU64 (by omega) (by omega), or_low (by exact_mod_cast hb)]; push_cast; rfl
theorem fdivP (a : Int) (k : Nat) : a.fdiv (2 ^ k) = a / 2 ^ k := Int.fdiv_eq_ediv_of_nonneg a (Int.le_of_lt (Int.pow_pos (by decide)))
theorem oreq_p {α : Type} {p : Prop} [Decidable p] {x : Option α} (h : p) : oreq (decide p) x = x := oreq.mk (decide_eq_true h)
theorem cond_p {α : Type} {p : Prop} [Decidable p] {x y : α} (h : p) : cond (decide p) x y = x := by rw [decide_eq_true h, cond_true]
theorem cond_n {α : Type} {p : Prop} [Decidable p] {x y : α} (h : ¬ p) : cond (decide p) x y = y := by rw [decide_eq_false h, cond_false]
theorem cond_dec {α : Type} {p : Prop} [Decidable p] {x y : α} : cond (decide p) x y = if p then x else y := by
  by_cases h : p <;> simp [h]
theorem iter_eq {σ ρ : Type} {step : σ → Option (Sum σ ρ)} (F : σ → ρ) (P : σ → Prop) (μ : σ → Nat)
    (h : ∀ s, P s → step s = some (.inr (F s)) ∨ ∃ s', step s = some (.inl s') ∧ P s' ∧ μ s' < μ s ∧ F s' = F s) : ∀ n s, P s → μ s < n → iter step n s = some (F s)
  | 0, s, hp, hn => by omega
  | n + 1, s, hp, hn => by
    rw [iter]
    rcases h s hp with e | ⟨s', e, hp', hm, hf⟩
    · rw [e]
    · rw [e]; exact hf ▸ iter_eq F P μ h n s' hp' (by omega)
theorem FUEL_eq : FUEL = 18446744073709551616 := rfl
def be (n : Nat) : Nat → List UInt8
  | 0 => []
  | r + 1 => UInt8.ofNat (n / 256 ^ r) :: be n r
def valL (l : List UInt8) : Nat := l.foldl (fun n b => n * 256 + b.toNat) 0
@[simp] theorem be_len (n : Nat) : ∀ k, (be n k).length = k
  | 0 => rfl
  | k + 1 => by simp [be, be_len n k]
theorem be_snoc (n : Nat) : ∀ k, be n (k + 1) = be (n / 256) k ++ [UInt8.ofNat n]
  | 0 => by simp [be]
  | k + 1 => by
    rw [be, be_snoc n k, be, Nat.div_div_eq_div_mul, Nat.pow_succ, Nat.mul_comm 256]; rfl
theorem val_foldl (l : List UInt8) : ∀ n : Nat, l.foldl (fun n b => n * 256 + b.toNat) n = n * 256 ^ l.length + valL l := by
  induction l with
  | nil => intro n; simp [valL]
  | cons b l ih =>
    intro n
    rw [valL, List.foldl_cons, ih, List.foldl_cons, ih, List.length_cons, Nat.pow_succ]
    rw [Nat.zero_mul, Nat.zero_add, Nat.add_mul, Nat.mul_assoc, Nat.mul_comm (256 ^ _) 256, Nat.add_assoc]
@[simp] theorem val_nil : valL [] = 0 := rfl
theorem val_cons (b : UInt8) (l : List UInt8) : valL (b :: l) = b.toNat * 256 ^ l.length + valL l := by
  rw [valL, List.foldl_cons, val_foldl]; simp
end Go.Vm
namespace Go.Vm.Code
open Go Go.Vm Go.Proofs
def τ0:Operand:=.tmp 0
def τ1:Operand:=.tmp 1
def τ2:Operand:=.tmp 2
def τ3:Operand:=.tmp 3
def τ4:Operand:=.tmp 4
def τ5:Operand:=.tmp 5
def τ6:Operand:=.tmp 6
def τ7:Operand:=.tmp 7
def τ8:Operand:=.tmp 8
def τ9:Operand:=.tmp 9
def τ10:Operand:=.tmp 10
def τ11:Operand:=.tmp 11
def τ12:Operand:=.tmp 12
def τ13:Operand:=.tmp 13
def τ14:Operand:=.tmp 14
def τ15:Operand:=.tmp 15
def τ16:Operand:=.tmp 16
def τ17:Operand:=.tmp 17
def τ18:Operand:=.tmp 18
def τ19:Operand:=.tmp 19
def τ20:Operand:=.tmp 20
def τ21:Operand:=.tmp 21
def τ22:Operand:=.tmp 22
def τ23:Operand:=.tmp 23
def τ24:Operand:=.tmp 24
def τ25:Operand:=.tmp 25
def τ26:Operand:=.tmp 26
def τ27:Operand:=.tmp 27
def τ28:Operand:=.tmp 28
def τ29:Operand:=.tmp 29
def τ30:Operand:=.tmp 30
def τ31:Operand:=.tmp 31
def τ32:Operand:=.tmp 32
def τ33:Operand:=.tmp 33
def τ34:Operand:=.tmp 34
def τ35:Operand:=.tmp 35
def τ36:Operand:=.tmp 36
def τ37:Operand:=.tmp 37
def τ38:Operand:=.tmp 38
def τ39:Operand:=.tmp 39
def τ40:Operand:=.tmp 40
def τ41:Operand:=.tmp 41
def τ42:Operand:=.tmp 42
def τ43:Operand:=.tmp 43
def τ44:Operand:=.tmp 44
def τ45:Operand:=.tmp 45
def τ46:Operand:=.tmp 46
def τ47:Operand:=.tmp 47
def τ48:Operand:=.tmp 48
def τ49:Operand:=.tmp 49
def τ50:Operand:=.tmp 50
def τ51:Operand:=.tmp 51
def τ52:Operand:=.tmp 52
def τ53:Operand:=.tmp 53
def τ54:Operand:=.tmp 54
def τ55:Operand:=.tmp 55
def τ56:Operand:=.tmp 56
def τ57:Operand:=.tmp 57
def τ58:Operand:=.tmp 58
def τ59:Operand:=.tmp 59
def τ60:Operand:=.tmp 60
def τ61:Operand:=.tmp 61
def τ62:Operand:=.tmp 62
def τ63:Operand:=.tmp 63
def τ64:Operand:=.tmp 64
def τ65:Operand:=.tmp 65
def τ66:Operand:=.tmp 66
def τ67:Operand:=.tmp 67
def τ68:Operand:=.tmp 68
def τ69:Operand:=.tmp 69
def τ70:Operand:=.tmp 70
def τ71:Operand:=.tmp 71
def τ72:Operand:=.tmp 72
def τ73:Operand:=.tmp 73
def τ74:Operand:=.tmp 74
def τ75:Operand:=.tmp 75
def τ76:Operand:=.tmp 76
def τ77:Operand:=.tmp 77
def τ78:Operand:=.tmp 78
def τ79:Operand:=.tmp 79
def τ80:Operand:=.tmp 80
def τ81:Operand:=.tmp 81
def τ82:Operand:=.tmp 82
def τ83:Operand:=.tmp 83
def τ84:Operand:=.tmp 84
def τ85:Operand:=.tmp 85
def τ86:Operand:=.tmp 86
def τ87:Operand:=.tmp 87
def τ88:Operand:=.tmp 88
def τ89:Operand:=.tmp 89
def τ90:Operand:=.tmp 90
def τ91:Operand:=.tmp 91
def τ92:Operand:=.tmp 92
def τ93:Operand:=.tmp 93
def τ94:Operand:=.tmp 94
def τ95:Operand:=.tmp 95
def τ96:Operand:=.tmp 96
def τ97:Operand:=.tmp 97
def τ98:Operand:=.tmp 98
def τ99:Operand:=.tmp 99
def τ100:Operand:=.tmp 100
def τ101:Operand:=.tmp 101
def τ102:Operand:=.tmp 102
def τ103:Operand:=.tmp 103
def τ104:Operand:=.tmp 104
def τ105:Operand:=.tmp 105
def τ106:Operand:=.tmp 106
def τ107:Operand:=.tmp 107
def τ108:Operand:=.tmp 108
def τ109:Operand:=.tmp 109
def τ110:Operand:=.tmp 110
def τ111:Operand:=.tmp 111
def τ112:Operand:=.tmp 112
def τ113:Operand:=.tmp 113
def τ114:Operand:=.tmp 114
def τ115:Operand:=.tmp 115
def τ116:Operand:=.tmp 116
def τ117:Operand:=.tmp 117
def τ118:Operand:=.tmp 118
def τ119:Operand:=.tmp 119
def τ120:Operand:=.tmp 120
def τ121:Operand:=.tmp 121
def τ122:Operand:=.tmp 122
def τ123:Operand:=.tmp 123
def τ124:Operand:=.tmp 124
def τ125:Operand:=.tmp 125
def τ126:Operand:=.tmp 126
def τ127:Operand:=.tmp 127
def τ128:Operand:=.tmp 128
def τ129:Operand:=.tmp 129
def τ130:Operand:=.tmp 130
def τ131:Operand:=.tmp 131
def τ132:Operand:=.tmp 132
def τ133:Operand:=.tmp 133
def τ134:Operand:=.tmp 134
def τ135:Operand:=.tmp 135
def τ136:Operand:=.tmp 136
def τ137:Operand:=.tmp 137
def τ138:Operand:=.tmp 138
def τ139:Operand:=.tmp 139
def τ140:Operand:=.tmp 140
def τ141:Operand:=.tmp 141
def τ142:Operand:=.tmp 142
def τ143:Operand:=.tmp 143
def τ144:Operand:=.tmp 144
def τ145:Operand:=.tmp 145
def τ146:Operand:=.tmp 146
def τ147:Operand:=.tmp 147
def τ148:Operand:=.tmp 148
def τ149:Operand:=.tmp 149
def τ150:Operand:=.tmp 150
def τ151:Operand:=.tmp 151
def τ152:Operand:=.tmp 152
def τ153:Operand:=.tmp 153
def τ154:Operand:=.tmp 154
def τ155:Operand:=.tmp 155
def τ156:Operand:=.tmp 156
def τ157:Operand:=.tmp 157
def τ158:Operand:=.tmp 158
def τ159:Operand:=.tmp 159
def τ160:Operand:=.tmp 160
def τ161:Operand:=.tmp 161
def τ162:Operand:=.tmp 162
def τ163:Operand:=.tmp 163
def τ164:Operand:=.tmp 164
def τ165:Operand:=.tmp 165
def τ166:Operand:=.tmp 166
def τ167:Operand:=.tmp 167
def τ168:Operand:=.tmp 168
def τ169:Operand:=.tmp 169
def τ170:Operand:=.tmp 170
def τ171:Operand:=.tmp 171
def τ172:Operand:=.tmp 172
def τ173:Operand:=.tmp 173
def τ174:Operand:=.tmp 174
def τ175:Operand:=.tmp 175
def τ176:Operand:=.tmp 176
def τ177:Operand:=.tmp 177
def τ178:Operand:=.tmp 178
def τ179:Operand:=.tmp 179
def τ180:Operand:=.tmp 180
def τ181:Operand:=.tmp 181
def τ182:Operand:=.tmp 182
def τ183:Operand:=.tmp 183
def τ184:Operand:=.tmp 184
def τ185:Operand:=.tmp 185
def τ186:Operand:=.tmp 186
def oD (n:Nat) (o:VOp):VOper:=⟨some n,o,none⟩
def oN (o:VOp):VOper:=⟨none,o,none⟩
def oM (n:Nat) (x:Operand):VOper:=⟨some n,.mv x,none⟩
def oG (n:Nat) (o:VOp) (j:Nat) (b:Bool):VOper:=⟨some n,o,some (j,b)⟩
def oE (n i:Nat) (x:Operand):VOper:=⟨some n,.extract i x,none⟩
def k5_0 : VC := .reg [oD 8 (.mv (.const (.bool false)))]
def k5_1 : VC := .reg [oM 17 τ2,oD 18 (.lenS τ17),oD 19 (.bin .gtr τ18 (.const (.int .i64 60)))]
def k5_2 : VC := .reg [oD 20 (.callF 21 []),oM 8 τ20]
def k5_3 : VC := .seq k5_2 .ret
def k5_4 : VC := .cond τ19 k5_3 .skip
def k5_5 : VC := .seq k5_1 k5_4
def k5_6 : VC := .reg [oM 22 τ2,oM 23 τ3,oM 24 τ1,oD 25 (.callF 22 [τ22, τ23, τ24]),oM 21 τ25,oE 26 0 τ21,oE 27 1 τ21,oM 9 τ26,oM 10 τ27]
def k5_7 : VC := .reg [oM 29 τ2,oM 30 τ3,oM 31 τ1,oD 32 (.callF 23 [τ29, τ30, τ31]),oM 28 τ32,oE 33 0 τ28,oE 34 1 τ28,oM 11 τ33,oM 12 τ34]
def k5_8 : VC := .reg [oM 36 τ2,oD 37 (.callF 24 [τ36]),oM 35 τ37,oE 38 0 τ35,oE 39 1 τ35,oM 13 τ38,oM 14 τ39]
def k5_9 : VC := .reg [oM 41 τ2,oD 42 (.callF 25 [τ41]),oM 40 τ42,oE 43 0 τ40,oE 44 1 τ40,oM 15 τ43,oM 16 τ44]
def k5_10 : VC := .reg [oM 45 τ0,oM 46 τ1,oD 47 (.callF 26 [τ45, τ46]),oM 48 τ0,oM 49 τ1,oD 50 (.callF 27 [τ48, τ49]),oD 51 (.bin .eql τ47 τ50),oM 52 τ51,oG 53 (.mv τ9) 52 true,oG 54 (.mv τ11) 52 true,oG 55 (.bin .eql τ53 τ54) 52 true,oD 56 (.pick τ52 τ55 (.const (.bool false))),oM 57 τ56,oG 58 (.mv τ10) 57 true,oG 59 (.mv τ12) 57 true,oG 60 (.eqB false τ58 τ59) 57 true,oD 61 (.pick τ57 τ60 (.const (.bool false))),oM 62 τ61,oG 63 (.mv τ2) 62 true,oG 64 (.callF 28 [τ63]) 62 true,oG 65 (.mv τ2) 62 true,oG 66 (.callF 29 [τ65]) 62 true,oG 67 (.bin .eql τ64 τ66) 62 true,oD 68 (.pick τ62 τ67 (.const (.bool false))),oM 69 τ68,oG 70 (.mv τ13) 69 true,oG 71 (.mv τ15) 69 true,oG 72 (.bin .eql τ70 τ71) 69 true,oD 73 (.pick τ69 τ72 (.const (.bool false))),oM 74 τ73,oG 75 (.mv τ14) 74 true,oG 76 (.mv τ16) 74 true,oG 77 (.eqB false τ75 τ76) 74 true,oD 78 (.pick τ74 τ77 (.const (.bool false))),oM 79 τ78,oG 80 (.callF 21 []) 79 true,oD 81 (.pick τ79 τ80 (.const (.bool false))),oM 8 τ81]
def k5_11 : VC := .seq k5_10 .ret
def k5_12 : VC := .seq k5_9 k5_11
def k5_13 : VC := .seq k5_8 k5_12
def k5_14 : VC := .seq k5_7 k5_13
def k5_15 : VC := .seq k5_6 k5_14
def k5_16 : VC := .seq k5_5 k5_15
def k5_17 : VC := .seq k5_0 k5_16
def fn5 : VFn := ⟨82, k5_17, [.tmp 8]⟩
def k21_0 : VC := .reg [oD 0 (.mv (.const (.bool false)))]
def k21_1 : VC := .reg [oD 4 (.callF 24 [(.const (.string ⟨⟨[48, 71]⟩⟩))]),oM 3 τ4,oE 5 0 τ3,oE 6 1 τ3,oM 1 τ5,oM 2 τ6]
def k21_2 : VC := .reg [oD 7 (.callF 26 [(.const (.int .u64 258)), (.const (.int .i64 2))]),oD 8 (.bin .eql τ7 (.const (.string ⟨⟨[1, 2]⟩⟩))),oM 9 τ8,oG 10 (.callF 28 [(.const (.string ⟨⟨[102, 102]⟩⟩))]) 9 true,oG 11 (.bin .eql τ10 (.const (.string ⟨⟨[54, 54, 54, 54]⟩⟩))) 9 true,oD 12 (.pick τ9 τ11 (.const (.bool false))),oM 13 τ12,oG 14 (.mv τ2) 13 true,oG 15 (.not τ14) 13 true,oD 16 (.pick τ13 τ15 (.const (.bool false))),oM 17 τ16,oG 18 (.callF 30 [(.const (.string ⟨⟨[97]⟩⟩))]) 17 true,oG 19 (.callF 31 [τ18, (.const (.int .i64 1))]) 17 true,oG 20 (.bin .eql τ19 (.const (.int .i64 97))) 17 true,oD 21 (.pick τ17 τ20 (.const (.bool false))),oM 0 τ21]
def k21_3 : VC := .seq k21_2 .ret
def k21_4 : VC := .seq k21_1 k21_3
def k21_5 : VC := .seq k21_0 k21_4
def fn21 : VFn := ⟨22, k21_5, [.tmp 0]⟩
def k24_0 : VC := .reg [oD 2 (.mv (.const (.string ⟨⟨[]⟩⟩))),oD 3 (.mv (.const (.bool false)))]
def k24_1 : VC := .reg [oM 9 τ0,oD 10 (.lenS τ9),oD 11 (.bin .rem τ10 (.const (.int .i64 2))),oD 12 (.bin .gtr τ11 (.const (.int .i64 0)))]
def k24_2 : VC := .reg [oD 2 (.mv (.const (.string ⟨⟨[]⟩⟩))),oD 3 (.mv (.const (.bool false)))]
def k24_3 : VC := .seq k24_2 .ret
def k24_4 : VC := .cond τ12 k24_3 .skip
def k24_5 : VC := .seq k24_1 k24_4
def k24_6 : VC := .reg [oM 13 τ0,oD 14 (.lenS τ13),oD 15 (.bin .quo τ14 (.const (.int .i64 2))),oD 16 (.mkSl 1 1 [(.int .u8 0)] τ15 τ15),oM 4 τ16]
def k24_7 : VC := .reg [oD 5 (.mv (.const (.int .i64 0)))]
def k24_8 : VC := .reg [oM 17 τ0,oD 18 (.rangeS τ17)]
def k24_9 : VC := .reg [oD 19 (.nextS τ18),oE 20 0 τ19]
def k24_10 : VC := .cond τ20 .skip (.exit 0)
def k24_11 : VC := .reg [oE 21 2 τ19,oM 7 τ21]
def k24_12 : VC := .reg [oM 22 τ7,oD 23 (.callF 48 [(.const (.string ⟨⟨[48, 49, 50, 51, 52, 53, 54, 55, 56, 57, 97, 98, 99, 100, 101, 102]⟩⟩)), τ22]),oM 8 τ23]
def k24_13 : VC := .reg [oM 24 τ8,oD 25 (.bin .lss τ24 (.const (.int .i64 0)))]
def k24_14 : VC := .reg [oD 2 (.mv (.const (.string ⟨⟨[]⟩⟩))),oD 3 (.mv (.const (.bool false)))]
def k24_15 : VC := .seq k24_14 .ret
def k24_16 : VC := .cond τ25 k24_15 .skip
def k24_17 : VC := .seq k24_13 k24_16
def k24_18 : VC := .reg [oM 26 τ4,oM 27 τ5,oD 28 (.bin .quo τ27 (.const (.int .i64 2))),oM 29 τ4,oM 30 τ5,oD 31 (.bin .quo τ30 (.const (.int .i64 2))),oD 32 (.idxAL 1 τ29 τ31),oD 33 (.load1 (.int .u8) τ32),oD 34 (.bin .shl τ33 (.const (.int .u64 4))),oM 35 τ8,oD 36 (.conv .u8 τ35),oD 37 (.bin .or τ34 τ36),oD 38 (.idxAL 1 τ26 τ28),oN (.store 1 τ38 τ37)]
def k24_19 : VC := .reg [oM 39 τ5,oD 40 (.bin .add τ39 (.const (.int .i64 1))),oM 5 τ40]
def k24_20 : VC := .seq k24_18 k24_19
def k24_21 : VC := .seq k24_17 k24_20
def k24_22 : VC := .seq k24_12 k24_21
def k24_23 : VC := .seq k24_11 k24_22
def k24_24 : VC := .block 1 k24_23
def k24_25 : VC := .seq k24_10 k24_24
def k24_26 : VC := .seq k24_9 k24_25
def k24_27 : VC := .loop k24_26
def k24_28 : VC := .block 0 k24_27
def k24_29 : VC := .seq k24_8 k24_28
def k24_30 : VC := .reg [oM 41 τ4,oD 42 (.b2s τ41),oM 2 τ42,oD 3 (.mv (.const (.bool true)))]
def k24_31 : VC := .seq k24_30 .ret
def k24_32 : VC := .seq k24_29 k24_31
def k24_33 : VC := .seq k24_7 k24_32
def k24_34 : VC := .seq k24_6 k24_33
def k24_35 : VC := .seq k24_5 k24_34
def k24_36 : VC := .seq k24_0 k24_35
def fn24 : VFn := ⟨43, k24_36, [.tmp 2, .tmp 3]⟩
def k48_0 : VC := .reg [oD 4 (.mv (.const (.int .i64 0)))]
def k48_1 : VC := .reg [oM 161 τ1,oD 162 (.bin .leq (.const (.int .i32 0)) τ161),oM 163 τ162,oG 164 (.mv τ1) 163 true,oG 165 (.bin .lss τ164 (.const (.int .i32 128))) 163 true,oD 166 (.pick τ163 τ165 (.const (.bool false))),oM 160 τ166]
def k48_2 : VC := .reg [oM 167 τ0,oM 168 τ1,oD 169 (.conv .u8 τ168),oD 170 (.callF 64 [τ167, τ169]),oM 4 τ170]
def k48_3 : VC := .seq k48_2 .ret
def k48_4 : VC := .reg [oM 172 τ1,oD 173 (.bin .eql τ172 (.const (.int .i32 65533))),oM 171 τ173]
def k48_5 : VC := .reg [oM 174 τ0,oD 175 (.rangeS τ174)]
def k48_6 : VC := .reg [oD 176 (.nextS τ175),oE 177 0 τ176]
def k48_7 : VC := .cond τ177 .skip (.exit 9)
def k48_8 : VC := .reg [oE 178 1 τ176,oE 179 2 τ176,oM 5 τ178,oM 6 τ179]
def k48_9 : VC := .reg [oM 180 τ6,oD 181 (.bin .eql τ180 (.const (.int .i32 65533)))]
def k48_10 : VC := .reg [oM 182 τ5,oM 4 τ182]
def k48_11 : VC := .seq k48_10 .ret
def k48_12 : VC := .cond τ181 k48_11 .skip
def k48_13 : VC := .seq k48_9 k48_12
def k48_14 : VC := .seq k48_8 k48_13
def k48_15 : VC := .block 10 k48_14
def k48_16 : VC := .seq k48_7 k48_15
def k48_17 : VC := .seq k48_6 k48_16
def k48_18 : VC := .loop k48_17
def k48_19 : VC := .block 9 k48_18
def k48_20 : VC := .seq k48_5 k48_19
def k48_21 : VC := .reg [oD 4 (.mv (.const (.int .i64 (-1))))]
def k48_22 : VC := .seq k48_21 .ret
def k48_23 : VC := .seq k48_20 k48_22
def k48_24 : VC := .reg [oM 184 τ1,oD 185 (.callF 65 [τ184]),oD 186 (.not τ185),oM 183 τ186]
def k48_25 : VC := .reg [oD 4 (.mv (.const (.int .i64 (-1))))]
def k48_26 : VC := .seq k48_25 .ret
def k48_27 : VC := .reg [oM 17 τ1,oD 18 (.r2s τ17),oM 7 τ18]
def k48_28 : VC := .reg [oM 19 τ7,oD 20 (.lenS τ19),oD 21 (.bin .sub τ20 (.const (.int .i64 1))),oM 8 τ21]
def k48_29 : VC := .reg [oM 22 τ8,oM 9 τ22]
def k48_30 : VC := .reg [oD 10 (.mv (.const (.int .i64 0)))]
def k48_31 : VC := .reg [oM 23 τ9,oM 24 τ0,oD 25 (.lenS τ24),oD 26 (.bin .lss τ23 τ25)]
def k48_32 : VC := .cond τ26 .skip (.exit 1)
def k48_33 : VC := .seq k48_31 k48_32
def k48_34 : VC := .regD [oM 27 τ0,oM 28 τ9,oD 29 (.idxS τ27 τ28),oM 30 τ7,oM 31 τ8,oD 32 (.idxS τ30 τ31)] [] [oD 33 (.bin .neq τ29 τ32)]
def k48_35 : VC := .regD [oM 34 τ0,oM 35 τ9,oD 36 (.bin .add τ35 (.const (.int .i64 1))),oD 37 (.sliceS τ34 (some τ36) none),oM 38 τ7,oM 39 τ8,oD 40 (.idxS τ38 τ39)] [] [oD 41 (.callF 64 [τ37, τ40]),oM 11 τ41]
def k48_36 : VC := .reg [oM 42 τ11,oD 43 (.bin .lss τ42 (.const (.int .i64 0)))]
def k48_37 : VC := .reg [oD 4 (.mv (.const (.int .i64 (-1))))]
def k48_38 : VC := .seq k48_37 .ret
def k48_39 : VC := .cond τ43 k48_38 .skip
def k48_40 : VC := .seq k48_36 k48_39
def k48_41 : VC := .reg [oM 44 τ9,oM 45 τ11,oD 46 (.bin .add τ45 (.const (.int .i64 1))),oD 47 (.bin .add τ44 τ46),oM 9 τ47]
def k48_42 : VC := .seq k48_40 k48_41
def k48_43 : VC := .seq k48_35 k48_42
def k48_44 : VC := .cond τ33 k48_43 .skip
def k48_45 : VC := .seq k48_34 k48_44
def k48_46 : VC := .reg [oD 12 (.mv (.const (.int .i64 1)))]
def k48_47 : VC := .reg [oM 48 τ12,oM 49 τ7,oD 50 (.lenS τ49),oD 51 (.bin .lss τ48 τ50)]
def k48_48 : VC := .cond τ51 .skip (.exit 3)
def k48_49 : VC := .seq k48_47 k48_48
def k48_50 : VC := .regD [oM 54 τ0,oM 55 τ9,oM 56 τ12,oD 57 (.bin .sub τ55 τ56),oD 58 (.idxS τ54 τ57),oM 59 τ7,oM 60 τ8,oM 61 τ12,oD 62 (.bin .sub τ60 τ61),oD 63 (.idxS τ59 τ62)] [] [oD 64 (.bin .neq τ58 τ63)]
def k48_51 : VC := .cond τ64 .stuck .skip
def k48_52 : VC := .seq k48_50 k48_51
def k48_53 : VC := .block 4 k48_52
def k48_54 : VC := .reg [oM 52 τ12,oD 53 (.bin .add τ52 (.const (.int .i64 1))),oM 12 τ53]
def k48_55 : VC := .seq k48_53 k48_54
def k48_56 : VC := .seq k48_49 k48_55
def k48_57 : VC := .loop k48_56
def k48_58 : VC := .block 3 k48_57
def k48_59 : VC := .seq k48_46 k48_58
def k48_60 : VC := .reg [oM 65 τ9,oM 66 τ8,oD 67 (.bin .sub τ65 τ66),oM 4 τ67]
def k48_61 : VC := .seq k48_60 .ret
def k48_62 : VC := .reg [oM 68 τ10,oD 69 (.bin .add τ68 (.const (.int .i64 1))),oM 10 τ69]
def k48_63 : VC := .reg [oM 70 τ9,oD 71 (.bin .add τ70 (.const (.int .i64 1))),oM 9 τ71]
def k48_64 : VC := .reg [oD 72 (.mv (.const (.bool true))),oG 73 (.mv τ10) 72 true,oG 74 (.mv τ9) 72 true,oG 75 (.callF 66 [τ74]) 72 true,oG 76 (.bin .gtr τ73 τ75) 72 true,oD 77 (.pick τ72 τ76 (.const (.bool false))),oM 78 τ77,oG 79 (.mv τ9) 78 true,oG 80 (.mv τ0) 78 true,oG 81 (.lenS τ80) 78 true,oG 82 (.bin .lss τ79 τ81) 78 true,oD 83 (.pick τ78 τ82 (.const (.bool false))),oM 84 τ83,oG 85 (.mv (.const (.bool false))) 84 false,oG 86 (.mv τ10) 85 true,oG 87 (.mv τ9) 85 true,oG 88 (.bin .shr τ87 (.const (.int .u64 4))) 85 true,oG 89 (.bin .add (.const (.int .i64 4)) τ88) 85 true,oG 90 (.bin .geq τ86 τ89) 85 true,oG 91 (.pick τ85 τ90 (.const (.bool false))) 84 false,oG 92 (.mv τ91) 84 false,oG 93 (.mv τ9) 92 true,oG 94 (.mv τ0) 92 true,oG 95 (.lenS τ94) 92 true,oG 96 (.bin .lss τ93 τ95) 92 true,oG 97 (.pick τ92 τ96 (.const (.bool false))) 84 false,oD 98 (.pick τ84 (.const (.bool true)) τ97)]
def k48_65 : VC := .cond τ98 .stuck .skip
def k48_66 : VC := .seq k48_64 k48_65
def k48_67 : VC := .seq k48_63 k48_66
def k48_68 : VC := .seq k48_62 k48_67
def k48_69 : VC := .seq .skip k48_68
def k48_70 : VC := .seq k48_61 k48_69
def k48_71 : VC := .seq k48_59 k48_70
def k48_72 : VC := .seq k48_45 k48_71
def k48_73 : VC := .scope k48_72
def k48_74 : VC := .block 2 k48_73
def k48_75 : VC := .seq k48_33 k48_74
def k48_76 : VC := .loop k48_75
def k48_77 : VC := .block 1 k48_76
def k48_78 : VC := .reg [oD 4 (.mv (.const (.int .i64 (-1))))]
def k48_79 : VC := .seq k48_78 .ret
def k48_80 : VC := .reg [oM 99 τ0,oM 100 τ9,oM 101 τ8,oD 102 (.bin .sub τ100 τ101),oD 103 (.sliceS τ99 (some τ102) none),oM 104 τ1,oD 105 (.r2s τ104),oD 106 (.callF 67 [τ103, τ105]),oM 13 τ106]
def k48_81 : VC := .reg [oM 107 τ13,oD 108 (.bin .geq τ107 (.const (.int .i64 0)))]
def k48_82 : VC := .reg [oM 109 τ9,oM 110 τ13,oD 111 (.bin .add τ109 τ110),oM 112 τ8,oD 113 (.bin .sub τ111 τ112),oM 4 τ113]
def k48_83 : VC := .seq k48_82 .ret
def k48_84 : VC := .cond τ108 k48_83 .skip
def k48_85 : VC := .seq k48_81 k48_84
def k48_86 : VC := .seq k48_80 k48_85
def k48_87 : VC := .reg [oM 114 τ7,oM 115 τ8,oD 116 (.idxS τ114 τ115),oM 14 τ116]
def k48_88 : VC := .reg [oM 117 τ7,oM 118 τ8,oD 119 (.bin .sub τ118 (.const (.int .i64 1))),oD 120 (.idxS τ117 τ119),oM 15 τ120]
def k48_89 : VC := .reg [oM 121 τ9,oM 122 τ0,oD 123 (.lenS τ122),oD 124 (.bin .lss τ121 τ123)]
def k48_90 : VC := .cond τ124 .skip (.exit 5)
def k48_91 : VC := .seq k48_89 k48_90
def k48_92 : VC := .reg [oM 127 τ0,oM 128 τ9,oD 129 (.idxS τ127 τ128),oM 130 τ14,oD 131 (.bin .eql τ129 τ130),oM 132 τ131,oG 133 (.mv τ0) 132 true,oG 134 (.mv τ9) 132 true,oG 135 (.bin .sub τ134 (.const (.int .i64 1))) 132 true,oG 136 (.idxS τ133 τ135) 132 true,oG 137 (.mv τ15) 132 true,oG 138 (.bin .eql τ136 τ137) 132 true,oD 139 (.pick τ132 τ138 (.const (.bool false)))]
def k48_93 : VC := .reg [oD 16 (.mv (.const (.int .i64 2)))]
def k48_94 : VC := .reg [oM 140 τ16,oM 141 τ7,oD 142 (.lenS τ141),oD 143 (.bin .lss τ140 τ142)]
def k48_95 : VC := .cond τ143 .skip (.exit 7)
def k48_96 : VC := .seq k48_94 k48_95
def k48_97 : VC := .regD [oM 146 τ0,oM 147 τ9,oM 148 τ16,oD 149 (.bin .sub τ147 τ148),oD 150 (.idxS τ146 τ149),oM 151 τ7,oM 152 τ8,oM 153 τ16,oD 154 (.bin .sub τ152 τ153),oD 155 (.idxS τ151 τ154)] [] [oD 156 (.bin .neq τ150 τ155)]
def k48_98 : VC := .cond τ156 (.exit 6) .skip
def k48_99 : VC := .seq k48_97 k48_98
def k48_100 : VC := .block 8 k48_99
def k48_101 : VC := .reg [oM 144 τ16,oD 145 (.bin .add τ144 (.const (.int .i64 1))),oM 16 τ145]
def k48_102 : VC := .seq k48_100 k48_101
def k48_103 : VC := .seq k48_96 k48_102
def k48_104 : VC := .loop k48_103
def k48_105 : VC := .block 7 k48_104
def k48_106 : VC := .seq k48_93 k48_105
def k48_107 : VC := .reg [oM 157 τ9,oM 158 τ8,oD 159 (.bin .sub τ157 τ158),oM 4 τ159]
def k48_108 : VC := .seq k48_107 .ret
def k48_109 : VC := .seq k48_106 k48_108
def k48_110 : VC := .cond τ139 k48_109 .skip
def k48_111 : VC := .seq k48_92 k48_110
def k48_112 : VC := .block 6 k48_111
def k48_113 : VC := .reg [oM 125 τ9,oD 126 (.bin .add τ125 (.const (.int .i64 1))),oM 9 τ126]
def k48_114 : VC := .seq k48_112 k48_113
def k48_115 : VC := .seq k48_91 k48_114
def k48_116 : VC := .loop k48_115
def k48_117 : VC := .block 5 k48_116
def k48_118 : VC := .seq .skip k48_117
def k48_119 : VC := .seq k48_88 k48_118
def k48_120 : VC := .seq k48_87 k48_119
def k48_121 : VC := .scope k48_120
def k48_122 : VC := .cond (.const (.bool true)) k48_86 k48_121
def k48_123 : VC := .reg [oD 4 (.mv (.const (.int .i64 (-1))))]
def k48_124 : VC := .seq k48_123 .ret
def k48_125 : VC := .seq k48_122 k48_124
def k48_126 : VC := .seq .skip k48_125
def k48_127 : VC := .seq k48_79 k48_126
def k48_128 : VC := .seq k48_77 k48_127
def k48_129 : VC := .seq k48_30 k48_128
def k48_130 : VC := .seq k48_29 k48_129
def k48_131 : VC := .seq k48_28 k48_130
def k48_132 : VC := .seq k48_27 k48_131
def k48_133 : VC := .scope k48_132
def k48_134 : VC := .cond τ183 k48_26 k48_133
def k48_135 : VC := .seq k48_24 k48_134
def k48_136 : VC := .cond τ171 k48_23 k48_135
def k48_137 : VC := .seq k48_4 k48_136
def k48_138 : VC := .cond τ160 k48_3 k48_137
def k48_139 : VC := .seq k48_1 k48_138
def k48_140 : VC := .block 0 k48_139
def k48_141 : VC := .seq k48_0 k48_140
def fn48 : VFn := ⟨187, k48_141, [.tmp 4]⟩
def k64_0 : VC := .reg [oD 4 (.mv (.const (.int .i64 0)))]
def k64_1 : VC := .reg [oM 5 τ0,oM 6 τ1,oD 7 (.callF 74 [τ5, τ6]),oM 4 τ7]
def k64_2 : VC := .seq k64_1 .ret
def k64_3 : VC := .seq k64_0 k64_2
def fn64 : VFn := ⟨8, k64_3, [.tmp 4]⟩
def k74_0 : VC := .reg [oD 4 (.mv (.const (.int .i64 0)))]
def k74_1 : VC := .reg [oM 5 τ0,oM 6 τ1,oD 7 (.ixb τ5 τ6),oM 4 τ7]
def k74_2 : VC := .seq k74_1 .ret
def k74_3 : VC := .seq k74_0 k74_2
def fn74 : VFn := ⟨8, k74_3, [.tmp 4]⟩
def k65_0 : VC := .reg [oD 2 (.mv (.const (.bool false)))]
def k65_1 : VC := .reg [oM 4 τ0,oD 5 (.bin .leq (.const (.int .i32 0)) τ4),oM 6 τ5,oG 7 (.mv τ0) 6 true,oG 8 (.bin .lss τ7 (.const (.int .i32 55296))) 6 true,oD 9 (.pick τ6 τ8 (.const (.bool false))),oM 3 τ9]
def k65_2 : VC := .reg [oD 2 (.mv (.const (.bool true)))]
def k65_3 : VC := .seq k65_2 .ret
def k65_4 : VC := .reg [oM 11 τ0,oD 12 (.bin .lss (.const (.int .i32 57343)) τ11),oM 13 τ12,oG 14 (.mv τ0) 13 true,oG 15 (.bin .leq τ14 (.const (.int .i32 1114111))) 13 true,oD 16 (.pick τ13 τ15 (.const (.bool false))),oM 10 τ16]
def k65_5 : VC := .reg [oD 2 (.mv (.const (.bool true)))]
def k65_6 : VC := .seq k65_5 .ret
def k65_7 : VC := .cond τ10 k65_6 .skip
def k65_8 : VC := .seq k65_4 k65_7
def k65_9 : VC := .cond τ3 k65_3 k65_8
def k65_10 : VC := .seq k65_1 k65_9
def k65_11 : VC := .block 0 k65_10
def k65_12 : VC := .reg [oD 2 (.mv (.const (.bool false)))]
def k65_13 : VC := .seq k65_12 .ret
def k65_14 : VC := .seq k65_11 k65_13
def k65_15 : VC := .seq k65_0 k65_14
def fn65 : VFn := ⟨17, k65_15, [.tmp 2]⟩
def k66_0 : VC := .reg [oD 2 (.mv (.const (.int .i64 0)))]
def k66_1 : VC := .reg [oM 3 τ0,oD 4 (.bin .add τ3 (.const (.int .i64 16))),oD 5 (.bin .quo τ4 (.const (.int .i64 8))),oM 2 τ5]
def k66_2 : VC := .seq k66_1 .ret
def k66_3 : VC := .seq k66_0 k66_2
def fn66 : VFn := ⟨6, k66_3, [.tmp 2]⟩
def k26_0 : VC := .reg [oD 4 (.mv (.const (.string ⟨⟨[]⟩⟩)))]
def k26_1 : VC := .reg [oM 7 τ1,oD 8 (.bin .lss τ7 (.const (.int .i64 1))),oM 9 τ8,oG 10 (.mv τ1) 9 false,oG 11 (.bin .gtr τ10 (.const (.int .i64 8))) 9 false,oD 12 (.pick τ9 (.const (.bool true)) τ11)]
def k26_2 : VC := .reg [oD 4 (.mv (.const (.string ⟨⟨[]⟩⟩)))]
def k26_3 : VC := .seq k26_2 .ret
def k26_4 : VC := .cond τ12 k26_3 .skip
def k26_5 : VC := .seq k26_1 k26_4
def k26_6 : VC := .reg [oM 13 τ1,oD 14 (.mkSl 1 1 [(.int .u8 0)] τ13 τ13),oM 5 τ14]
def k26_7 : VC := .reg [oM 15 τ5,oD 16 (.lenL τ15),oD 17 (.mv (.const (.int .i64 0)))]
def k26_8 : VC := .reg [oD 18 (.bin .lss τ17 τ16)]
def k26_9 : VC := .cond τ18 .skip (.exit 0)
def k26_10 : VC := .reg [oM 19 τ17,oM 6 τ19]
def k26_11 : VC := .reg [oM 20 τ5,oM 21 τ6,oM 22 τ0,oM 23 τ1,oD 24 (.bin .sub τ23 (.const (.int .i64 1))),oM 25 τ6,oD 26 (.bin .sub τ24 τ25),oD 27 (.bin .mul (.const (.int .i64 8)) τ26),oD 28 (.bin .shr τ22 τ27),oD 29 (.conv .u8 τ28),oD 30 (.idxAL 1 τ20 τ21),oN (.store 1 τ30 τ29)]
def k26_12 : VC := .seq k26_10 k26_11
def k26_13 : VC := .block 1 k26_12
def k26_14 : VC := .reg [oD 31 (.bin .add τ17 (.const (.int .i64 1))),oM 17 τ31]
def k26_15 : VC := .seq k26_13 k26_14
def k26_16 : VC := .seq k26_9 k26_15
def k26_17 : VC := .seq k26_8 k26_16
def k26_18 : VC := .loop k26_17
def k26_19 : VC := .block 0 k26_18
def k26_20 : VC := .seq k26_7 k26_19
def k26_21 : VC := .reg [oM 32 τ5,oD 33 (.b2s τ32),oM 4 τ33]
def k26_22 : VC := .seq k26_21 .ret
def k26_23 : VC := .seq k26_20 k26_22
def k26_24 : VC := .seq k26_6 k26_23
def k26_25 : VC := .seq k26_5 k26_24
def k26_26 : VC := .seq k26_0 k26_25
def fn26 : VFn := ⟨34, k26_26, [.tmp 4]⟩
def k28_0 : VC := .reg [oD 2 (.mv (.const (.string ⟨⟨[]⟩⟩)))]
def k28_1 : VC := .reg [oD 3 (.allocB 82 5)]
def k28_2 : VC := .reg [oM 6 τ0,oD 7 (.s2b τ6),oD 8 (.lenL τ7),oD 9 (.mv (.const (.int .i64 0)))]
def k28_3 : VC := .reg [oD 10 (.bin .lss τ9 τ8)]
def k28_4 : VC := .cond τ10 .skip (.exit 0)
def k28_5 : VC := .reg [oD 11 (.idxAL 1 τ7 τ9),oD 12 (.load1 (.int .u8) τ11),oM 5 τ12]
def k28_6 : VC := .reg [oM 13 τ5,oD 14 (.bin .shr τ13 (.const (.int .u64 4))),oD 15 (.idxS (.const (.string ⟨⟨[48, 49, 50, 51, 52, 53, 54, 55, 56, 57, 97, 98, 99, 100, 101, 102]⟩⟩)) τ14),oD 16 (.callF 50 [τ3, τ15])]
def k28_7 : VC := .reg [oM 17 τ5,oD 18 (.bin .and τ17 (.const (.int .u8 15))),oD 19 (.idxS (.const (.string ⟨⟨[48, 49, 50, 51, 52, 53, 54, 55, 56, 57, 97, 98, 99, 100, 101, 102]⟩⟩)) τ18),oD 20 (.callF 50 [τ3, τ19])]
def k28_8 : VC := .seq k28_6 k28_7
def k28_9 : VC := .seq k28_5 k28_8
def k28_10 : VC := .block 1 k28_9
def k28_11 : VC := .reg [oD 21 (.bin .add τ9 (.const (.int .i64 1))),oM 9 τ21]
def k28_12 : VC := .seq k28_10 k28_11
def k28_13 : VC := .seq k28_4 k28_12
def k28_14 : VC := .seq k28_3 k28_13
def k28_15 : VC := .loop k28_14
def k28_16 : VC := .block 0 k28_15
def k28_17 : VC := .seq k28_2 k28_16
def k28_18 : VC := .reg [oD 22 (.callF 51 [τ3]),oM 2 τ22]
def k28_19 : VC := .seq k28_18 .ret
def k28_20 : VC := .seq k28_17 k28_19
def k28_21 : VC := .seq k28_1 k28_20
def k28_22 : VC := .seq k28_0 k28_21
def fn28 : VFn := ⟨23, k28_22, [.tmp 2]⟩
def k50_0 : VC := .reg [oM 4 (.const .nilIface)]
def k50_1 : VC := .reg [oM 5 τ0,oD 6 (.callF 68 [τ5])]
def k50_2 : VC := .reg [oM 7 τ0,oM 8 τ0,oD 9 (.nilCheck τ8),oD 10 (.fieldA 1 τ9),oD 11 (.load1 .oth τ10),oM 12 τ1,oD 13 (.buildSl 1 1 [(.int .u8 0)] [(0, 1, τ12)]),oD 14 (.app 5 1 1 τ11 τ13),oD 15 (.nilCheck τ7),oD 16 (.fieldA 1 τ15),oN (.store 1 τ16 τ14)]
def k50_3 : VC := .reg [oM 4 (.const .nilIface)]
def k50_4 : VC := .seq k50_3 .ret
def k50_5 : VC := .seq k50_2 k50_4
def k50_6 : VC := .seq k50_1 k50_5
def k50_7 : VC := .seq k50_0 k50_6
def fn50 : VFn := ⟨17, k50_7, [.tmp 4]⟩
def k68_0 : VC := .reg [oM 2 τ0,oD 3 (.nilCheck τ2),oD 4 (.fieldA 0 τ3),oD 5 (.load1 .oth τ4),oD 6 (.isNil 0 false τ5)]
def k68_1 : VC := .reg [oM 7 τ0,oM 8 τ0,oD 9 (.toU τ8),oM 10 τ9,oD 11 (.ofU 82 2 τ10),oD 12 (.nilCheck τ7),oD 13 (.fieldA 0 τ12),oN (.store 1 τ13 τ11)]
def k68_2 : VC := .reg [oM 14 τ0,oD 15 (.nilCheck τ14),oD 16 (.fieldA 0 τ15),oD 17 (.load1 .oth τ16),oM 18 τ0,oD 19 (.eqP true τ17 τ18)]
def k68_3 : VC := .cond τ19 .stuck .skip
def k68_4 : VC := .seq k68_2 k68_3
def k68_5 : VC := .cond τ6 k68_1 k68_4
def k68_6 : VC := .seq k68_0 k68_5
def fn68 : VFn := ⟨20, k68_6, []⟩
def k51_0 : VC := .reg [oD 2 (.mv (.const (.string ⟨⟨[]⟩⟩)))]
def k51_1 : VC := .regD [oM 3 τ0,oD 4 (.nilCheck τ3),oD 5 (.fieldA 1 τ4),oD 6 (.load1 .oth τ5),oD 7 (.sdata τ6),oM 8 τ0,oD 9 (.nilCheck τ8),oD 10 (.fieldA 1 τ9),oD 11 (.load1 .oth τ10),oD 12 (.lenL τ11)] [] [oD 13 (.ustr 5 τ7 τ12),oM 2 τ13]
def k51_2 : VC := .seq k51_1 .ret
def k51_3 : VC := .seq k51_0 k51_2
def fn51 : VFn := ⟨14, k51_3, [.tmp 2]⟩
def k30_0 : VC := .reg [oD 2 (.mv (.const (.pointer none)))]
def k30_1 : VC := .reg [oM 3 τ0,oD 4 (.build [(.string ⟨⟨[]⟩⟩), (.bool false), (.bool false)] [(0, 1, τ3), (1, 1, (.const (.bool true)))]),oD 5 (.box τ4),oM 2 τ5]
def k30_2 : VC := .seq k30_1 .ret
def k30_3 : VC := .seq k30_0 k30_2
def fn30 : VFn := ⟨6, k30_3, [.tmp 2]⟩
def k31_0 : VC := .reg [oD 4 (.mv (.const (.int .i64 0)))]
def k31_1 : VC := .reg [oM 7 τ1,oD 8 (.bin .lss τ7 (.const (.int .i64 1))),oM 9 τ8,oG 10 (.mv τ1) 9 false,oG 11 (.bin .gtr τ10 (.const (.int .i64 7))) 9 false,oD 12 (.pick τ9 (.const (.bool true)) τ11)]
def k31_2 : VC := .reg [oD 1 (.mv (.const (.int .i64 (-1))))]
def k31_3 : VC := .cond τ12 k31_2 .skip
def k31_4 : VC := .seq k31_1 k31_3
def k31_5 : VC := .reg [oM 14 τ0,oM 15 τ1,oD 16 (.callF 33 [τ14, τ15]),oM 17 τ1,oD 18 (.callF 22 [τ16, (.const (.int .i64 0)), τ17]),oM 13 τ18,oE 19 0 τ13,oE 20 1 τ13,oM 5 τ19,oM 6 τ20]
def k31_6 : VC := .reg [oM 21 τ5,oD 22 (.conv .i64 τ21),oM 4 τ22]
def k31_7 : VC := .seq k31_6 .ret
def k31_8 : VC := .seq k31_5 k31_7
def k31_9 : VC := .seq k31_4 k31_8
def k31_10 : VC := .seq k31_0 k31_9
def fn31 : VFn := ⟨23, k31_10, [.tmp 4]⟩
def k33_0 : VC := .reg [oD 4 (.mv (.const (.string ⟨⟨[]⟩⟩)))]
def k33_1 : VC := .reg [oM 6 τ0,oD 7 (.callF 37 [τ6])]
def k33_2 : VC := .reg [oD 4 (.mv (.const (.string ⟨⟨[]⟩⟩)))]
def k33_3 : VC := .seq k33_2 .ret
def k33_4 : VC := .cond τ7 k33_3 .skip
def k33_5 : VC := .seq k33_1 k33_4
def k33_6 : VC := .reg [oM 8 τ1,oD 9 (.bin .lss τ8 (.const (.int .i64 0))),oM 10 τ9,oG 11 (.mv τ1) 10 false,oG 12 (.mv τ0) 10 false,oG 13 (.nilCheck τ12) 10 false,oG 14 (.fieldA 0 τ13) 10 false,oG 15 (.load1 .str τ14) 10 false,oG 16 (.lenS τ15) 10 false,oG 17 (.bin .gtr τ11 τ16) 10 false,oD 18 (.pick τ10 (.const (.bool true)) τ17)]
def k33_7 : VC := .reg [oM 19 τ0,oD 20 (.nilCheck τ19),oD 21 (.fieldA 2 τ20),oN (.store 1 τ21 (.const (.bool true)))]
def k33_8 : VC := .reg [oD 4 (.mv (.const (.string ⟨⟨[]⟩⟩)))]
def k33_9 : VC := .seq k33_8 .ret
def k33_10 : VC := .seq k33_7 k33_9
def k33_11 : VC := .cond τ18 k33_10 .skip
def k33_12 : VC := .seq k33_6 k33_11
def k33_13 : VC := .reg [oM 22 τ0,oD 23 (.nilCheck τ22),oD 24 (.fieldA 0 τ23),oD 25 (.load1 .str τ24),oM 26 τ1,oD 27 (.sliceS τ25 none (some τ26)),oM 5 τ27]
def k33_14 : VC := .reg [oM 28 τ0,oM 29 τ0,oD 30 (.nilCheck τ29),oD 31 (.fieldA 0 τ30),oD 32 (.load1 .str τ31),oM 33 τ1,oD 34 (.sliceS τ32 (some τ33) none),oD 35 (.nilCheck τ28),oD 36 (.fieldA 0 τ35),oN (.store 1 τ36 τ34)]
def k33_15 : VC := .reg [oM 37 τ5,oM 4 τ37]
def k33_16 : VC := .seq k33_15 .ret
def k33_17 : VC := .seq k33_14 k33_16
def k33_18 : VC := .seq k33_13 k33_17
def k33_19 : VC := .seq k33_12 k33_18
def k33_20 : VC := .seq k33_5 k33_19
def k33_21 : VC := .seq k33_0 k33_20
def fn33 : VFn := ⟨38, k33_21, [.tmp 4]⟩
def k37_0 : VC := .reg [oD 2 (.mv (.const (.bool false)))]
def k37_1 : VC := .reg [oM 3 τ0,oD 4 (.isNil 0 false τ3),oM 5 τ4,oG 6 (.mv τ0) 5 false,oG 7 (.nilCheck τ6) 5 false,oG 8 (.fieldA 1 τ7) 5 false,oG 9 (.load1 .bool τ8) 5 false,oG 10 (.not τ9) 5 false,oD 11 (.pick τ5 (.const (.bool true)) τ10),oM 12 τ11,oG 13 (.mv τ0) 12 false,oG 14 (.nilCheck τ13) 12 false,oG 15 (.fieldA 2 τ14) 12 false,oG 16 (.load1 .bool τ15) 12 false,oD 17 (.pick τ12 (.const (.bool true)) τ16),oM 2 τ17]
def k37_2 : VC := .seq k37_1 .ret
def k37_3 : VC := .seq k37_0 k37_2
def fn37 : VFn := ⟨18, k37_3, [.tmp 2]⟩
def k22_0 : VC := .reg [oD 6 (.mv (.const (.int .u64 0))),oD 7 (.mv (.const (.bool false)))]
def k22_1 : VC := .reg [oM 11 τ2,oD 12 (.bin .lss τ11 (.const (.int .i64 1))),oM 13 τ12,oG 14 (.mv τ2) 13 false,oG 15 (.bin .gtr τ14 (.const (.int .i64 8))) 13 false,oD 16 (.pick τ13 (.const (.bool true)) τ15),oM 17 τ16,oG 18 (.mv τ1) 17 false,oG 19 (.bin .lss τ18 (.const (.int .i64 0))) 17 false,oD 20 (.pick τ17 (.const (.bool true)) τ19),oM 21 τ20,oG 22 (.mv τ0) 21 false,oG 23 (.lenS τ22) 21 false,oG 24 (.mv τ2) 21 false,oG 25 (.bin .sub τ23 τ24) 21 false,oG 26 (.mv τ1) 21 false,oG 27 (.bin .lss τ25 τ26) 21 false,oD 28 (.pick τ21 (.const (.bool true)) τ27)]
def k22_2 : VC := .reg [oD 6 (.mv (.const (.int .u64 0))),oD 7 (.mv (.const (.bool false)))]
def k22_3 : VC := .seq k22_2 .ret
def k22_4 : VC := .cond τ28 k22_3 .skip
def k22_5 : VC := .seq k22_1 k22_4
def k22_6 : VC := .reg [oD 8 (.mv (.const (.int .u64 0)))]
def k22_7 : VC := .reg [oM 29 τ0,oM 30 τ1,oM 31 τ1,oM 32 τ2,oD 33 (.bin .add τ31 τ32),oD 34 (.sliceS τ29 (some τ30) (some τ33)),oD 35 (.s2b τ34),oD 36 (.lenL τ35),oD 37 (.mv (.const (.int .i64 0)))]
def k22_8 : VC := .reg [oD 38 (.bin .lss τ37 τ36)]
def k22_9 : VC := .cond τ38 .skip (.exit 0)
def k22_10 : VC := .reg [oD 39 (.idxAL 1 τ35 τ37),oD 40 (.load1 (.int .u8) τ39),oM 10 τ40]
def k22_11 : VC := .reg [oM 41 τ8,oD 42 (.bin .shl τ41 (.const (.int .u64 8))),oM 43 τ10,oD 44 (.conv .u64 τ43),oD 45 (.bin .or τ42 τ44),oM 8 τ45]
def k22_12 : VC := .seq k22_10 k22_11
def k22_13 : VC := .block 1 k22_12
def k22_14 : VC := .reg [oD 46 (.bin .add τ37 (.const (.int .i64 1))),oM 37 τ46]
def k22_15 : VC := .seq k22_13 k22_14
def k22_16 : VC := .seq k22_9 k22_15
def k22_17 : VC := .seq k22_8 k22_16
def k22_18 : VC := .loop k22_17
def k22_19 : VC := .block 0 k22_18
def k22_20 : VC := .seq k22_7 k22_19
def k22_21 : VC := .reg [oM 47 τ8,oM 6 τ47,oD 7 (.mv (.const (.bool true)))]
def k22_22 : VC := .seq k22_21 .ret
def k22_23 : VC := .seq k22_20 k22_22
def k22_24 : VC := .seq k22_6 k22_23
def k22_25 : VC := .seq k22_5 k22_24
def k22_26 : VC := .seq k22_0 k22_25
def fn22 : VFn := ⟨48, k22_26, [.tmp 6, .tmp 7]⟩
def k23_0 : VC := .reg [oD 6 (.mv (.const (.int .u64 0))),oD 7 (.mv (.const (.bool false)))]
def k23_1 : VC := .reg [oM 10 τ2,oD 11 (.bin .lss τ10 (.const (.int .i64 1))),oM 12 τ11,oG 13 (.mv τ2) 12 false,oG 14 (.bin .gtr τ13 (.const (.int .i64 8))) 12 false,oD 15 (.pick τ12 (.const (.bool true)) τ14),oM 16 τ15,oG 17 (.mv τ1) 16 false,oG 18 (.bin .lss τ17 (.const (.int .i64 0))) 16 false,oD 19 (.pick τ16 (.const (.bool true)) τ18),oM 20 τ19,oG 21 (.mv τ1) 20 false,oG 22 (.mv τ0) 20 false,oG 23 (.lenS τ22) 20 false,oG 24 (.bin .gtr τ21 τ23) 20 false,oD 25 (.pick τ20 (.const (.bool true)) τ24),oM 26 τ25,oG 27 (.mv τ2) 26 false,oG 28 (.mv τ0) 26 false,oG 29 (.lenS τ28) 26 false,oG 30 (.mv τ1) 26 false,oG 31 (.bin .sub τ29 τ30) 26 false,oG 32 (.bin .gtr τ27 τ31) 26 false,oD 33 (.pick τ26 (.const (.bool true)) τ32)]
def k23_2 : VC := .reg [oD 6 (.mv (.const (.int .u64 0))),oD 7 (.mv (.const (.bool false)))]
def k23_3 : VC := .seq k23_2 .ret
def k23_4 : VC := .cond τ33 k23_3 .skip
def k23_5 : VC := .seq k23_1 k23_4
def k23_6 : VC := .reg [oD 8 (.mv (.const (.int .u64 0)))]
def k23_7 : VC := .reg [oD 9 (.mv (.const (.int .i64 0)))]
def k23_8 : VC := .reg [oM 34 τ9,oM 35 τ2,oD 36 (.bin .lss τ34 τ35)]
def k23_9 : VC := .cond τ36 .skip (.exit 0)
def k23_10 : VC := .seq k23_8 k23_9
def k23_11 : VC := .reg [oM 39 τ8,oD 40 (.bin .mul τ39 (.const (.int .u64 256))),oM 41 τ0,oM 42 τ1,oM 43 τ9,oD 44 (.bin .add τ42 τ43),oD 45 (.idxS τ41 τ44),oD 46 (.conv .u64 τ45),oD 47 (.bin .add τ40 τ46),oM 8 τ47]
def k23_12 : VC := .block 1 k23_11
def k23_13 : VC := .reg [oM 37 τ9,oD 38 (.bin .add τ37 (.const (.int .i64 1))),oM 9 τ38]
def k23_14 : VC := .seq k23_12 k23_13
def k23_15 : VC := .seq k23_10 k23_14
def k23_16 : VC := .loop k23_15
def k23_17 : VC := .block 0 k23_16
def k23_18 : VC := .seq k23_7 k23_17
def k23_19 : VC := .reg [oM 48 τ8,oM 6 τ48,oD 7 (.mv (.const (.bool true)))]
def k23_20 : VC := .seq k23_19 .ret
def k23_21 : VC := .seq k23_18 k23_20
def k23_22 : VC := .seq k23_6 k23_21
def k23_23 : VC := .seq k23_5 k23_22
def k23_24 : VC := .seq k23_0 k23_23
def fn23 : VFn := ⟨49, k23_24, [.tmp 6, .tmp 7]⟩
def k25_0 : VC := .reg [oD 2 (.mv (.const (.string ⟨⟨[]⟩⟩))),oD 3 (.mv (.const (.bool false)))]
def k25_1 : VC := .reg [oD 4 (.mv (.const (.slice none 0 0)))]
def k25_2 : VC := .reg [oD 5 (.mv (.const (.int .i64 0)))]
def k25_3 : VC := .reg [oM 8 τ5,oD 9 (.bin .add τ8 (.const (.int .i64 1))),oM 10 τ0,oD 11 (.lenS τ10),oD 12 (.bin .lss τ9 τ11)]
def k25_4 : VC := .cond τ12 .skip (.exit 0)
def k25_5 : VC := .seq k25_3 k25_4
def k25_6 : VC := .regD [oM 15 τ0,oM 16 τ5,oD 17 (.idxS τ15 τ16),oD 18 (.callF 49 [τ17]),oM 19 τ0,oM 20 τ5,oD 21 (.bin .add τ20 (.const (.int .i64 1))),oD 22 (.idxS τ19 τ21)] [] [oD 23 (.callF 49 [τ22]),oM 6 τ18,oM 7 τ23]
def k25_7 : VC := .reg [oM 24 τ6,oD 25 (.bin .lss τ24 (.const (.int .i64 0))),oM 26 τ25,oG 27 (.mv τ7) 26 false,oG 28 (.bin .lss τ27 (.const (.int .i64 0))) 26 false,oD 29 (.pick τ26 (.const (.bool true)) τ28)]
def k25_8 : VC := .reg [oD 2 (.mv (.const (.string ⟨⟨[]⟩⟩))),oD 3 (.mv (.const (.bool false)))]
def k25_9 : VC := .seq k25_8 .ret
def k25_10 : VC := .cond τ29 k25_9 .skip
def k25_11 : VC := .seq k25_7 k25_10
def k25_12 : VC := .reg [oM 30 τ4,oM 31 τ6,oD 32 (.bin .mul (.const (.int .i64 16)) τ31),oM 33 τ7,oD 34 (.bin .add τ32 τ33),oD 35 (.conv .u8 τ34),oD 36 (.buildSl 1 1 [(.int .u8 0)] [(0, 1, τ35)]),oD 37 (.app 5 1 1 τ30 τ36),oM 4 τ37]
def k25_13 : VC := .seq k25_11 k25_12
def k25_14 : VC := .seq k25_6 k25_13
def k25_15 : VC := .block 1 k25_14
def k25_16 : VC := .reg [oM 13 τ5,oD 14 (.bin .add τ13 (.const (.int .i64 2))),oM 5 τ14]
def k25_17 : VC := .seq k25_15 k25_16
def k25_18 : VC := .seq k25_5 k25_17
def k25_19 : VC := .loop k25_18
def k25_20 : VC := .block 0 k25_19
def k25_21 : VC := .seq k25_2 k25_20
def k25_22 : VC := .reg [oM 38 τ0,oD 39 (.lenS τ38),oD 40 (.bin .rem τ39 (.const (.int .i64 2))),oD 41 (.bin .eql τ40 (.const (.int .i64 1)))]
def k25_23 : VC := .reg [oD 2 (.mv (.const (.string ⟨⟨[]⟩⟩))),oD 3 (.mv (.const (.bool false)))]
def k25_24 : VC := .seq k25_23 .ret
def k25_25 : VC := .cond τ41 k25_24 .skip
def k25_26 : VC := .seq k25_22 k25_25
def k25_27 : VC := .reg [oM 42 τ4,oD 43 (.b2s τ42),oM 2 τ43,oD 3 (.mv (.const (.bool true)))]
def k25_28 : VC := .seq k25_27 .ret
def k25_29 : VC := .seq k25_26 k25_28
def k25_30 : VC := .seq k25_21 k25_29
def k25_31 : VC := .seq k25_1 k25_30
def k25_32 : VC := .seq k25_0 k25_31
def fn25 : VFn := ⟨44, k25_32, [.tmp 2, .tmp 3]⟩
def k49_0 : VC := .reg [oD 2 (.mv (.const (.int .i64 0)))]
def k49_1 : VC := .reg [oD 3 (.mv (.const (.int .i64 0)))]
def k49_2 : VC := .reg [oM 4 τ3,oD 5 (.bin .lss τ4 (.const (.int .i64 16)))]
def k49_3 : VC := .cond τ5 .skip (.exit 0)
def k49_4 : VC := .seq k49_2 k49_3
def k49_5 : VC := .reg [oM 8 τ3,oD 9 (.callF 52 [τ8]),oM 10 τ0,oD 11 (.bin .eql τ9 τ10)]
def k49_6 : VC := .reg [oM 12 τ3,oM 2 τ12]
def k49_7 : VC := .seq k49_6 .ret
def k49_8 : VC := .cond τ11 k49_7 .skip
def k49_9 : VC := .seq k49_5 k49_8
def k49_10 : VC := .block 1 k49_9
def k49_11 : VC := .reg [oM 6 τ3,oD 7 (.bin .add τ6 (.const (.int .i64 1))),oM 3 τ7]
def k49_12 : VC := .seq k49_10 k49_11
def k49_13 : VC := .seq k49_4 k49_12
def k49_14 : VC := .loop k49_13
def k49_15 : VC := .block 0 k49_14
def k49_16 : VC := .seq k49_1 k49_15
def k49_17 : VC := .reg [oD 2 (.mv (.const (.int .i64 (-1))))]
def k49_18 : VC := .seq k49_17 .ret
def k49_19 : VC := .seq k49_16 k49_18
def k49_20 : VC := .seq k49_0 k49_19
def fn49 : VFn := ⟨13, k49_20, [.tmp 2]⟩
def k52_0 : VC := .reg [oD 2 (.mv (.const (.int .u8 0)))]
def k52_1 : VC := .reg [oM 3 τ0,oD 4 (.bin .lss τ3 (.const (.int .i64 10)))]
def k52_2 : VC := .reg [oM 5 τ0,oD 6 (.bin .add (.const (.int .i64 48)) τ5),oD 7 (.conv .u8 τ6),oM 2 τ7]
def k52_3 : VC := .seq k52_2 .ret
def k52_4 : VC := .cond τ4 k52_3 .skip
def k52_5 : VC := .seq k52_1 k52_4
def k52_6 : VC := .reg [oM 8 τ0,oD 9 (.bin .add (.const (.int .i64 97)) τ8),oD 10 (.bin .sub τ9 (.const (.int .i64 10))),oD 11 (.conv .u8 τ10),oM 2 τ11]
def k52_7 : VC := .seq k52_6 .ret
def k52_8 : VC := .seq k52_5 k52_7
def k52_9 : VC := .seq k52_0 k52_8
def fn52 : VFn := ⟨12, k52_9, [.tmp 2]⟩
def k27_0 : VC := .reg [oD 4 (.mv (.const (.string ⟨⟨[]⟩⟩)))]
def k27_1 : VC := .reg [oD 5 (.mv (.const (.string ⟨⟨[]⟩⟩)))]
def k27_2 : VC := .reg [oD 6 (.mv (.const (.int .i64 0)))]
def k27_3 : VC := .reg [oM 7 τ6,oM 8 τ1,oD 9 (.bin .lss τ7 τ8),oM 10 τ9,oG 11 (.mv τ1) 10 true,oG 12 (.bin .leq τ11 (.const (.int .i64 8))) 10 true,oD 13 (.pick τ10 τ12 (.const (.bool false)))]
def k27_4 : VC := .cond τ13 .skip (.exit 0)
def k27_5 : VC := .seq k27_3 k27_4
def k27_6 : VC := .reg [oM 16 τ0,oD 17 (.bin .rem τ16 (.const (.int .u64 256))),oD 18 (.conv .u8 τ17),oD 19 (.buildSl 1 1 [(.int .u8 0)] [(0, 1, τ18)]),oD 20 (.b2s τ19),oM 21 τ5,oD 22 (.bin .add τ20 τ21),oM 5 τ22]
def k27_7 : VC := .reg [oM 23 τ0,oD 24 (.bin .quo τ23 (.const (.int .u64 256))),oM 0 τ24]
def k27_8 : VC := .seq k27_6 k27_7
def k27_9 : VC := .block 1 k27_8
def k27_10 : VC := .reg [oM 14 τ6,oD 15 (.bin .add τ14 (.const (.int .i64 1))),oM 6 τ15]
def k27_11 : VC := .seq k27_9 k27_10
def k27_12 : VC := .seq k27_5 k27_11
def k27_13 : VC := .loop k27_12
def k27_14 : VC := .block 0 k27_13
def k27_15 : VC := .seq k27_2 k27_14
def k27_16 : VC := .reg [oM 25 τ5,oM 4 τ25]
def k27_17 : VC := .seq k27_16 .ret
def k27_18 : VC := .seq k27_15 k27_17
def k27_19 : VC := .seq k27_1 k27_18
def k27_20 : VC := .seq k27_0 k27_19
def fn27 : VFn := ⟨26, k27_20, [.tmp 4]⟩
def k29_0 : VC := .reg [oD 2 (.mv (.const (.string ⟨⟨[]⟩⟩)))]
def k29_1 : VC := .reg [oD 3 (.mv (.const (.slice none 0 0)))]
def k29_2 : VC := .reg [oD 4 (.mv (.const (.int .i64 0)))]
def k29_3 : VC := .reg [oM 5 τ4,oM 6 τ0,oD 7 (.lenS τ6),oD 8 (.bin .lss τ5 τ7)]
def k29_4 : VC := .cond τ8 .skip (.exit 0)
def k29_5 : VC := .seq k29_3 k29_4
def k29_6 : VC := .regD [oM 11 τ3,oM 12 τ0,oM 13 τ4,oD 14 (.idxS τ12 τ13),oD 15 (.conv .i64 τ14),oD 16 (.bin .quo τ15 (.const (.int .i64 16))),oD 17 (.callF 52 [τ16]),oM 18 τ0,oM 19 τ4,oD 20 (.idxS τ18 τ19),oD 21 (.conv .i64 τ20),oD 22 (.bin .rem τ21 (.const (.int .i64 16))),oD 23 (.callF 52 [τ22]),oD 24 (.buildSl 2 1 [(.int .u8 0), (.int .u8 0)] [(0, 1, τ17), (1, 1, τ23)])] [] [oD 25 (.app 5 1 1 τ11 τ24),oM 3 τ25]
def k29_7 : VC := .block 1 k29_6
def k29_8 : VC := .reg [oM 9 τ4,oD 10 (.bin .add τ9 (.const (.int .i64 1))),oM 4 τ10]
def k29_9 : VC := .seq k29_7 k29_8
def k29_10 : VC := .seq k29_5 k29_9
def k29_11 : VC := .loop k29_10
def k29_12 : VC := .block 0 k29_11
def k29_13 : VC := .seq k29_2 k29_12
def k29_14 : VC := .reg [oM 26 τ3,oD 27 (.b2s τ26),oM 2 τ27]
def k29_15 : VC := .seq k29_14 .ret
def k29_16 : VC := .seq k29_13 k29_15
def k29_17 : VC := .seq k29_1 k29_16
def k29_18 : VC := .seq k29_0 k29_17
def fn29 : VFn := ⟨28, k29_18, [.tmp 2]⟩
def k6_0 : VC := .reg [oD 6 (.mv (.const (.bool false)))]
def k6_1 : VC := .reg [oM 13 τ1,oD 14 (.conv .i64 τ13),oD 15 (.bin .rem τ14 (.const (.int .i64 8))),oD 16 (.bin .add (.const (.int .i64 1)) τ15),oM 7 τ16]
def k6_2 : VC := .reg [oM 17 τ2,oD 18 (.lenS τ17),oD 19 (.bin .gtr τ18 (.const (.int .i64 60)))]
def k6_3 : VC := .reg [oD 20 (.callF 21 []),oM 6 τ20]
def k6_4 : VC := .seq k6_3 .ret
def k6_5 : VC := .cond τ19 k6_4 .skip
def k6_6 : VC := .seq k6_2 k6_5
def k6_7 : VC := .reg [oM 21 τ0,oM 22 τ7,oD 23 (.callF 26 [τ21, τ22]),oM 8 τ23]
def k6_8 : VC := .reg [oM 25 τ8,oM 26 τ2,oD 27 (.bin .add τ25 τ26),oM 28 τ7,oD 29 (.callF 22 [τ27, (.const (.int .i64 0)), τ28]),oM 24 τ29,oE 30 0 τ24,oE 31 1 τ24,oM 9 τ30,oM 10 τ31]
def k6_9 : VC := .reg [oM 33 τ2,oD 34 (.callF 28 [τ33]),oD 35 (.callF 24 [τ34]),oM 32 τ35,oE 36 0 τ32,oE 37 1 τ32,oM 11 τ36,oM 12 τ37]
def k6_10 : VC := .regD [oM 38 τ8,oD 39 (.lenS τ38),oM 40 τ7,oD 41 (.bin .eql τ39 τ40),oM 42 τ41,oG 43 (.mv τ10) 42 true,oD 44 (.pick τ42 τ43 (.const (.bool false))),oM 45 τ44,oG 46 (.mv τ9) 45 true,oG 47 (.mv τ0) 45 true,oG 48 (.mv τ7) 45 true,oG 49 (.bin .mul (.const (.int .i64 8)) τ48) 45 true,oG 50 (.bin .sub τ49 (.const (.int .i64 1))) 45 true,oG 51 (.bin .shl (.const (.int .u64 1)) τ50) 45 true,oG 52 (.bin .sub τ51 (.const (.int .u64 1))) 45 true,oG 53 (.mv τ7) 45 true,oG 54 (.bin .mul (.const (.int .i64 8)) τ53) 45 true,oG 55 (.bin .sub τ54 (.const (.int .i64 1))) 45 true,oG 56 (.bin .shl (.const (.int .u64 1)) τ55) 45 true,oG 57 (.bin .add τ52 τ56) 45 true,oG 58 (.bin .and τ47 τ57) 45 true,oG 59 (.bin .eql τ46 τ58) 45 true,oD 60 (.pick τ45 τ59 (.const (.bool false))),oM 61 τ60,oG 62 (.mv τ12) 61 true,oD 63 (.pick τ61 τ62 (.const (.bool false))),oM 64 τ63,oG 65 (.mv τ11) 64 true,oG 66 (.mv τ2) 64 true,oG 67 (.bin .eql τ65 τ66) 64 true,oD 68 (.pick τ64 τ67 (.const (.bool false))),oM 69 τ68,oG 70 (.mv τ2) 69 true,oG 71 (.callF 28 [τ70]) 69 true,oG 72 (.lenS τ71) 69 true,oG 73 (.mv τ2) 69 true,oG 74 (.lenS τ73) 69 true,oG 75 (.bin .mul (.const (.int .i64 2)) τ74) 69 true] [] [oG 76 (.bin .eql τ72 τ75) 69 true,oD 77 (.pick τ69 τ76 (.const (.bool false))),oM 78 τ77,oG 79 (.callF 21 []) 78 true,oD 80 (.pick τ78 τ79 (.const (.bool false))),oM 6 τ80]
def k6_11 : VC := .seq k6_10 .ret
def k6_12 : VC := .seq k6_9 k6_11
def k6_13 : VC := .seq k6_8 k6_12
def k6_14 : VC := .seq k6_7 k6_13
def k6_15 : VC := .seq k6_6 k6_14
def k6_16 : VC := .seq k6_1 k6_15
def k6_17 : VC := .seq k6_0 k6_16
def fn6 : VFn := ⟨81, k6_17, [.tmp 6]⟩
def k7_0 : VC := .reg [oD 4 (.mv (.const (.bool false)))]
def k7_1 : VC := .reg [oM 10 τ0,oD 11 (.lenS τ10),oD 12 (.bin .gtr τ11 (.const (.int .i64 60))),oM 13 τ12,oG 14 (.mv τ1) 13 false,oG 15 (.lenL τ14) 13 false,oG 16 (.bin .gtr τ15 (.const (.int .i64 20))) 13 false,oD 17 (.pick τ13 (.const (.bool true)) τ16)]
def k7_2 : VC := .reg [oD 18 (.callF 21 []),oM 4 τ18]
def k7_3 : VC := .seq k7_2 .ret
def k7_4 : VC := .cond τ17 k7_3 .skip
def k7_5 : VC := .seq k7_1 k7_4
def k7_6 : VC := .reg [oM 19 τ0,oD 20 (.callF 30 [τ19]),oM 21 τ0,oD 22 (.build [(.string ⟨⟨[]⟩⟩), (.bool false)] [(0, 1, τ21)]),oD 23 (.box τ22),oM 5 τ20,oM 6 τ23]
def k7_7 : VC := .reg [oD 7 (.mv (.const (.int .i64 0)))]
def k7_8 : VC := .reg [oM 24 τ7,oM 25 τ1,oD 26 (.lenL τ25),oD 27 (.bin .lss τ24 τ26)]
def k7_9 : VC := .cond τ27 .skip (.exit 0)
def k7_10 : VC := .seq k7_8 k7_9
def k7_11 : VC := .reg [oM 30 τ1,oM 31 τ7,oD 32 (.idxAL 2 τ30 τ31),oD 33 (.fieldA 0 τ32),oD 34 (.load1 (.int .i64) τ33)]
def k7_12 : VC := .reg [oD 41 (.bin .eql τ34 (.const (.int .i64 0))),oM 40 τ41]
def k7_13 : VC := .regD [oM 42 τ5,oM 43 τ1,oM 44 τ7,oD 45 (.idxAL 2 τ43 τ44),oD 46 (.fieldA 1 τ45),oD 47 (.load1 (.int .i64) τ46),oD 48 (.callF 31 [τ42, τ47]),oM 49 τ6,oM 50 τ1,oM 51 τ7,oD 52 (.idxAL 2 τ50 τ51),oD 53 (.fieldA 1 τ52),oD 54 (.load1 (.int .i64) τ53)] [(6, 12)] [oD 55 (.callF 32 [τ49, τ54]),oD 56 (.bin .neq τ48 τ55)]
def k7_14 : VC := .reg [oD 4 (.mv (.const (.bool false)))]
def k7_15 : VC := .seq k7_14 .ret
def k7_16 : VC := .cond τ56 k7_15 .skip
def k7_17 : VC := .seq k7_13 k7_16
def k7_18 : VC := .reg [oD 58 (.bin .eql τ34 (.const (.int .i64 1))),oM 57 τ58]
def k7_19 : VC := .regD [oM 59 τ5,oM 60 τ1,oM 61 τ7,oD 62 (.idxAL 2 τ60 τ61),oD 63 (.fieldA 1 τ62),oD 64 (.load1 (.int .i64) τ63),oD 65 (.callF 33 [τ59, τ64]),oM 66 τ6,oM 67 τ1,oM 68 τ7,oD 69 (.idxAL 2 τ67 τ68),oD 70 (.fieldA 1 τ69),oD 71 (.load1 (.int .i64) τ70)] [(6, 12)] [oD 72 (.callF 34 [τ66, τ71]),oD 73 (.bin .neq τ65 τ72)]
def k7_20 : VC := .reg [oD 4 (.mv (.const (.bool false)))]
def k7_21 : VC := .seq k7_20 .ret
def k7_22 : VC := .cond τ73 k7_21 .skip
def k7_23 : VC := .seq k7_19 k7_22
def k7_24 : VC := .reg [oM 35 τ5,oD 36 (.callF 35 [τ35]),oM 37 τ6,oD 38 (.callF 36 [τ37]),oD 39 (.bin .neq τ36 τ38)]
def k7_25 : VC := .reg [oD 4 (.mv (.const (.bool false)))]
def k7_26 : VC := .seq k7_25 .ret
def k7_27 : VC := .cond τ39 k7_26 .skip
def k7_28 : VC := .seq k7_24 k7_27
def k7_29 : VC := .cond τ57 k7_23 k7_28
def k7_30 : VC := .seq k7_18 k7_29
def k7_31 : VC := .cond τ40 k7_17 k7_30
def k7_32 : VC := .seq k7_12 k7_31
def k7_33 : VC := .block 2 k7_32
def k7_34 : VC := .seq k7_11 k7_33
def k7_35 : VC := .regD [oM 74 τ5,oD 75 (.callF 37 [τ74]),oM 76 τ6,oD 77 (.nilCheck τ76),oD 78 (.fieldA 1 τ77),oD 79 (.load1 .bool τ78)] [(1, 5)] [oD 80 (.eqB true τ75 τ79)]
def k7_36 : VC := .reg [oD 4 (.mv (.const (.bool false)))]
def k7_37 : VC := .seq k7_36 .ret
def k7_38 : VC := .cond τ80 k7_37 .skip
def k7_39 : VC := .seq k7_35 k7_38
def k7_40 : VC := .seq k7_34 k7_39
def k7_41 : VC := .block 1 k7_40
def k7_42 : VC := .reg [oM 28 τ7,oD 29 (.bin .add τ28 (.const (.int .i64 1))),oM 7 τ29]
def k7_43 : VC := .seq k7_41 k7_42
def k7_44 : VC := .seq k7_10 k7_43
def k7_45 : VC := .loop k7_44
def k7_46 : VC := .block 0 k7_45
def k7_47 : VC := .seq k7_7 k7_46
def k7_48 : VC := .reg [oD 8 (.mv (.const (.pointer none)))]
def k7_49 : VC := .reg [oD 81 (.build [(.string ⟨⟨[]⟩⟩), (.bool false), (.bool false)] []),oD 82 (.box τ81),oM 9 τ82]
def k7_50 : VC := .reg [oM 83 τ8,oD 84 (.callF 31 [τ83, (.const (.int .i64 1))]),oD 85 (.bin .eql τ84 (.const (.int .i64 0))),oM 86 τ85,oG 87 (.mv τ8) 86 true,oG 88 (.callF 33 [τ87, (.const (.int .i64 0))]) 86 true,oG 89 (.bin .eql τ88 (.const (.string ⟨⟨[]⟩⟩))) 86 true,oD 90 (.pick τ86 τ89 (.const (.bool false))),oM 91 τ90,oG 92 (.mv τ8) 91 true,oG 93 (.callF 35 [τ92]) 91 true,oG 94 (.bin .eql τ93 (.const (.string ⟨⟨[]⟩⟩))) 91 true,oD 95 (.pick τ91 τ94 (.const (.bool false))),oM 96 τ95,oG 97 (.mv τ8) 96 true,oG 98 (.callF 37 [τ97]) 96 true,oD 99 (.pick τ96 τ98 (.const (.bool false))),oM 100 τ99,oG 101 (.mv τ9) 100 true,oG 102 (.callF 33 [τ101, (.const (.int .i64 0))]) 100 true,oG 103 (.bin .eql τ102 (.const (.string ⟨⟨[]⟩⟩))) 100 true,oD 104 (.pick τ100 τ103 (.const (.bool false))),oM 105 τ104,oG 106 (.mv τ9) 105 true,oG 107 (.callF 37 [τ106]) 105 true,oD 108 (.pick τ105 τ107 (.const (.bool false))),oM 109 τ108,oG 110 (.callF 21 []) 109 true,oD 111 (.pick τ109 τ110 (.const (.bool false))),oM 4 τ111]
def k7_51 : VC := .seq k7_50 .ret
def k7_52 : VC := .seq k7_49 k7_51
def k7_53 : VC := .seq k7_48 k7_52
def k7_54 : VC := .seq k7_47 k7_53
def k7_55 : VC := .seq k7_6 k7_54
def k7_56 : VC := .seq k7_5 k7_55
def k7_57 : VC := .seq k7_0 k7_56
def fn7 : VFn := ⟨112, k7_57, [.tmp 4]⟩
def k32_0 : VC := .reg [oD 4 (.mv (.const (.int .i64 0)))]
def k32_1 : VC := .reg [oM 6 τ1,oD 7 (.bin .lss τ6 (.const (.int .i64 1))),oM 8 τ7,oG 9 (.mv τ1) 8 false,oG 10 (.bin .gtr τ9 (.const (.int .i64 7))) 8 false,oD 11 (.pick τ8 (.const (.bool true)) τ10)]
def k32_2 : VC := .reg [oM 12 τ0,oD 13 (.nilCheck τ12),oD 14 (.fieldA 1 τ13),oN (.store 1 τ14 (.const (.bool true)))]
def k32_3 : VC := .cond τ11 k32_2 .skip
def k32_4 : VC := .seq k32_1 k32_3
def k32_5 : VC := .reg [oM 15 τ0,oM 16 τ1,oD 17 (.callF 34 [τ15, τ16]),oM 5 τ17]
def k32_6 : VC := .reg [oM 18 τ0,oD 19 (.nilCheck τ18),oD 20 (.fieldA 1 τ19),oD 21 (.load1 .bool τ20)]
def k32_7 : VC := .reg [oD 4 (.mv (.const (.int .i64 0)))]
def k32_8 : VC := .seq k32_7 .ret
def k32_9 : VC := .cond τ21 k32_8 .skip
def k32_10 : VC := .seq k32_6 k32_9
def k32_11 : VC := .reg [oM 22 τ5,oM 23 τ1,oD 24 (.callF 53 [τ22, (.const (.int .i64 0)), τ23]),oM 4 τ24]
def k32_12 : VC := .seq k32_11 .ret
def k32_13 : VC := .seq k32_10 k32_12
def k32_14 : VC := .seq k32_5 k32_13
def k32_15 : VC := .seq k32_4 k32_14
def k32_16 : VC := .seq k32_0 k32_15
def fn32 : VFn := ⟨25, k32_16, [.tmp 4]⟩
def k34_0 : VC := .reg [oD 4 (.mv (.const (.string ⟨⟨[]⟩⟩)))]
def k34_1 : VC := .reg [oM 6 τ0,oD 7 (.nilCheck τ6),oD 8 (.fieldA 1 τ7),oD 9 (.load1 .bool τ8),oM 10 τ9,oG 11 (.mv τ1) 10 false,oG 12 (.bin .lss τ11 (.const (.int .i64 0))) 10 false,oD 13 (.pick τ10 (.const (.bool true)) τ12),oM 14 τ13,oG 15 (.mv τ1) 14 false,oG 16 (.mv τ0) 14 false,oG 17 (.nilCheck τ16) 14 false,oG 18 (.fieldA 0 τ17) 14 false,oG 19 (.load1 .str τ18) 14 false,oG 20 (.lenS τ19) 14 false,oG 21 (.bin .gtr τ15 τ20) 14 false,oD 22 (.pick τ14 (.const (.bool true)) τ21)]
def k34_2 : VC := .reg [oM 23 τ0,oD 24 (.nilCheck τ23),oD 25 (.fieldA 1 τ24),oN (.store 1 τ25 (.const (.bool true)))]
def k34_3 : VC := .reg [oD 4 (.mv (.const (.string ⟨⟨[]⟩⟩)))]
def k34_4 : VC := .seq k34_3 .ret
def k34_5 : VC := .seq k34_2 k34_4
def k34_6 : VC := .cond τ22 k34_5 .skip
def k34_7 : VC := .seq k34_1 k34_6
def k34_8 : VC := .reg [oM 26 τ0,oD 27 (.nilCheck τ26),oD 28 (.fieldA 0 τ27),oD 29 (.load1 .str τ28),oM 30 τ1,oD 31 (.sliceS τ29 none (some τ30)),oM 5 τ31]
def k34_9 : VC := .reg [oM 32 τ0,oM 33 τ0,oD 34 (.nilCheck τ33),oD 35 (.fieldA 0 τ34),oD 36 (.load1 .str τ35),oM 37 τ1,oD 38 (.sliceS τ36 (some τ37) none),oD 39 (.nilCheck τ32),oD 40 (.fieldA 0 τ39),oN (.store 1 τ40 τ38)]
def k34_10 : VC := .reg [oM 41 τ5,oM 4 τ41]
def k34_11 : VC := .seq k34_10 .ret
def k34_12 : VC := .seq k34_9 k34_11
def k34_13 : VC := .seq k34_8 k34_12
def k34_14 : VC := .seq k34_7 k34_13
def k34_15 : VC := .seq k34_0 k34_14
def fn34 : VFn := ⟨42, k34_15, [.tmp 4]⟩
def k53_0 : VC := .reg [oD 6 (.mv (.const (.int .i64 0)))]
def k53_1 : VC := .reg [oM 10 τ0,oM 11 τ1,oM 12 τ2,oD 13 (.callF 23 [τ10, τ11, τ12]),oM 9 τ13,oE 14 0 τ9,oE 15 1 τ9,oM 7 τ14,oM 8 τ15]
def k53_2 : VC := .reg [oM 16 τ7,oD 17 (.conv .i64 τ16),oM 6 τ17]
def k53_3 : VC := .seq k53_2 .ret
def k53_4 : VC := .seq k53_1 k53_3
def k53_5 : VC := .seq k53_0 k53_4
def fn53 : VFn := ⟨18, k53_5, [.tmp 6]⟩
def k35_0 : VC := .reg [oD 2 (.mv (.const (.string ⟨⟨[]⟩⟩)))]
def k35_1 : VC := .reg [oM 3 τ0,oD 4 (.callF 37 [τ3])]
def k35_2 : VC := .reg [oD 2 (.mv (.const (.string ⟨⟨[]⟩⟩)))]
def k35_3 : VC := .seq k35_2 .ret
def k35_4 : VC := .cond τ4 k35_3 .skip
def k35_5 : VC := .seq k35_1 k35_4
def k35_6 : VC := .reg [oM 5 τ0,oM 6 τ0,oD 7 (.nilCheck τ6),oD 8 (.fieldA 0 τ7),oD 9 (.load1 .str τ8),oD 10 (.lenS τ9),oD 11 (.callF 33 [τ5, τ10]),oM 2 τ11]
def k35_7 : VC := .seq k35_6 .ret
def k35_8 : VC := .seq k35_5 k35_7
def k35_9 : VC := .seq k35_0 k35_8
def fn35 : VFn := ⟨12, k35_9, [.tmp 2]⟩
def k36_0 : VC := .reg [oD 2 (.mv (.const (.string ⟨⟨[]⟩⟩)))]
def k36_1 : VC := .reg [oM 3 τ0,oD 4 (.nilCheck τ3),oD 5 (.fieldA 1 τ4),oD 6 (.load1 .bool τ5)]
def k36_2 : VC := .reg [oD 2 (.mv (.const (.string ⟨⟨[]⟩⟩)))]
def k36_3 : VC := .seq k36_2 .ret
def k36_4 : VC := .cond τ6 k36_3 .skip
def k36_5 : VC := .seq k36_1 k36_4
def k36_6 : VC := .reg [oM 7 τ0,oM 8 τ0,oD 9 (.nilCheck τ8),oD 10 (.fieldA 0 τ9),oD 11 (.load1 .str τ10),oD 12 (.lenS τ11),oD 13 (.callF 34 [τ7, τ12]),oM 2 τ13]
def k36_7 : VC := .seq k36_6 .ret
def k36_8 : VC := .seq k36_5 k36_7
def k36_9 : VC := .seq k36_0 k36_8
def fn36 : VFn := ⟨14, k36_9, [.tmp 2]⟩
theorem fn5_ok : (Try.prog.funcs[5]?).bind (compFn Try.prog) = some fn5 := by kernel_rfl
theorem fn21_ok : (Try.prog.funcs[21]?).bind (compFn Try.prog) = some fn21 := by kernel_rfl
theorem fn24_ok : (Try.prog.funcs[24]?).bind (compFn Try.prog) = some fn24 := by kernel_rfl
theorem fn48_ok : (Try.prog.funcs[48]?).bind (compFn Try.prog) = some fn48 := by kernel_rfl
theorem fn64_ok : (Try.prog.funcs[64]?).bind (compFn Try.prog) = some fn64 := by kernel_rfl
theorem fn74_ok : (Try.prog.funcs[74]?).bind (compFn Try.prog) = some fn74 := by kernel_rfl
theorem fn65_ok : (Try.prog.funcs[65]?).bind (compFn Try.prog) = some fn65 := by kernel_rfl
theorem fn66_ok : (Try.prog.funcs[66]?).bind (compFn Try.prog) = some fn66 := by kernel_rfl
theorem fn26_ok : (Try.prog.funcs[26]?).bind (compFn Try.prog) = some fn26 := by kernel_rfl
theorem fn28_ok : (Try.prog.funcs[28]?).bind (compFn Try.prog) = some fn28 := by kernel_rfl
theorem fn50_ok : (Try.prog.funcs[50]?).bind (compFn Try.prog) = some fn50 := by kernel_rfl
theorem fn68_ok : (Try.prog.funcs[68]?).bind (compFn Try.prog) = some fn68 := by kernel_rfl
theorem fn51_ok : (Try.prog.funcs[51]?).bind (compFn Try.prog) = some fn51 := by kernel_rfl
theorem fn30_ok : (Try.prog.funcs[30]?).bind (compFn Try.prog) = some fn30 := by kernel_rfl
theorem fn31_ok : (Try.prog.funcs[31]?).bind (compFn Try.prog) = some fn31 := by kernel_rfl
theorem fn33_ok : (Try.prog.funcs[33]?).bind (compFn Try.prog) = some fn33 := by kernel_rfl
theorem fn37_ok : (Try.prog.funcs[37]?).bind (compFn Try.prog) = some fn37 := by kernel_rfl
theorem fn22_ok : (Try.prog.funcs[22]?).bind (compFn Try.prog) = some fn22 := by kernel_rfl
theorem fn23_ok : (Try.prog.funcs[23]?).bind (compFn Try.prog) = some fn23 := by kernel_rfl
theorem fn25_ok : (Try.prog.funcs[25]?).bind (compFn Try.prog) = some fn25 := by kernel_rfl
theorem fn49_ok : (Try.prog.funcs[49]?).bind (compFn Try.prog) = some fn49 := by kernel_rfl
theorem fn52_ok : (Try.prog.funcs[52]?).bind (compFn Try.prog) = some fn52 := by kernel_rfl
theorem fn27_ok : (Try.prog.funcs[27]?).bind (compFn Try.prog) = some fn27 := by kernel_rfl
theorem fn29_ok : (Try.prog.funcs[29]?).bind (compFn Try.prog) = some fn29 := by kernel_rfl
theorem fn6_ok : (Try.prog.funcs[6]?).bind (compFn Try.prog) = some fn6 := by kernel_rfl
theorem fn7_ok : (Try.prog.funcs[7]?).bind (compFn Try.prog) = some fn7 := by kernel_rfl
theorem fn32_ok : (Try.prog.funcs[32]?).bind (compFn Try.prog) = some fn32 := by kernel_rfl
theorem fn34_ok : (Try.prog.funcs[34]?).bind (compFn Try.prog) = some fn34 := by kernel_rfl
theorem fn53_ok : (Try.prog.funcs[53]?).bind (compFn Try.prog) = some fn53 := by kernel_rfl
theorem fn35_ok : (Try.prog.funcs[35]?).bind (compFn Try.prog) = some fn35 := by kernel_rfl
theorem fn36_ok : (Try.prog.funcs[36]?).bind (compFn Try.prog) = some fn36 := by kernel_rfl
def tab : List (Nat × VFn) := [(5, fn5), (21, fn21), (24, fn24), (48, fn48), (64, fn64), (74, fn74), (65, fn65), (66, fn66), (26, fn26), (28, fn28), (50, fn50), (68, fn68), (51, fn51), (30, fn30), (31, fn31), (33, fn33), (37, fn37), (22, fn22), (23, fn23), (25, fn25), (49, fn49), (52, fn52), (27, fn27), (29, fn29), (6, fn6), (7, fn7), (32, fn32), (34, fn34), (53, fn53), (35, fn35), (36, fn36)]
theorem tab_ok : FnsOK Try.prog (aget tab) := FnsOK.of_tab ⟨fn5_ok, fn21_ok, fn24_ok, fn48_ok, fn64_ok, fn74_ok, fn65_ok, fn66_ok, fn26_ok, fn28_ok, fn50_ok, fn68_ok, fn51_ok, fn30_ok, fn31_ok, fn33_ok, fn37_ok, fn22_ok, fn23_ok, fn25_ok, fn49_ok, fn52_ok, fn27_ok, fn29_ok, fn6_ok, fn7_ok, fn32_ok, fn34_ok, fn53_ok, fn35_ok, fn36_ok, trivial⟩
end Go.Vm.Code
namespace Go.Vm.Code
open Go Go.Vm Go.Proofs
set_option maxRecDepth 100000
set_option maxHeartbeats 4000000
set_option linter.unusedVariables false
@[ext] structure octet_Reader where
  s : List UInt8
  made : Bool
  bad : Bool
  deriving DecidableEq
@[ext] structure R02_Step where
  Kind : Int
  N : Int
  deriving DecidableEq
@[ext] structure R02_Reader where
  S : List UInt8
  Bad : Bool
  deriving DecidableEq
def coctet_Reader (x : octet_Reader) : List Value := [.string ⟨⟨x.s⟩⟩, .bool x.made, .bool x.bad]
theorem coctet_Reader_len (x : octet_Reader) : (coctet_Reader x).length = 3 := rfl
theorem coctet_Reader_flat (x : octet_Reader) : flatV.flatL (coctet_Reader x) = true := rfl
theorem coctet_Reader_one (x : octet_Reader) : (coctet_Reader x).all oneC = true := rfl
@[simp] theorem coctet_Reader_lens (xs : List octet_Reader) : (vT coctet_Reader xs).length = xs.length * 3 := vT_len coctet_Reader_len xs
@[simp] theorem coctet_Reader_take (xs : List octet_Reader) (n : Nat) : (vT coctet_Reader xs).take (n * 3) = vT coctet_Reader (xs.take n) := vT_take coctet_Reader_len xs n
@[simp] theorem coctet_Reader_drop (xs : List octet_Reader) (n : Nat) : (vT coctet_Reader xs).drop (n * 3) = vT coctet_Reader (xs.drop n) := vT_drop coctet_Reader_len xs n
def unoctet_Reader : List Value → Option octet_Reader
  | [.string ⟨⟨a1⟩⟩, .bool a2, .bool a3] => some (octet_Reader.mk a1 a2 a3)
  | _ => none
theorem unoctet_Reader_eq (cs : List Value) (x : octet_Reader) (h : unoctet_Reader cs = some x) : cs = coctet_Reader x := by
  unfold unoctet_Reader at h; split at h
  · cases h; rfl
  · cases h
theorem unoctet_Reader_c (x : octet_Reader) : unoctet_Reader (coctet_Reader x) = some x := rfl
def cR02_Step (x : R02_Step) : List Value := [.int .i64 x.Kind, .int .i64 x.N]
theorem cR02_Step_len (x : R02_Step) : (cR02_Step x).length = 2 := rfl
theorem cR02_Step_flat (x : R02_Step) : flatV.flatL (cR02_Step x) = true := rfl
theorem cR02_Step_one (x : R02_Step) : (cR02_Step x).all oneC = true := rfl
@[simp] theorem cR02_Step_lens (xs : List R02_Step) : (vT cR02_Step xs).length = xs.length * 2 := vT_len cR02_Step_len xs
@[simp] theorem cR02_Step_take (xs : List R02_Step) (n : Nat) : (vT cR02_Step xs).take (n * 2) = vT cR02_Step (xs.take n) := vT_take cR02_Step_len xs n
@[simp] theorem cR02_Step_drop (xs : List R02_Step) (n : Nat) : (vT cR02_Step xs).drop (n * 2) = vT cR02_Step (xs.drop n) := vT_drop cR02_Step_len xs n
def cR02_Reader (x : R02_Reader) : List Value := [.string ⟨⟨x.S⟩⟩, .bool x.Bad]
theorem cR02_Reader_len (x : R02_Reader) : (cR02_Reader x).length = 2 := rfl
theorem cR02_Reader_flat (x : R02_Reader) : flatV.flatL (cR02_Reader x) = true := rfl
theorem cR02_Reader_one (x : R02_Reader) : (cR02_Reader x).all oneC = true := rfl
@[simp] theorem cR02_Reader_lens (xs : List R02_Reader) : (vT cR02_Reader xs).length = xs.length * 2 := vT_len cR02_Reader_len xs
@[simp] theorem cR02_Reader_take (xs : List R02_Reader) (n : Nat) : (vT cR02_Reader xs).take (n * 2) = vT cR02_Reader (xs.take n) := vT_take cR02_Reader_len xs n
@[simp] theorem cR02_Reader_drop (xs : List R02_Reader) (n : Nat) : (vT cR02_Reader xs).drop (n * 2) = vT cR02_Reader (xs.drop n) := vT_drop cR02_Reader_len xs n
theorem lrA0 {P : Program} {f base fn nt : Nat} {e e' : Env} {todo todo' : List VItem} {ds ds' : List Nat} {ret : Bool} {up up' : List VFrame} {H H' : Hp} {top top' : Nat} {R : Value → Hp → Nat → Prop}
    (h : Leads P f base ⟨⟨fn, nt, e', todo', ds', ret, none⟩, up', H', top'⟩ R) (m : List (Nat × Nat)) (hc : chkM base top' m = true) (he : reE (aget m) e e' := by repeat' first | exact trivial | refine ⟨⟨_, rfl, rfl⟩, ?_⟩ | refine ⟨⟨_, _, rfl, rfl, .rowF (vI_flat _ _) id⟩, ?_⟩ | refine ⟨⟨_, _, rfl, rfl, .rowF (vS_flat _) id⟩, ?_⟩ | refine ⟨⟨_, _, rfl, rfl, .rowF (vB_flat _) id⟩, ?_⟩ | refine ⟨⟨_, _, rfl, rfl, .rowF (vT_flat (by first | exact coctet_Reader_flat | exact cR02_Step_flat | exact cR02_Reader_flat) _) id⟩, ?_⟩ | refine ⟨⟨_, _, rfl, rfl, .tyF (vI_flat _ _)⟩, ?_⟩ | refine ⟨⟨_, _, rfl, rfl, .ty rfl⟩, ?_⟩ | refine ⟨⟨_, _, rfl, rfl, .cells rfl⟩, ?_⟩ | refine ⟨⟨_, _, rfl, rfl, .row rfl id⟩, ?_⟩ | refine ⟨⟨_, _, rfl, rfl, .cr rfl⟩, ?_⟩ | refine ⟨⟨_, _, rfl, rfl, .rc rfl⟩, ?_⟩ | refine ⟨⟨_, _, rfl, rfl, .marks⟩, ?_⟩ | refine ⟨⟨_, _, rfl, rfl, .siter _ _⟩, ?_⟩ | refine ⟨⟨_, _, rfl, rfl, .loop rfl rfl rfl rfl (by repeat' first | exact trivial | refine ⟨rfl, ?_⟩) rfl rfl rfl rfl⟩, ?_⟩) (hH : reH (aget m) H H' := by repeat' first | exact trivial | refine ⟨⟨_, rfl, rfl⟩, ?_⟩ | refine ⟨⟨_, _, rfl, rfl, .rowF (vI_flat _ _) id⟩, ?_⟩ | refine ⟨⟨_, _, rfl, rfl, .rowF (vS_flat _) id⟩, ?_⟩ | refine ⟨⟨_, _, rfl, rfl, .rowF (vB_flat _) id⟩, ?_⟩ | refine ⟨⟨_, _, rfl, rfl, .rowF (vT_flat (by first | exact coctet_Reader_flat | exact cR02_Step_flat | exact cR02_Reader_flat) _) id⟩, ?_⟩ | refine ⟨⟨_, _, rfl, rfl, .tyF (vI_flat _ _)⟩, ?_⟩ | refine ⟨⟨_, _, rfl, rfl, .ty rfl⟩, ?_⟩ | refine ⟨⟨_, _, rfl, rfl, .cells rfl⟩, ?_⟩ | refine ⟨⟨_, _, rfl, rfl, .row rfl id⟩, ?_⟩ | refine ⟨⟨_, _, rfl, rfl, .cr rfl⟩, ?_⟩ | refine ⟨⟨_, _, rfl, rfl, .rc rfl⟩, ?_⟩ | refine ⟨⟨_, _, rfl, rfl, .marks⟩, ?_⟩ | refine ⟨⟨_, _, rfl, rfl, .siter _ _⟩, ?_⟩ | refine ⟨⟨_, _, rfl, rfl, .loop rfl rfl rfl rfl (by repeat' first | exact trivial | refine ⟨rfl, ?_⟩) rfl rfl rfl rfl⟩, ?_⟩)
    (ht : renT (aget m) todo' = some todo := by rfl) (hd : renN (aget m) ds' = some ds := by rfl) (hu : reU (aget m) up up' := by trivial) :
    Leads P f base ⟨⟨fn, nt, e, todo, ds, ret, none⟩, up, H, top⟩ R := Leads.re h m hc he hH ht hd hu
def octet_Put_s1 (n : Int) (k : Int) (t17 : Int) (b : List Int) : Option (Sum (Int × (List Int)) (List UInt8)) :=
  cond (decide (t17 < (k.toNat : Int)))
    (
    let t := wI .i64 (8 * (wI .i64 ((wI .i64 (k - 1)) - t17)))
    oreq (decide (0 ≤ t)) <|
    oreq (decide ((0 : Int) ≤ t17 ∧ t17 < (k.toNat : Int))) <|
    oreq (decide (t17.toNat < b.length)) <|
    let row := b.set t17.toNat (wI .u8 (n.fdiv (2 ^ (min t.toNat 64))))
    some (.inl (wI .i64 (t17 + 1), row)))
    (
    oreq (decide (k.toNat ≤ b.length)) <|
    some (.inr (iB (b.take k.toNat))))
def octet_PutF (n : Int) (k : Int) : Option (List UInt8) :=
  cond (decide (k < 1))
    (
    some ([]))
    (
    cond (decide (k > 8))
      (
      some ([]))
      (
      oreq (decide (0 ≤ k ∧ k ≤ k ∧ k < 2 ^ 63 ∧ (1 : Int) * k ≤ 2 ^ 48)) <|
      iter (fun st => octet_Put_s1 n k st.1 st.2) FUEL (0, List.replicate k.toNat (0))))
def rx26 (x : List UInt8) : SRes := ⟨.string ⟨⟨x⟩⟩, [], []⟩
def r26 (g : Int → Int → Option (List UInt8)) : Dec := dV (asI .u64) fun (y0 : Int) => dV (asI .i64) fun (y1 : Int) => dEnd (ofG (g y0 y1) rx26)
theorem r26_c {g : Int → Int → Option (List UInt8)} {y0 : Int} {y1 : Int} {x : List UInt8} (hx : g y0 y1 = some x) : r26 g [.int .u64 y0, .int .i64 y1] [] = some (rx26 x) := (dV_eq (asI_c _)).trans ((dV_eq (asI_c _)).trans (ofG_eq hx))
def s26 (g : Int → Int → Option (List UInt8)) : Summ := ⟨[.v, .v], r26 g⟩
theorem r26_eq {g : Int → Int → Option (List UInt8)} {y0 : Int} {y1 : Int} {x : List UInt8} (hx : g y0 y1 = some x) : (s26 g).run [.int .u64 y0, .int .i64 y1] [] = some (rx26 x) := r26_c hx
abbrev sums26 : List (Nat × Summ) := []
def head26_1 (n : Int) (k : Int) (t17 : Int) (b : List Int) : VM :=
  ⟨⟨26, 34, [(0, .int .u64 n), (1, .int .i64 k), (5, .slice (some ⟨0, 0, none⟩) k.toNat 1), (16, .int .i64 (k.toNat : Int)), (17, .int .i64 t17)], [.code k26_17, .inLoop k26_17, .inBlock 0, .code k26_22], [], false, none⟩, [], [(0, .row true (vI .u8 b))], 1⟩
theorem loop26_1 (hS : SumsOK Try.prog (aget (sums26))) (n : Int) (k : Int) (res : List UInt8) : ∀ fuel (st : Int × (List Int)) (o : List UInt8), iter (fun st => octet_Put_s1 n k st.1 st.2) fuel st = some o → (o = res) →
    Leads Try.prog 26 0 (head26_1 n k st.1 st.2) (fun v H _ => Res 0 (rx26 res) v H) := by
  intro fuel st o h hc
  refine iter_leads (head := fun st => head26_1 n k st.1 st.2) (C := fun o => (o = res)) ?_ fuel st o h hc
  clear h hc o st fuel
  intro st o h hc
  obtain ⟨t17, b⟩ := st
  replace h : octet_Put_s1 n k t17 b = some o := h
  show Leads Try.prog 26 0 (head26_1 n k t17 b) (fun v H _ => Res 0 (rx26 res) v H)
  unfold octet_Put_s1 at h
  refine ev_ok tab_ok hS true 3000 ?_
  conv => whnf
  refine br.h2 h ?_ ?_ ?_
  · rfl
  · clear h; intro hb h; conv => whnf
    replace h := oreq.elim h; obtain ⟨hb, h⟩ := h
    refine req.intro (by (first | rfl | (simp [wI, vI, vB, vS, bI, oneC, addrBlk, cellsL, Value.cells] at *; omega) | (simp [vI, vB, vS, bI, oneC, addrBlk, cellsL, Value.cells] at *; omega) | (simp [vI, vB, vS, bI, oneC, addrBlk, cellsL, Value.cells] at *; done))) ?_
    conv => whnf
    refine pk_b2s ?_
    conv => whnf
    all_goals (cases h; cases hc; exact Res.z rfl rfl rfl)
  clear h; intro hb h; conv => whnf
  let t : Int := wI .i64 (8 * (wI .i64 ((wI .i64 (k - 1)) - t17)))
  replace h := oreq.elim h; obtain ⟨hb, h⟩ := h
  first | (refine req.intro hb ?_; conv => whnf) | skip
  replace h := oreq.elim h; obtain ⟨hb, h⟩ := h
  first | (refine req.intro hb ?_; conv => whnf) | skip
  replace h := oreq.elim h; obtain ⟨hb, h⟩ := h
  refine st_I hb (by first | rfl | (rw [Nat.zero_add, Nat.mul_one]; try rfl; done) | omega) ?_
  conv => whnf
  let row : List Int := b.set t17.toNat (wI .u8 (n.fdiv (2 ^ (min t.toNat 64))))
  cases h; simp only [Sum.elim_inl, head26_1] at hc
  exact lrA0 hc [(0, 0)] rfl
theorem leads26 (hS : SumsOK Try.prog (aget (sums26))) (n : Int) (k : Int) (res : List UInt8) (h : octet_PutF n k = some res) :
    Leads Try.prog 26 0 ⟨⟨26, 34, [(0, .int .u64 n), (1, .int .i64 k)], [.code k26_26], [], false, none⟩, [], [], 0⟩ (fun v H _ => Res 0 (rx26 res) v H) := by
  unfold octet_PutF at h
  refine ev_ok tab_ok hS true 3000 ?_
  conv => whnf
  refine br.h h ?_ ?_ ?_
  · rfl
  · clear h; intro hb h; conv => whnf
    all_goals (cases h; exact Res.z rfl rfl rfl)
  clear h; intro hb h; conv => whnf
  refine br.h h ?_ ?_ ?_
  · rfl
  · clear h; intro hb h; conv => whnf
    all_goals (cases h; exact Res.z rfl rfl rfl)
  clear h; intro hb h; conv => whnf
  replace h := oreq.elim h; obtain ⟨hb, h⟩ := h
  first | (refine req.intro hb ?_; conv => whnf) | skip
  refine pk_mkI ?_
  conv => whnf
  have hl := loop26_1 hS _ _ res _ _ _ h rfl; simp only [head26_1] at hl
  exact lrA0 hl [(0, 0)] rfl
theorem ok26 (hS : SumsOK Try.prog (aget (sums26))) : SumOK Try.prog 26 (s26 (octet_PutF)) := by
  refine SumOK.of_leads tab_ok (fun ar os r ha hr => ?_) ⟨Try.f26, rfl, by decide, rfl⟩
  replace hr : r26 (octet_PutF) ar (conts os) = some r := hr
  unfold r26 at hr
  generalize hc : conts os = C at hr
  replace hr := dV.elim hr; obtain ⟨v0, l1, y0, rfl, e0, hr⟩ := hr; obtain rfl := asI_eq _ _ _ e0
  replace hr := dV.elim hr; obtain ⟨v1, l2, y1, rfl, e1, hr⟩ := hr; obtain rfl := asI_eq _ _ _ e1
  replace hr := dFin hr; obtain ⟨rfl, rfl, x, h, rfl⟩ := hr
  obtain rfl := kinds_nil hc
  exact ⟨_, rfl, leads26 hS _ _ x h⟩
def octet_Put : Int → Int → Option (List UInt8) := octet_PutF
theorem lift26 : SumOK Try.prog 26 (s26 octet_Put) := ok26 (SumsOK.of_tab trivial)
def octet_Get_s1 (t1 : List UInt8) (n : Int) (t37 : Int) : Option (Sum (Int × Int) (Int × Bool)) :=
  cond (decide (t37 < (t1.length : Int)))
    (
    oreq (decide ((0 : Int) ≤ t37 ∧ t37 < (t1.length : Int))) <|
    ((bI t1)[t37.toNat]?).bind fun (e : Int) =>
    let t2 := iorI .u64 (wI .u64 (n * 2 ^ 8)) (wI .u64 e)
    some (.inl (t2, wI .i64 (t37 + 1))))
    (
    some (.inr ((n, true))))
def octet_GetF (s : List UInt8) (ata1 : Int) (k : Int) : Option (Int × Bool) :=
  cond (decide (k < 1))
    (
    some ((0, false)))
    (
    cond (decide (k > 8))
      (
      some ((0, false)))
      (
      cond (decide (ata1 < 0))
        (
        some ((0, false)))
        (
        let t := decide ((wI .i64 ((s.length : Int) - k)) < ata1)
        cond (t)
          (
          some ((0, false)))
          (
          oreq (decide ((0 : Int) ≤ (wI .i64 (ata1 + k)) ∧ (wI .i64 (ata1 + k)) ≤ (s.length : Int) ∧ (0 : Int) ≤ ata1 ∧ ata1 ≤ ((wI .i64 (ata1 + k)).toNat : Int))) <|
          let t1 := (s.drop ata1.toNat).take ((wI .i64 (ata1 + k)).toNat - ata1.toNat)
          iter (fun st => octet_Get_s1 t1 st.1 st.2) FUEL (0, 0)))))
def rx22 (x : Int × Bool) : SRes := ⟨.tuple ⟨[.int .u64 x.1, .bool x.2]⟩, [], []⟩
def r22 (g : (List UInt8) → Int → Int → Option (Int × Bool)) : Dec := dV asS fun (y0 : List UInt8) => dV (asI .i64) fun (y1 : Int) => dV (asI .i64) fun (y2 : Int) => dEnd (ofG (g y0 y1 y2) rx22)
theorem r22_c {g : (List UInt8) → Int → Int → Option (Int × Bool)} {y0 : List UInt8} {y1 : Int} {y2 : Int} {x : Int × Bool} (hx : g y0 y1 y2 = some x) : r22 g [.string ⟨⟨y0⟩⟩, .int .i64 y1, .int .i64 y2] [] = some (rx22 x) := (dV_eq (asS_c)).trans ((dV_eq (asI_c _)).trans ((dV_eq (asI_c _)).trans (ofG_eq hx)))
def s22 (g : (List UInt8) → Int → Int → Option (Int × Bool)) : Summ := ⟨[.v, .v, .v], r22 g⟩
theorem r22_eq {g : (List UInt8) → Int → Int → Option (Int × Bool)} {y0 : List UInt8} {y1 : Int} {y2 : Int} {x : Int × Bool} (hx : g y0 y1 y2 = some x) : (s22 g).run [.string ⟨⟨y0⟩⟩, .int .i64 y1, .int .i64 y2] [] = some (rx22 x) := r22_c hx
abbrev sums22 : List (Nat × Summ) := []
def head22_1 (t1 : List UInt8) (n : Int) (t37 : Int) : VM :=
  ⟨⟨22, 48, [(8, .int .u64 n), (35, .slice (some ⟨0, 0, none⟩) t1.length 1), (36, .int .i64 (t1.length : Int)), (37, .int .i64 t37)], [.code k22_17, .inLoop k22_17, .inBlock 0, .code k22_22], [], false, none⟩, [], [(0, .row true (vI .u8 (bI t1)))], 1⟩
theorem loop22_1 (hS : SumsOK Try.prog (aget (sums22))) (t1 : List UInt8) (res : Int × Bool) : ∀ fuel (st : Int × Int) (o : Int × Bool), iter (fun st => octet_Get_s1 t1 st.1 st.2) fuel st = some o → (o = res) →
    Leads Try.prog 22 0 (head22_1 t1 st.1 st.2) (fun v H _ => Res 0 (rx22 res) v H) := by
  intro fuel st o h hc
  refine iter_leads (head := fun st => head22_1 t1 st.1 st.2) (C := fun o => (o = res)) ?_ fuel st o h hc
  clear h hc o st fuel
  intro st o h hc
  obtain ⟨n, t37⟩ := st
  replace h : octet_Get_s1 t1 n t37 = some o := h
  show Leads Try.prog 22 0 (head22_1 t1 n t37) (fun v H _ => Res 0 (rx22 res) v H)
  unfold octet_Get_s1 at h
  refine ev_ok tab_ok hS true 3000 ?_
  conv => whnf
  refine br.h2 h ?_ ?_ ?_
  · rfl
  · clear h; intro hb h; conv => whnf
    all_goals (cases h; cases hc; exact Res.z rfl rfl rfl)
  clear h; intro hb h; conv => whnf
  replace h := oreq.elim h; obtain ⟨hb, h⟩ := h
  first | (refine req.intro hb ?_; conv => whnf) | skip
  replace h := obind.elim h; obtain ⟨e, hy, h⟩ := h
  refine rd.I hy (by first | rfl | (rw [Nat.zero_add, Nat.mul_one]; try rfl; done) | omega) ?_
  conv => whnf
  let t2 : Int := iorI .u64 (wI .u64 (n * 2 ^ 8)) (wI .u64 e)
  cases h; simp only [Sum.elim_inl, head22_1] at hc
  exact lrA0 hc [(0, 0)] rfl
theorem leads22 (hS : SumsOK Try.prog (aget (sums22))) (s : List UInt8) (ata1 : Int) (k : Int) (res : Int × Bool) (h : octet_GetF s ata1 k = some res) :
    Leads Try.prog 22 0 ⟨⟨22, 48, [(0, .string ⟨⟨s⟩⟩), (1, .int .i64 ata1), (2, .int .i64 k)], [.code k22_26], [], false, none⟩, [], [], 0⟩ (fun v H _ => Res 0 (rx22 res) v H) := by
  unfold octet_GetF at h
  refine ev_ok tab_ok hS true 3000 ?_
  conv => whnf
  refine br.h h ?_ ?_ ?_
  · rfl
  · clear h; intro hb h; conv => whnf
    all_goals (cases h; exact Res.z rfl rfl rfl)
  clear h; intro hb h; conv => whnf
  refine br.h h ?_ ?_ ?_
  · rfl
  · clear h; intro hb h; conv => whnf
    all_goals (cases h; exact Res.z rfl rfl rfl)
  clear h; intro hb h; conv => whnf
  refine br.h h ?_ ?_ ?_
  · rfl
  · clear h; intro hb h; conv => whnf
    all_goals (cases h; exact Res.z rfl rfl rfl)
  clear h; intro hb h; conv => whnf
  let t : Bool := decide ((wI .i64 ((s.length : Int) - k)) < ata1)
  refine br.h h ?_ ?_ ?_
  · rfl
  · clear h; intro hb h; conv => whnf
    all_goals (cases h; exact Res.z rfl rfl rfl)
  clear h; intro hb h; conv => whnf
  replace h := oreq.elim h; obtain ⟨hb, h⟩ := h
  first | (refine req.intro hb ?_; conv => whnf) | skip
  let t1 : List UInt8 := (s.drop ata1.toNat).take ((wI .i64 (ata1 + k)).toNat - ata1.toNat)
  refine pk_s2b ?_
  conv => whnf
  have hl := loop22_1 hS _ res _ _ _ h rfl; simp only [head22_1] at hl
  exact lrA0 hl [(0, 0)] rfl
theorem ok22 (hS : SumsOK Try.prog (aget (sums22))) : SumOK Try.prog 22 (s22 (octet_GetF)) := by
  refine SumOK.of_leads tab_ok (fun ar os r ha hr => ?_) ⟨Try.f22, rfl, by decide, rfl⟩
  replace hr : r22 (octet_GetF) ar (conts os) = some r := hr
  unfold r22 at hr
  generalize hc : conts os = C at hr
  replace hr := dV.elim hr; obtain ⟨v0, l1, y0, rfl, e0, hr⟩ := hr; obtain rfl := asS_eq _ _ e0
  replace hr := dV.elim hr; obtain ⟨v1, l2, y1, rfl, e1, hr⟩ := hr; obtain rfl := asI_eq _ _ _ e1
  replace hr := dV.elim hr; obtain ⟨v2, l3, y2, rfl, e2, hr⟩ := hr; obtain rfl := asI_eq _ _ _ e2
  replace hr := dFin hr; obtain ⟨rfl, rfl, x, h, rfl⟩ := hr
  obtain rfl := kinds_nil hc
  exact ⟨_, rfl, leads22 hS _ _ _ x h⟩
def octet_Get : (List UInt8) → Int → Int → Option (Int × Bool) := octet_GetF
theorem lift22 : SumOK Try.prog 22 (s22 octet_Get) := ok22 (SumsOK.of_tab trivial)
def R02_Put_s1 (k : Int) (n1 : Int) (s : List UInt8) (i : Int) : Option (Sum (Int × (List UInt8) × Int) (List UInt8)) :=
  cond (decide (i < k))
    (
    cond (decide (k ≤ 8))
      (
      let t := [UInt8.ofNat (wI .u8 (n1.tmod 256)).toNat]
      oreq (decide (t.length + s.length < 2 ^ 63)) <|
      some (.inl (wI .u64 (n1.tdiv 256), t ++ s, wI .i64 (i + 1))))
      (
      some (.inr (s))))
    (
    some (.inr (s)))
def R02_PutF (n : Int) (k : Int) : Option (List UInt8) :=
  iter (fun st => R02_Put_s1 k st.1 st.2.1 st.2.2) FUEL (n, [], 0)
def rx27 (x : List UInt8) : SRes := ⟨.string ⟨⟨x⟩⟩, [], []⟩
def r27 (g : Int → Int → Option (List UInt8)) : Dec := dV (asI .u64) fun (y0 : Int) => dV (asI .i64) fun (y1 : Int) => dEnd (ofG (g y0 y1) rx27)
theorem r27_c {g : Int → Int → Option (List UInt8)} {y0 : Int} {y1 : Int} {x : List UInt8} (hx : g y0 y1 = some x) : r27 g [.int .u64 y0, .int .i64 y1] [] = some (rx27 x) := (dV_eq (asI_c _)).trans ((dV_eq (asI_c _)).trans (ofG_eq hx))
def s27 (g : Int → Int → Option (List UInt8)) : Summ := ⟨[.v, .v], r27 g⟩
theorem r27_eq {g : Int → Int → Option (List UInt8)} {y0 : Int} {y1 : Int} {x : List UInt8} (hx : g y0 y1 = some x) : (s27 g).run [.int .u64 y0, .int .i64 y1] [] = some (rx27 x) := r27_c hx
abbrev sums27 : List (Nat × Summ) := []
def head27_1 (k : Int) (n1 : Int) (s : List UInt8) (i : Int) : VM :=
  ⟨⟨27, 26, [(0, .int .u64 n1), (1, .int .i64 k), (5, .string ⟨⟨s⟩⟩), (6, .int .i64 i)], [.code k27_12, .inLoop k27_12, .inBlock 0, .code k27_17], [], false, none⟩, [], [], 0⟩
theorem loop27_1 (hS : SumsOK Try.prog (aget (sums27))) (k : Int) (res : List UInt8) : ∀ fuel (st : Int × (List UInt8) × Int) (o : List UInt8), iter (fun st => R02_Put_s1 k st.1 st.2.1 st.2.2) fuel st = some o → (o = res) →
    Leads Try.prog 27 0 (head27_1 k st.1 st.2.1 st.2.2) (fun v H _ => Res 0 (rx27 res) v H) := by
  intro fuel st o h hc
  refine iter_leads (head := fun st => head27_1 k st.1 st.2.1 st.2.2) (C := fun o => (o = res)) ?_ fuel st o h hc
  clear h hc o st fuel
  intro st o h hc
  obtain ⟨n1, s, i⟩ := st
  replace h : R02_Put_s1 k n1 s i = some o := h
  show Leads Try.prog 27 0 (head27_1 k n1 s i) (fun v H _ => Res 0 (rx27 res) v H)
  unfold R02_Put_s1 at h
  refine ev_ok tab_ok hS true 3000 ?_
  conv => whnf
  refine br.h2 h ?_ ?_ ?_
  · rfl
  · clear h; intro hb h; conv => whnf
    all_goals (cases h; cases hc; exact Res.z rfl rfl rfl)
  clear h; intro hb h; conv => whnf
  refine br.h2 h ?_ ?_ ?_
  · rfl
  · clear h; intro hb h; conv => whnf
    all_goals (cases h; cases hc; exact Res.z rfl rfl rfl)
  clear h; intro hb h; conv => whnf
  refine pk_b2sL rfl ?_
  conv => whnf
  let t : List UInt8 := [UInt8.ofNat (wI .u8 (n1.tmod 256)).toNat]
  replace h := oreq.elim h; obtain ⟨hb, h⟩ := h
  first | (refine req.intro hb ?_; conv => whnf) | skip
  cases h; simp only [Sum.elim_inl, head27_1] at hc
  exact lrA0 hc [] rfl
theorem leads27 (hS : SumsOK Try.prog (aget (sums27))) (n : Int) (k : Int) (res : List UInt8) (h : R02_PutF n k = some res) :
    Leads Try.prog 27 0 ⟨⟨27, 26, [(0, .int .u64 n), (1, .int .i64 k)], [.code k27_20], [], false, none⟩, [], [], 0⟩ (fun v H _ => Res 0 (rx27 res) v H) := by
  unfold R02_PutF at h
  refine ev_ok tab_ok hS true 3000 ?_
  conv => whnf
  have hl := loop27_1 hS _ res _ _ _ h rfl; simp only [head27_1] at hl
  exact lrA0 hl [] rfl
theorem ok27 (hS : SumsOK Try.prog (aget (sums27))) : SumOK Try.prog 27 (s27 (R02_PutF)) := by
  refine SumOK.of_leads tab_ok (fun ar os r ha hr => ?_) ⟨Try.f27, rfl, by decide, rfl⟩
  replace hr : r27 (R02_PutF) ar (conts os) = some r := hr
  unfold r27 at hr
  generalize hc : conts os = C at hr
  replace hr := dV.elim hr; obtain ⟨v0, l1, y0, rfl, e0, hr⟩ := hr; obtain rfl := asI_eq _ _ _ e0
  replace hr := dV.elim hr; obtain ⟨v1, l2, y1, rfl, e1, hr⟩ := hr; obtain rfl := asI_eq _ _ _ e1
  replace hr := dFin hr; obtain ⟨rfl, rfl, x, h, rfl⟩ := hr
  obtain rfl := kinds_nil hc
  exact ⟨_, rfl, leads27 hS _ _ x h⟩
def R02_Put : Int → Int → Option (List UInt8) := R02_PutF
theorem lift27 : SumOK Try.prog 27 (s27 R02_Put) := ok27 (SumsOK.of_tab trivial)
def R02_Get_s1 (s : List UInt8) (ata1 : Int) (k : Int) (n : Int) (i : Int) : Option (Sum (Int × Int) (Int × Bool)) :=
  cond (decide (i < k))
    (
    oreq (decide (0 ≤ (wI .i64 (ata1 + i)))) <|
    (s[(wI .i64 (ata1 + i)).toNat]?).bind fun (b : UInt8) =>
    let t1 := wI .u64 ((wI .u64 (n * 256)) + (wI .u64 (b.toNat : Int)))
    some (.inl (t1, wI .i64 (i + 1))))
    (
    some (.inr ((n, true))))
def R02_GetF (s : List UInt8) (ata1 : Int) (k : Int) : Option (Int × Bool) :=
  cond (decide (k < 1))
    (
    some ((0, false)))
    (
    cond (decide (k > 8))
      (
      some ((0, false)))
      (
      cond (decide (ata1 < 0))
        (
        some ((0, false)))
        (
        cond (decide (ata1 > (s.length : Int)))
          (
          some ((0, false)))
          (
          let t := decide (k > (wI .i64 ((s.length : Int) - ata1)))
          cond (t)
            (
            some ((0, false)))
            (
            iter (fun st => R02_Get_s1 s ata1 k st.1 st.2) FUEL (0, 0))))))
def rx23 (x : Int × Bool) : SRes := ⟨.tuple ⟨[.int .u64 x.1, .bool x.2]⟩, [], []⟩
def r23 (g : (List UInt8) → Int → Int → Option (Int × Bool)) : Dec := dV asS fun (y0 : List UInt8) => dV (asI .i64) fun (y1 : Int) => dV (asI .i64) fun (y2 : Int) => dEnd (ofG (g y0 y1 y2) rx23)
theorem r23_c {g : (List UInt8) → Int → Int → Option (Int × Bool)} {y0 : List UInt8} {y1 : Int} {y2 : Int} {x : Int × Bool} (hx : g y0 y1 y2 = some x) : r23 g [.string ⟨⟨y0⟩⟩, .int .i64 y1, .int .i64 y2] [] = some (rx23 x) := (dV_eq (asS_c)).trans ((dV_eq (asI_c _)).trans ((dV_eq (asI_c _)).trans (ofG_eq hx)))
def s23 (g : (List UInt8) → Int → Int → Option (Int × Bool)) : Summ := ⟨[.v, .v, .v], r23 g⟩
theorem r23_eq {g : (List UInt8) → Int → Int → Option (Int × Bool)} {y0 : List UInt8} {y1 : Int} {y2 : Int} {x : Int × Bool} (hx : g y0 y1 y2 = some x) : (s23 g).run [.string ⟨⟨y0⟩⟩, .int .i64 y1, .int .i64 y2] [] = some (rx23 x) := r23_c hx
abbrev sums23 : List (Nat × Summ) := []
def head23_1 (s : List UInt8) (ata1 : Int) (k : Int) (n : Int) (i : Int) : VM :=
  ⟨⟨23, 49, [(0, .string ⟨⟨s⟩⟩), (1, .int .i64 ata1), (2, .int .i64 k), (8, .int .u64 n), (9, .int .i64 i)], [.code k23_15, .inLoop k23_15, .inBlock 0, .code k23_20], [], false, none⟩, [], [], 0⟩
theorem loop23_1 (hS : SumsOK Try.prog (aget (sums23))) (s : List UInt8) (ata1 : Int) (k : Int) (res : Int × Bool) : ∀ fuel (st : Int × Int) (o : Int × Bool), iter (fun st => R02_Get_s1 s ata1 k st.1 st.2) fuel st = some o → (o = res) →
    Leads Try.prog 23 0 (head23_1 s ata1 k st.1 st.2) (fun v H _ => Res 0 (rx23 res) v H) := by
  intro fuel st o h hc
  refine iter_leads (head := fun st => head23_1 s ata1 k st.1 st.2) (C := fun o => (o = res)) ?_ fuel st o h hc
  clear h hc o st fuel
  intro st o h hc
  obtain ⟨n, i⟩ := st
  replace h : R02_Get_s1 s ata1 k n i = some o := h
  show Leads Try.prog 23 0 (head23_1 s ata1 k n i) (fun v H _ => Res 0 (rx23 res) v H)
  unfold R02_Get_s1 at h
  refine ev_ok tab_ok hS true 3000 ?_
  conv => whnf
  refine br.h2 h ?_ ?_ ?_
  · rfl
  · clear h; intro hb h; conv => whnf
    all_goals (cases h; cases hc; exact Res.z rfl rfl rfl)
  clear h; intro hb h; conv => whnf
  replace h := oreq.elim h; obtain ⟨hb, h⟩ := h
  first | (refine req.intro hb ?_; conv => whnf) | skip
  replace h := obind.elim h; obtain ⟨b, hy, h⟩ := h
  refine rdS.intro hy ?_
  conv => whnf
  let t1 : Int := wI .u64 ((wI .u64 (n * 256)) + (wI .u64 (b.toNat : Int)))
  cases h; simp only [Sum.elim_inl, head23_1] at hc
  exact lrA0 hc [] rfl
theorem leads23 (hS : SumsOK Try.prog (aget (sums23))) (s : List UInt8) (ata1 : Int) (k : Int) (res : Int × Bool) (h : R02_GetF s ata1 k = some res) :
    Leads Try.prog 23 0 ⟨⟨23, 49, [(0, .string ⟨⟨s⟩⟩), (1, .int .i64 ata1), (2, .int .i64 k)], [.code k23_24], [], false, none⟩, [], [], 0⟩ (fun v H _ => Res 0 (rx23 res) v H) := by
  unfold R02_GetF at h
  refine ev_ok tab_ok hS true 3000 ?_
  conv => whnf
  refine br.h h ?_ ?_ ?_
  · rfl
  · clear h; intro hb h; conv => whnf
    all_goals (cases h; exact Res.z rfl rfl rfl)
  clear h; intro hb h; conv => whnf
  refine br.h h ?_ ?_ ?_
  · rfl
  · clear h; intro hb h; conv => whnf
    all_goals (cases h; exact Res.z rfl rfl rfl)
  clear h; intro hb h; conv => whnf
  refine br.h h ?_ ?_ ?_
  · rfl
  · clear h; intro hb h; conv => whnf
    all_goals (cases h; exact Res.z rfl rfl rfl)
  clear h; intro hb h; conv => whnf
  refine br.h h ?_ ?_ ?_
  · rfl
  · clear h; intro hb h; conv => whnf
    all_goals (cases h; exact Res.z rfl rfl rfl)
  clear h; intro hb h; conv => whnf
  let t : Bool := decide (k > (wI .i64 ((s.length : Int) - ata1)))
  refine br.h h ?_ ?_ ?_
  · rfl
  · clear h; intro hb h; conv => whnf
    all_goals (cases h; exact Res.z rfl rfl rfl)
  clear h; intro hb h; conv => whnf
  have hl := loop23_1 hS _ _ _ res _ _ _ h rfl; simp only [head23_1] at hl
  exact lrA0 hl [] rfl
theorem ok23 (hS : SumsOK Try.prog (aget (sums23))) : SumOK Try.prog 23 (s23 (R02_GetF)) := by
  refine SumOK.of_leads tab_ok (fun ar os r ha hr => ?_) ⟨Try.f23, rfl, by decide, rfl⟩
  replace hr : r23 (R02_GetF) ar (conts os) = some r := hr
  unfold r23 at hr
  generalize hc : conts os = C at hr
  replace hr := dV.elim hr; obtain ⟨v0, l1, y0, rfl, e0, hr⟩ := hr; obtain rfl := asS_eq _ _ e0
  replace hr := dV.elim hr; obtain ⟨v1, l2, y1, rfl, e1, hr⟩ := hr; obtain rfl := asI_eq _ _ _ e1
  replace hr := dV.elim hr; obtain ⟨v2, l3, y2, rfl, e2, hr⟩ := hr; obtain rfl := asI_eq _ _ _ e2
  replace hr := dFin hr; obtain ⟨rfl, rfl, x, h, rfl⟩ := hr
  obtain rfl := kinds_nil hc
  exact ⟨_, rfl, leads23 hS _ _ _ x h⟩
def R02_Get : (List UInt8) → Int → Int → Option (Int × Bool) := R02_GetF
theorem lift23 : SumOK Try.prog 23 (s23 R02_Get) := ok23 (SumsOK.of_tab trivial)
end Go.Vm.Code
namespace Go.Vm.Code
open Go Go.Vm
def putS (n k : Int) : List UInt8 := if 1 ≤ k ∧ k ≤ 8 then be n.toNat k.toNat else []
theorem octet_Put_eq {n k : Int} (h0 : 0 ≤ n) : octet_Put n k = some (putS n k) := by
  unfold octet_Put octet_PutF putS
  by_cases h1 : k < 1
  · rw [cond_p h1, if_neg (by omega)]
  by_cases h2 : k > 8
  · rw [cond_n h1, cond_p h2, if_neg (by omega)]
  rw [cond_n h1, cond_n h2, oreq_p (by omega), if_pos (by omega)]
  obtain ⟨m, rfl⟩ := Int.eq_ofNat_of_zero_le h0
  obtain ⟨j, rfl⟩ := Int.eq_ofNat_of_zero_le (show 0 ≤ k by omega)
  have key := iter_eq (step := fun (st : Int × List Int) => octet_Put_s1 (m : Int) (j : Int) st.1 st.2) (fun st => iB (st.2.take st.1.toNat) ++ be m (j - st.1.toNat)) (fun st => 0 ≤ st.1 ∧ st.1 ≤ j ∧ st.2.length = j) (fun st => (j - st.1).toNat) ?_ FUEL (0, List.replicate (j : Int).toNat 0) ⟨by simp, by simp, by simp⟩ (by rw [FUEL_eq]; simp only; omega)
  · rw [key]; simp [iB]
  rintro ⟨p, b⟩ ⟨g1, g2, g3⟩
  simp only at g1 g2 g3 ⊢
  obtain ⟨i, rfl⟩ := Int.eq_ofNat_of_zero_le g1
  unfold octet_Put_s1
  by_cases hp : i < j
  · refine .inr ⟨(((i + 1 : Nat) : Int), b.set i ((m / 256 ^ (j - 1 - i) % 256 : Nat) : Int)), ?_, ⟨by simp only; omega, by simp only; omega, by simp [g3]⟩, by simp only; omega, ?_⟩
    · simp (disch := omega) only [wI64, oreq_p, cond_p, Int.toNat_natCast]
      have e1 : min (8 * ((j : Int) - 1 - i)).toNat 64 = 8 * (j - 1 - i) := by omega
      have e0 : (2 : Int) ^ (8 * (j - 1 - i)) = ((256 ^ (j - 1 - i) : Nat) : Int) := by rw [show (256 : Nat) = 2 ^ 8 from rfl, ← Nat.pow_mul]; push_cast; rfl
      rw [e1, fdivP, wU8m, e0]
      rfl
    · simp only [Int.toNat_natCast]
      have e2 : j - i = (j - (i + 1)) + 1 := by omega
      have e3 : j - (i + 1) = j - 1 - i := by omega
      have e4 : (b.set i ((m / 256 ^ (j - 1 - i) % 256 : Nat) : Int)).take (i + 1) = b.take i ++ [((m / 256 ^ (j - 1 - i) % 256 : Nat) : Int)] := by
        rw [List.take_succ_eq_append_getElem (by simp; omega), List.take_set_of_le (Nat.le_refl _), List.getElem_set_self]
      rw [e2, e4, be, e3]
      simp only [iB, List.map_append, List.map_cons, List.map_nil, List.append_assoc, List.cons_append, List.nil_append, Int.toNat_natCast]
      congr 2
      apply UInt8.toNat_inj.1
      simp
  · refine .inl ?_
    obtain rfl : i = j := by omega
    simp (disch := omega) only [cond_n, oreq_p, Int.toNat_natCast]
    simp [be]
theorem R02_Put_eq {n k : Int} (h0 : 0 ≤ n) (h1 : n < 2 ^ 64) : R02_Put n k = some (putS n k) := by
  unfold R02_Put R02_PutF putS
  obtain ⟨m, rfl⟩ := Int.eq_ofNat_of_zero_le h0
  by_cases hk : 1 ≤ k ∧ k ≤ 8
  · rw [if_pos hk]
    obtain ⟨j, rfl⟩ := Int.eq_ofNat_of_zero_le (show 0 ≤ k by omega)
    have key := iter_eq (step := fun st => R02_Put_s1 (j : Int) st.1 st.2.1 st.2.2) (fun st => be st.1.toNat (j - st.2.2.toNat) ++ st.2.1) (fun st => 0 ≤ st.1 ∧ st.1 < 2 ^ 64 ∧ 0 ≤ st.2.2 ∧ st.2.2 ≤ j ∧ st.2.1.length < 2 ^ 20 + st.2.2.toNat) (fun st => (j - st.2.2).toNat) ?_ FUEL ((m : Int), [], 0) ⟨by simp, by simp only; omega, by simp, by simp, by simp⟩ (by rw [FUEL_eq]; simp only; omega)
    · rw [key]; simp
    rintro ⟨n, s, p⟩ ⟨g1, g2, g3, g4, g5⟩
    simp only at g1 g2 g3 g4 g5 ⊢
    obtain ⟨i, rfl⟩ := Int.eq_ofNat_of_zero_le g3
    obtain ⟨x, rfl⟩ := Int.eq_ofNat_of_zero_le g1
    unfold R02_Put_s1
    by_cases hp : i < j
    · refine .inr ⟨(((x / 256 : Nat) : Int), UInt8.ofNat x :: s, ((i + 1 : Nat) : Int)), ?_, ⟨by simp only; omega, by simp only; omega, by simp only; omega, by simp only; omega, by simp at g5 ⊢; omega⟩, by simp only; omega, ?_⟩
      · have e1 : (x : Int).tmod 256 = ((x % 256 : Nat) : Int) := by rw [Int.tmod_eq_emod_of_nonneg (by omega)]; rfl
        have e2 : (x : Int).tdiv 256 = ((x / 256 : Nat) : Int) := by rw [Int.tdiv_eq_ediv_of_nonneg (by omega)]; rfl
        rw [cond_p (by omega), cond_p (by omega), e1, e2, wU8 (by omega) (by omega)]
        simp only [List.length_cons, List.length_nil]
        rw [oreq_p (by omega), wU64 (by omega) (by omega), wI64 (by omega) (by omega), Int.toNat_natCast]
        have e3 : UInt8.ofNat (x % 256) = UInt8.ofNat x := by apply UInt8.toNat_inj.1; simp
        rw [e3]; rfl
      · simp only [Int.toNat_natCast]
        have e2 : j - i = (j - (i + 1)) + 1 := by omega
        rw [e2, be_snoc]; simp
    · refine .inl ?_
      obtain rfl : i = j := by omega
      rw [cond_n (by omega)]
      simp [be]
  · rw [if_neg hk]
    show iter _ (18446744073709551615 + 1) _ = _
    rw [iter]
    have : R02_Put_s1 k (m : Int) [] 0 = some (.inr []) := by
      unfold R02_Put_s1
      by_cases h2 : 0 < k
      · rw [cond_p h2, cond_n (by omega)]
      · rw [cond_n h2]
    simp only [this]
def getS (s : List UInt8) (p k : Int) : Int × Bool := if 1 ≤ k ∧ k ≤ 8 ∧ 0 ≤ p ∧ p + k ≤ s.length then (((valL ((s.drop p.toNat).take k.toNat) : Nat) : Int), true) else (0, false)
theorem pow_step {v i : Nat} (h : v < 256 ^ i) (hi : i ≤ 7) : v < 2 ^ 56 := Nat.lt_of_lt_of_le h (by
  have : (256 : Nat) ^ i ≤ 256 ^ 7 := Nat.pow_le_pow_right (by decide) hi
  simpa using this)
theorem octet_Get_eq {s : List UInt8} {p k : Int} (hs : s.length < 2 ^ 61) : octet_Get s p k = some (getS s p k) := by
  unfold octet_Get octet_GetF getS
  by_cases h1 : k < 1
  · rw [cond_p h1, if_neg (by omega)]
  by_cases h2 : k > 8
  · rw [cond_n h1, cond_p h2, if_neg (by omega)]
  by_cases h3 : p < 0
  · rw [cond_n h1, cond_n h2, cond_p h3, if_neg (by omega)]
  rw [cond_n h1, cond_n h2, cond_n h3, wI64 (n := (s.length : Int) - k) (by omega) (by omega)]
  by_cases h4 : (s.length : Int) - k < p
  · simp only []
    rw [cond_p h4, if_neg (by omega)]
  simp only []
  rw [cond_n h4, wI64 (n := p + k) (by omega) (by omega), oreq_p (by omega), if_pos (by omega)]
  obtain ⟨q, rfl⟩ := Int.eq_ofNat_of_zero_le (show 0 ≤ p by omega)
  obtain ⟨j, rfl⟩ := Int.eq_ofNat_of_zero_le (show 0 ≤ k by omega)
  have e : ((q : Int) + j).toNat - (q : Int).toNat = j := by omega
  rw [e]
  simp only [Int.toNat_natCast]
  generalize ht : (s.drop q).take j = t
  have hl : t.length = j := by rw [← ht]; simp; omega
  have key := iter_eq (step := fun st => octet_Get_s1 t st.1 st.2) (fun st => (((st.1.toNat * 256 ^ (j - st.2.toNat) + valL (t.drop st.2.toNat) : Nat) : Int), true)) (fun st => 0 ≤ st.1 ∧ 0 ≤ st.2 ∧ st.2 ≤ j ∧ st.1.toNat < 256 ^ st.2.toNat) (fun st => (j - st.2).toNat) ?_ FUEL (0, 0) ⟨by simp, by simp, by simp, by simp⟩ (by rw [FUEL_eq]; simp only; omega)
  · rw [key]; simp
  rintro ⟨n, x⟩ ⟨g1, g2, g3, g4⟩
  simp only at g1 g2 g3 g4 ⊢
  obtain ⟨i, rfl⟩ := Int.eq_ofNat_of_zero_le g2
  obtain ⟨v, rfl⟩ := Int.eq_ofNat_of_zero_le g1
  simp only [Int.toNat_natCast] at g4 ⊢
  unfold octet_Get_s1
  by_cases hp : i < j
  · have hlt : i < t.length := by omega
    have hb := t[i].toNat_lt
    have hv := pow_step g4 (by omega)
    refine .inr ⟨(((v * 256 + t[i].toNat : Nat) : Int), ((i + 1 : Nat) : Int)), ?_, ⟨by simp only; omega, by simp only; omega, by simp only; omega, ?_⟩, by simp only; omega, ?_⟩
    · rw [cond_p (by omega), oreq_p (by omega)]
      have e1 : (bI t)[(i : Int).toNat]? = some (t[i].toNat : Int) := by simp [bI, hlt]
      rw [e1, Option.bind_some]
      have e2 : iorI .u64 (wI .u64 ((v : Int) * 2 ^ 8)) (wI .u64 (t[i].toNat : Int)) = ((v * 256 + t[i].toNat : Nat) : Int) := by
        rw [wU64 (by omega) (by omega), wU64 (by omega) (by omega), iorU64_low 8 (by omega) (by omega) (by omega) (by omega) (by omega)]; omega
      simp only [e2]
      rw [wI64 (by omega) (by omega)]; rfl
    · simp only [Int.toNat_natCast]
      rw [Nat.pow_succ]; omega
    · simp only [Int.toNat_natCast]
      rw [List.drop_eq_getElem_cons hlt, val_cons]
      have e3 : (t.drop (i + 1)).length = j - (i + 1) := by simp; omega
      have e4 : j - i = (j - (i + 1)) + 1 := by omega
      rw [e3, e4, Nat.pow_succ, Nat.add_mul, Nat.mul_assoc, Nat.mul_comm 256, Nat.add_assoc]
  · refine .inl ?_
    obtain rfl : i = j := by omega
    rw [cond_n (by omega)]
    simp [← hl]
theorem R02_Get_eq {s : List UInt8} {p k : Int} (hs : s.length < 2 ^ 61) : R02_Get s p k = some (getS s p k) := by
  unfold R02_Get R02_GetF getS
  by_cases h1 : k < 1
  · rw [cond_p h1, if_neg (by omega)]
  by_cases h2 : k > 8
  · rw [cond_n h1, cond_p h2, if_neg (by omega)]
  by_cases h3 : p < 0
  · rw [cond_n h1, cond_n h2, cond_p h3, if_neg (by omega)]
  by_cases h5 : p > s.length
  · rw [cond_n h1, cond_n h2, cond_n h3, cond_p h5, if_neg (by omega)]
  rw [cond_n h1, cond_n h2, cond_n h3, cond_n h5, wI64 (n := (s.length : Int) - p) (by omega) (by omega)]
  by_cases h4 : k > (s.length : Int) - p
  · simp only []
    rw [cond_p h4, if_neg (by omega)]
  simp only []
  rw [cond_n h4, if_pos (by omega)]
  obtain ⟨q, rfl⟩ := Int.eq_ofNat_of_zero_le (show 0 ≤ p by omega)
  obtain ⟨j, rfl⟩ := Int.eq_ofNat_of_zero_le (show 0 ≤ k by omega)
  simp only [Int.toNat_natCast]
  generalize ht : (s.drop q).take j = t
  have hl : t.length = j := by rw [← ht]; simp; omega
  have key := iter_eq (step := fun st => R02_Get_s1 s (q : Int) (j : Int) st.1 st.2) (fun st => (((st.1.toNat * 256 ^ (j - st.2.toNat) + valL (t.drop st.2.toNat) : Nat) : Int), true)) (fun st => 0 ≤ st.1 ∧ 0 ≤ st.2 ∧ st.2 ≤ j ∧ st.1.toNat < 256 ^ st.2.toNat) (fun st => (j - st.2).toNat) ?_ FUEL (0, 0) ⟨by simp, by simp, by simp, by simp⟩ (by rw [FUEL_eq]; simp only; omega)
  · rw [key]; simp
  rintro ⟨n, x⟩ ⟨g1, g2, g3, g4⟩
  simp only at g1 g2 g3 g4 ⊢
  obtain ⟨i, rfl⟩ := Int.eq_ofNat_of_zero_le g2
  obtain ⟨v, rfl⟩ := Int.eq_ofNat_of_zero_le g1
  simp only [Int.toNat_natCast] at g4 ⊢
  unfold R02_Get_s1
  by_cases hp : i < j
  · have hlt : i < t.length := by omega
    have hb := t[i].toNat_lt
    have hv := pow_step g4 (by omega)
    refine .inr ⟨(((v * 256 + t[i].toNat : Nat) : Int), ((i + 1 : Nat) : Int)), ?_, ⟨by simp only; omega, by simp only; omega, by simp only; omega, ?_⟩, by simp only; omega, ?_⟩
    · rw [cond_p (by omega), wI64 (n := (q : Int) + i) (by omega) (by omega), oreq_p (by omega)]
      have e0 : ((q : Int) + i).toNat = q + i := by omega
      have e1 : s[q + i]? = some t[i] := by
        subst ht
        rw [List.getElem?_eq_getElem (by omega)]
        simp
      rw [e0, e1, Option.bind_some]
      have e2 : wI .u64 ((wI .u64 ((v : Int) * 256)) + (wI .u64 (t[i].toNat : Int))) = ((v * 256 + t[i].toNat : Nat) : Int) := by
        rw [wU64 (n := (v : Int) * 256) (by omega) (by omega), wU64 (n := (t[i].toNat : Int)) (by omega) (by omega), wU64 (by omega) (by omega)]; omega
      simp only [e2]
      rw [wI64 (by omega) (by omega)]; rfl
    · simp only [Int.toNat_natCast]
      rw [Nat.pow_succ]; omega
    · simp only [Int.toNat_natCast]
      rw [List.drop_eq_getElem_cons hlt, val_cons]
      have e3 : (t.drop (i + 1)).length = j - (i + 1) := by simp; omega
      have e4 : j - i = (j - (i + 1)) + 1 := by omega
      rw [e3, e4, Nat.pow_succ, Nat.add_mul, Nat.mul_assoc, Nat.mul_comm 256, Nat.add_assoc]
  · refine .inl ?_
    obtain rfl : i = j := by omega
    rw [cond_n (by omega)]
    simp [← hl]
end Go.Vm.Code
namespace Go.Vm.Code
open Go Go.Vm Go.Proofs
set_option maxRecDepth 100000
set_option maxHeartbeats 4000000
set_option linter.unusedVariables false
def octet_Reader_Bad_nilF : Option Bool :=
  some (true)
def rx37n (x : Bool) : SRes := ⟨.bool x, [], [none]⟩
def r37n (g : Option Bool) : Dec := dNl 1 <| dEnd (ofG (g) rx37n)
theorem r37n_c {g : Option Bool} {x : Bool} (hx : g = some x) : r37n g [.pointer none] [none] = some (rx37n x) := (dNl_1).trans (ofG_eq hx)
abbrev sums37n : List (Nat × Summ) := []
theorem leads37n (hS : SumsOK Try.prog (aget (sums37n))) (res : Bool) (h : octet_Reader_Bad_nilF = some res) :
    Leads Try.prog 37 1 ⟨⟨37, 18, [(0, .pointer none)], [.code k37_3], [], false, none⟩, [], [], 1⟩ (fun v H _ => Res 1 (rx37n res) v H) := by
  unfold octet_Reader_Bad_nilF at h
  refine ev_ok tab_ok hS true 3000 ?_
  conv => whnf
  all_goals (cases h)
  all_goals exact Res.of [] rfl nw_0 (by decide) js_0 (wr_n wr_0)
def octet_Reader_BadF (ra0 : octet_Reader) : Option (Bool × octet_Reader) :=
  cond (!ra0.made)
    (
    some ((true, ra0)))
    (
    some ((ra0.bad, ra0)))
def rx37 (x : Bool × octet_Reader) : SRes := ⟨.bool x.1, [], [some [.string ⟨⟨x.2.s⟩⟩, .bool x.2.made, .bool x.2.bad]]⟩
def r37 (g : octet_Reader → Option (Bool × octet_Reader)) : Dec := dPt 0 unoctet_Reader fun (y0 : octet_Reader) => dEnd (ofG (g y0) rx37)
theorem r37_c {g : octet_Reader → Option (Bool × octet_Reader)} {y0 : octet_Reader} {x : Bool × octet_Reader} (hx : g y0 = some x) : r37 g [.pointer (some ⟨0, 0, none⟩)] [some [.string ⟨⟨y0.s⟩⟩, .bool y0.made, .bool y0.bad]] = some (rx37 x) := (dPt_eq (unoctet_Reader_c _)).trans (ofG_eq hx)
def s37 (g : octet_Reader → Option (Bool × octet_Reader)) (g2 : Option Bool) : Summ := ⟨[.pt 3], pickN 0 (r37 g) (r37n g2)⟩
theorem r37_eq {g : octet_Reader → Option (Bool × octet_Reader)} {g2 : Option Bool} {y0 : octet_Reader} {x : Bool × octet_Reader} (hx : g y0 = some x) : (s37 g g2).run [.pointer (some ⟨0, 0, none⟩)] [some [.string ⟨⟨y0.s⟩⟩, .bool y0.made, .bool y0.bad]] = some (rx37 x) := r37_c hx
theorem r37n_eq {g2 : octet_Reader → Option (Bool × octet_Reader)} {g : Option Bool} {x : Bool} (hx : g = some x) : (s37 g2 g).run [.pointer none] [none] = some (rx37n x) := r37n_c hx
abbrev sums37 : List (Nat × Summ) := []
theorem leads37 (hS : SumsOK Try.prog (aget (sums37))) (ra0 : octet_Reader) (res : Bool × octet_Reader) (h : octet_Reader_BadF ra0 = some res) :
    Leads Try.prog 37 1 ⟨⟨37, 18, [(0, .pointer (some ⟨0, 0, none⟩))], [.code k37_3], [], false, none⟩, [], [(0, .cells [.string ⟨⟨ra0.s⟩⟩, .bool ra0.made, .bool ra0.bad])], 1⟩ (fun v H _ => Res 1 (rx37 res) v H) := by
  unfold octet_Reader_BadF at h
  refine ev_ok tab_ok hS true 3000 ?_
  conv => whnf
  refine br.h h ?_ ?_ ?_
  · rfl
  · clear h; intro hb h; conv => whnf
    all_goals (cases h)
    all_goals exact Res.of [] rfl nw_0 (by decide) js_0 (wr_s (rfl) (hs_cells rfl) wr_0)
  clear h; intro hb h; conv => whnf
  all_goals (cases h)
  all_goals exact Res.of [] rfl nw_0 (by decide) js_0 (wr_s (rfl) (hs_cells rfl) wr_0)
theorem ok37 (hS : SumsOK Try.prog (aget (sums37))) (hS2 : SumsOK Try.prog (aget (sums37n))) : SumOK Try.prog 37 (s37 (octet_Reader_BadF) (octet_Reader_Bad_nilF)) := by
  refine SumOK.of_leads tab_ok (fun ar os r ha hr => ?_) ⟨Try.f37, rfl, by decide, rfl⟩
  have hp := pickN.elim hr; clear hr; rcases hp with hr | hr
  · skip
    replace hr : r37 (octet_Reader_BadF) ar (conts os) = some r := hr
    unfold r37 at hr
    generalize hc : conts os = C at hr
    have hq := dPt.elim hr; clear hr; obtain ⟨c0, l1, C, y0, rfl, rfl, e0, hr⟩ := hq; obtain rfl := unoctet_Reader_eq _ _ e0
    replace hr := dFin hr; obtain ⟨rfl, rfl, x, h, rfl⟩ := hr
    obtain ⟨os, rfl, ha, hc⟩ := kinds_some ha hc
    obtain rfl := kinds_nil hc
    exact ⟨_, rfl, leads37 hS _ x h⟩
  · skip
    replace hr : r37n (octet_Reader_Bad_nilF) ar (conts os) = some r := hr
    unfold r37n at hr
    generalize hc : conts os = C at hr
    have hq := dNl.elim hr; clear hr; obtain ⟨l1, C, rfl, rfl, hr⟩ := hq; simp only [List.replicate, List.nil_append, List.cons_append] at hc
    replace hr := dFin hr; obtain ⟨rfl, rfl, x, h, rfl⟩ := hr
    obtain ⟨os, rfl, ha, hc⟩ := kinds_none ha hc
    obtain rfl := kinds_nil hc
    exact ⟨_, rfl, leads37n hS2 x h⟩
def octet_Reader_Bad : octet_Reader → Option (Bool × octet_Reader) := octet_Reader_BadF
def octet_Reader_Bad_nil : Option Bool := octet_Reader_Bad_nilF
theorem lift37 : SumOK Try.prog 37 (s37 octet_Reader_Bad octet_Reader_Bad_nil) := ok37 (SumsOK.of_tab trivial) (SumsOK.of_tab trivial)
def octet_Reader_Text_nilF (octet_Reader_Bad : octet_Reader → Option (Bool × octet_Reader)) (octet_Reader_Bad_nil : Option Bool) (n : Int) : Option (List UInt8) :=
  (octet_Reader_Bad_nil).bind fun n1 =>
  cond (n1)
    (
    some ([]))
    (
    cond (decide (n < 0))
      (
      none)
      (
      none))
def rx33n (x : List UInt8) : SRes := ⟨.string ⟨⟨x⟩⟩, [], [none]⟩
def r33n (g : Int → Option (List UInt8)) : Dec := dNl 1 <| dV (asI .i64) fun (y1 : Int) => dEnd (ofG (g y1) rx33n)
theorem r33n_c {g : Int → Option (List UInt8)} {y1 : Int} {x : List UInt8} (hx : g y1 = some x) : r33n g [.pointer none, .int .i64 y1] [none] = some (rx33n x) := (dNl_1).trans ((dV_eq (asI_c _)).trans (ofG_eq hx))
abbrev sums33n (octet_Reader_Bad : octet_Reader → Option (Bool × octet_Reader)) (octet_Reader_Bad_nil : Option Bool) : List (Nat × Summ) := [(37, s37 octet_Reader_Bad octet_Reader_Bad_nil)]
theorem leads33n (octet_Reader_Bad : octet_Reader → Option (Bool × octet_Reader)) (octet_Reader_Bad_nil : Option Bool) (hS : SumsOK Try.prog (aget (sums33n octet_Reader_Bad octet_Reader_Bad_nil))) (n : Int) (res : List UInt8) (h : octet_Reader_Text_nilF octet_Reader_Bad octet_Reader_Bad_nil n = some res) :
    Leads Try.prog 33 1 ⟨⟨33, 38, [(0, .pointer none), (1, .int .i64 n)], [.code k33_21], [], false, none⟩, [], [], 1⟩ (fun v H _ => Res 1 (rx33n res) v H) := by
  unfold octet_Reader_Text_nilF at h
  refine ev_ok tab_ok hS true 3000 ?_
  conv => whnf
  replace h := obind.elim h; obtain ⟨n1, hy, h⟩ := h
  refine sumK.introF [] (sumRun_of (aqs := [.pointer none]) (ws := [.no]) (n := 0) (m := 0) (t' := 1) (ra_cons rfl rfl ra_nil) rfl (by rfl) (r37n_eq hy) rfl rfl rfl rfl (wb_skip rfl wb_nil) an_nil rfl) ?_
  conv => whnf
  refine br.h h ?_ ?_ ?_
  · rfl
  · clear h; intro hb h; conv => whnf
    all_goals (cases h)
    all_goals exact Res.of [] rfl nw_0 (by decide) js_0 (wr_n wr_0)
  clear h; intro hb h; conv => whnf
  refine br.h h ?_ ?_ ?_
  · rfl
  · clear h; intro hb h; conv => whnf
    cases h
  clear h; intro hb h; conv => whnf
  cases h
def octet_Reader_TextF (octet_Reader_Bad : octet_Reader → Option (Bool × octet_Reader)) (octet_Reader_Bad_nil : Option Bool) (ra0 : octet_Reader) (n : Int) : Option ((List UInt8) × octet_Reader) :=
  (octet_Reader_Bad ra0).bind fun b =>
  cond (b.1)
    (
    some (([], b.2)))
    (
    cond (decide (n < 0))
      (
      some (([], octet_Reader.mk b.2.s b.2.made true)))
      (
      cond (decide (n > (b.2.s.length : Int)))
        (
        some (([], octet_Reader.mk b.2.s b.2.made true)))
        (
        oreq (decide ((0 : Int) ≤ n ∧ n ≤ (b.2.s.length : Int))) <|
        oreq (decide ((0 : Int) ≤ n ∧ n ≤ (b.2.s.length : Int))) <|
        let t := (b.2.s.drop n.toNat).take (b.2.s.length - n.toNat)
        some ((b.2.s.take n.toNat, octet_Reader.mk t b.2.made b.2.bad)))))
def rx33 (x : (List UInt8) × octet_Reader) : SRes := ⟨.string ⟨⟨x.1⟩⟩, [], [some [.string ⟨⟨x.2.s⟩⟩, .bool x.2.made, .bool x.2.bad]]⟩
def r33 (g : octet_Reader → Int → Option ((List UInt8) × octet_Reader)) : Dec := dPt 0 unoctet_Reader fun (y0 : octet_Reader) => dV (asI .i64) fun (y1 : Int) => dEnd (ofG (g y0 y1) rx33)
theorem r33_c {g : octet_Reader → Int → Option ((List UInt8) × octet_Reader)} {y0 : octet_Reader} {y1 : Int} {x : (List UInt8) × octet_Reader} (hx : g y0 y1 = some x) : r33 g [.pointer (some ⟨0, 0, none⟩), .int .i64 y1] [some [.string ⟨⟨y0.s⟩⟩, .bool y0.made, .bool y0.bad]] = some (rx33 x) := (dPt_eq (unoctet_Reader_c _)).trans ((dV_eq (asI_c _)).trans (ofG_eq hx))
def s33 (g : octet_Reader → Int → Option ((List UInt8) × octet_Reader)) (g2 : Int → Option (List UInt8)) : Summ := ⟨[.pt 3, .v], pickN 0 (r33 g) (r33n g2)⟩
theorem r33_eq {g : octet_Reader → Int → Option ((List UInt8) × octet_Reader)} {g2 : Int → Option (List UInt8)} {y0 : octet_Reader} {y1 : Int} {x : (List UInt8) × octet_Reader} (hx : g y0 y1 = some x) : (s33 g g2).run [.pointer (some ⟨0, 0, none⟩), .int .i64 y1] [some [.string ⟨⟨y0.s⟩⟩, .bool y0.made, .bool y0.bad]] = some (rx33 x) := r33_c hx
theorem r33n_eq {g2 : octet_Reader → Int → Option ((List UInt8) × octet_Reader)} {g : Int → Option (List UInt8)} {y1 : Int} {x : List UInt8} (hx : g y1 = some x) : (s33 g2 g).run [.pointer none, .int .i64 y1] [none] = some (rx33n x) := r33n_c hx
abbrev sums33 (octet_Reader_Bad : octet_Reader → Option (Bool × octet_Reader)) (octet_Reader_Bad_nil : Option Bool) : List (Nat × Summ) := [(37, s37 octet_Reader_Bad octet_Reader_Bad_nil)]
theorem leads33 (octet_Reader_Bad : octet_Reader → Option (Bool × octet_Reader)) (octet_Reader_Bad_nil : Option Bool) (hS : SumsOK Try.prog (aget (sums33 octet_Reader_Bad octet_Reader_Bad_nil))) (ra0 : octet_Reader) (n : Int) (res : (List UInt8) × octet_Reader) (h : octet_Reader_TextF octet_Reader_Bad octet_Reader_Bad_nil ra0 n = some res) :
    Leads Try.prog 33 1 ⟨⟨33, 38, [(0, .pointer (some ⟨0, 0, none⟩)), (1, .int .i64 n)], [.code k33_21], [], false, none⟩, [], [(0, .cells [.string ⟨⟨ra0.s⟩⟩, .bool ra0.made, .bool ra0.bad])], 1⟩ (fun v H _ => Res 1 (rx33 res) v H) := by
  unfold octet_Reader_TextF at h
  refine ev_ok tab_ok hS true 3000 ?_
  conv => whnf
  replace h := obind.elim h; obtain ⟨b, hy, h⟩ := h
  refine sumK.introF [0] (sumRun_of (aqs := [.pointer (some ⟨0, 0, none⟩)]) (ws := [.win 0 0 3 true]) (n := 0) (m := 0) (t' := 1) (ra_cons rfl rfl ra_nil) rfl (by rfl) (r37_eq hy) rfl rfl rfl rfl (wb_win rfl rfl rfl ⟨rfl, Nat.le_of_ble_eq_true rfl⟩ rfl rfl wb_nil) an_nil rfl) ?_
  conv => whnf
  refine br.h h ?_ ?_ ?_
  · rfl
  · clear h; intro hb h; conv => whnf
    all_goals (cases h)
    all_goals exact Res.of [] rfl nw_0 (by decide) js_0 (wr_s (rfl) (hs_cells rfl) wr_0)
  clear h; intro hb h; conv => whnf
  refine br.h h ?_ ?_ ?_
  · rfl
  · clear h; intro hb h; conv => whnf
    all_goals (cases h)
    all_goals exact Res.of [] rfl nw_0 (by decide) js_0 (wr_s (rfl) (hs_cells rfl) wr_0)
  clear h; intro hb h; conv => whnf
  refine br.h h ?_ ?_ ?_
  · rfl
  · clear h; intro hb h; conv => whnf
    all_goals (cases h)
    all_goals exact Res.of [] rfl nw_0 (by decide) js_0 (wr_s (rfl) (hs_cells rfl) wr_0)
  clear h; intro hb h; conv => whnf
  replace h := oreq.elim h; obtain ⟨hb, h⟩ := h
  first | (refine req.intro hb ?_; conv => whnf) | skip
  replace h := oreq.elim h; obtain ⟨hb, h⟩ := h
  first | (refine req.intro hb ?_; conv => whnf) | skip
  let t : List UInt8 := (b.2.s.drop n.toNat).take (b.2.s.length - n.toNat)
  all_goals (cases h)
  all_goals exact Res.of [] rfl nw_0 (by decide) js_0 (wr_s (rfl) (hs_cells rfl) wr_0)
theorem ok33 (octet_Reader_Bad : octet_Reader → Option (Bool × octet_Reader)) (octet_Reader_Bad_nil : Option Bool) (hS : SumsOK Try.prog (aget (sums33 octet_Reader_Bad octet_Reader_Bad_nil))) (hS2 : SumsOK Try.prog (aget (sums33n octet_Reader_Bad octet_Reader_Bad_nil))) : SumOK Try.prog 33 (s33 (octet_Reader_TextF octet_Reader_Bad octet_Reader_Bad_nil) (octet_Reader_Text_nilF octet_Reader_Bad octet_Reader_Bad_nil)) := by
  refine SumOK.of_leads tab_ok (fun ar os r ha hr => ?_) ⟨Try.f33, rfl, by decide, rfl⟩
  have hp := pickN.elim hr; clear hr; rcases hp with hr | hr
  · skip
    replace hr : r33 (octet_Reader_TextF octet_Reader_Bad octet_Reader_Bad_nil) ar (conts os) = some r := hr
    unfold r33 at hr
    generalize hc : conts os = C at hr
    have hq := dPt.elim hr; clear hr; obtain ⟨c0, l1, C, y0, rfl, rfl, e0, hr⟩ := hq; obtain rfl := unoctet_Reader_eq _ _ e0
    replace hr := dV.elim hr; obtain ⟨v1, l2, y1, rfl, e1, hr⟩ := hr; obtain rfl := asI_eq _ _ _ e1
    replace hr := dFin hr; obtain ⟨rfl, rfl, x, h, rfl⟩ := hr
    obtain ⟨os, rfl, ha, hc⟩ := kinds_some ha hc
    obtain rfl := kinds_nil hc
    exact ⟨_, rfl, leads33 octet_Reader_Bad octet_Reader_Bad_nil hS _ _ x h⟩
  · skip
    replace hr : r33n (octet_Reader_Text_nilF octet_Reader_Bad octet_Reader_Bad_nil) ar (conts os) = some r := hr
    unfold r33n at hr
    generalize hc : conts os = C at hr
    have hq := dNl.elim hr; clear hr; obtain ⟨l1, C, rfl, rfl, hr⟩ := hq; simp only [List.replicate, List.nil_append, List.cons_append] at hc
    replace hr := dV.elim hr; obtain ⟨v1, l2, y1, rfl, e1, hr⟩ := hr; obtain rfl := asI_eq _ _ _ e1
    replace hr := dFin hr; obtain ⟨rfl, rfl, x, h, rfl⟩ := hr
    obtain ⟨os, rfl, ha, hc⟩ := kinds_none ha hc
    obtain rfl := kinds_nil hc
    exact ⟨_, rfl, leads33n octet_Reader_Bad octet_Reader_Bad_nil hS2 _ x h⟩
def octet_Reader_Text : octet_Reader → Int → Option ((List UInt8) × octet_Reader) := octet_Reader_TextF octet_Reader_Bad octet_Reader_Bad_nil
def octet_Reader_Text_nil : Int → Option (List UInt8) := octet_Reader_Text_nilF octet_Reader_Bad octet_Reader_Bad_nil
theorem lift33 : SumOK Try.prog 33 (s33 octet_Reader_Text octet_Reader_Text_nil) := ok33 octet_Reader_Bad octet_Reader_Bad_nil (SumsOK.of_tab ⟨lift37, trivial⟩) (SumsOK.of_tab ⟨lift37, trivial⟩)
def octet_Reader_Num_nilF (octet_Get : (List UInt8) → Int → Int → Option (Int × Bool)) (octet_Reader_Text : octet_Reader → Int → Option ((List UInt8) × octet_Reader)) (octet_Reader_Text_nil : Int → Option (List UInt8)) (k : Int) : Option Int :=
  cond (decide (k < 1))
    (
    (octet_Reader_Text_nil (-1)).bind fun n =>
    (octet_Get n 0 (-1)).bind fun xg =>
    some (wI .i64 xg.1))
    (
    cond (decide (k > 7))
      (
      (octet_Reader_Text_nil (-1)).bind fun n1 =>
      (octet_Get n1 0 (-1)).bind fun xg1 =>
      some (wI .i64 xg1.1))
      (
      (octet_Reader_Text_nil k).bind fun n2 =>
      (octet_Get n2 0 k).bind fun xg2 =>
      some (wI .i64 xg2.1)))
def rx31n (x : Int) : SRes := ⟨.int .i64 x, [], [none]⟩
def r31n (g : Int → Option Int) : Dec := dNl 1 <| dV (asI .i64) fun (y1 : Int) => dEnd (ofG (g y1) rx31n)
abbrev sums31n (octet_Get : (List UInt8) → Int → Int → Option (Int × Bool)) (octet_Reader_Text : octet_Reader → Int → Option ((List UInt8) × octet_Reader)) (octet_Reader_Text_nil : Int → Option (List UInt8)) : List (Nat × Summ) := [(22, s22 octet_Get), (33, s33 octet_Reader_Text octet_Reader_Text_nil)]
theorem leads31n (octet_Get : (List UInt8) → Int → Int → Option (Int × Bool)) (octet_Reader_Text : octet_Reader → Int → Option ((List UInt8) × octet_Reader)) (octet_Reader_Text_nil : Int → Option (List UInt8)) (hS : SumsOK Try.prog (aget (sums31n octet_Get octet_Reader_Text octet_Reader_Text_nil))) (k : Int) (res : Int) (h : octet_Reader_Num_nilF octet_Get octet_Reader_Text octet_Reader_Text_nil k = some res) :
    Leads Try.prog 31 1 ⟨⟨31, 23, [(0, .pointer none), (1, .int .i64 k)], [.code k31_10], [], false, none⟩, [], [], 1⟩ (fun v H _ => Res 1 (rx31n res) v H) := by
  unfold octet_Reader_Num_nilF at h
  refine ev_ok tab_ok hS true 3000 ?_
  conv => whnf
  refine br.h h ?_ ?_ ?_
  · rfl
  · clear h; intro hb h; conv => whnf
    replace h := obind.elim h; obtain ⟨n, hy, h⟩ := h
    refine sumK.introF [] (sumRun_of (aqs := [.pointer none, .int .i64 (-1)]) (ws := [.no]) (n := 0) (m := 0) (t' := 1) (ra_cons rfl rfl (ra_cons rfl rfl ra_nil)) rfl (by rfl) (r33n_eq hy) rfl rfl rfl rfl (wb_skip rfl wb_nil) an_nil rfl) ?_
    conv => whnf
    replace h := obind.elim h; obtain ⟨xg, hy, h⟩ := h
    refine sumK.q rfl rfl (r22_eq hy) rfl rfl rfl ?_
    conv => whnf
    all_goals (cases h)
    all_goals exact Res.of [] rfl nw_0 (by decide) js_0 (wr_n wr_0)
  clear h; intro hb h; conv => whnf
  refine br.h h ?_ ?_ ?_
  · rfl
  · clear h; intro hb h; conv => whnf
    replace h := obind.elim h; obtain ⟨n1, hy, h⟩ := h
    refine sumK.introF [] (sumRun_of (aqs := [.pointer none, .int .i64 (-1)]) (ws := [.no]) (n := 0) (m := 0) (t' := 1) (ra_cons rfl rfl (ra_cons rfl rfl ra_nil)) rfl (by rfl) (r33n_eq hy) rfl rfl rfl rfl (wb_skip rfl wb_nil) an_nil rfl) ?_
    conv => whnf
    replace h := obind.elim h; obtain ⟨xg1, hy, h⟩ := h
    refine sumK.q rfl rfl (r22_eq hy) rfl rfl rfl ?_
    conv => whnf
    all_goals (cases h)
    all_goals exact Res.of [] rfl nw_0 (by decide) js_0 (wr_n wr_0)
  clear h; intro hb h; conv => whnf
  replace h := obind.elim h; obtain ⟨n2, hy, h⟩ := h
  refine sumK.introF [] (sumRun_of (aqs := [.pointer none, .int .i64 k]) (ws := [.no]) (n := 0) (m := 0) (t' := 1) (ra_cons rfl rfl (ra_cons rfl rfl ra_nil)) rfl (by rfl) (r33n_eq hy) rfl rfl rfl rfl (wb_skip rfl wb_nil) an_nil rfl) ?_
  conv => whnf
  replace h := obind.elim h; obtain ⟨xg2, hy, h⟩ := h
  refine sumK.q rfl rfl (r22_eq hy) rfl rfl rfl ?_
  conv => whnf
  all_goals (cases h)
  all_goals exact Res.of [] rfl nw_0 (by decide) js_0 (wr_n wr_0)
def octet_Reader_NumF (octet_Get : (List UInt8) → Int → Int → Option (Int × Bool)) (octet_Reader_Text : octet_Reader → Int → Option ((List UInt8) × octet_Reader)) (octet_Reader_Text_nil : Int → Option (List UInt8)) (ra0 : octet_Reader) (k : Int) : Option (Int × octet_Reader) :=
  cond (decide (k < 1))
    (
    (octet_Reader_Text ra0 (-1)).bind fun t =>
    (octet_Get t.1 0 (-1)).bind fun xg =>
    some ((wI .i64 xg.1, t.2)))
    (
    cond (decide (k > 7))
      (
      (octet_Reader_Text ra0 (-1)).bind fun t1 =>
      (octet_Get t1.1 0 (-1)).bind fun xg1 =>
      some ((wI .i64 xg1.1, t1.2)))
      (
      (octet_Reader_Text ra0 k).bind fun t2 =>
      (octet_Get t2.1 0 k).bind fun xg2 =>
      some ((wI .i64 xg2.1, t2.2))))
def rx31 (x : Int × octet_Reader) : SRes := ⟨.int .i64 x.1, [], [some [.string ⟨⟨x.2.s⟩⟩, .bool x.2.made, .bool x.2.bad]]⟩
def r31 (g : octet_Reader → Int → Option (Int × octet_Reader)) : Dec := dPt 0 unoctet_Reader fun (y0 : octet_Reader) => dV (asI .i64) fun (y1 : Int) => dEnd (ofG (g y0 y1) rx31)
theorem r31_c {g : octet_Reader → Int → Option (Int × octet_Reader)} {y0 : octet_Reader} {y1 : Int} {x : Int × octet_Reader} (hx : g y0 y1 = some x) : r31 g [.pointer (some ⟨0, 0, none⟩), .int .i64 y1] [some [.string ⟨⟨y0.s⟩⟩, .bool y0.made, .bool y0.bad]] = some (rx31 x) := (dPt_eq (unoctet_Reader_c _)).trans ((dV_eq (asI_c _)).trans (ofG_eq hx))
def s31 (g : octet_Reader → Int → Option (Int × octet_Reader)) (g2 : Int → Option Int) : Summ := ⟨[.pt 3, .v], pickN 0 (r31 g) (r31n g2)⟩
theorem r31_eq {g : octet_Reader → Int → Option (Int × octet_Reader)} {g2 : Int → Option Int} {y0 : octet_Reader} {y1 : Int} {x : Int × octet_Reader} (hx : g y0 y1 = some x) : (s31 g g2).run [.pointer (some ⟨0, 0, none⟩), .int .i64 y1] [some [.string ⟨⟨y0.s⟩⟩, .bool y0.made, .bool y0.bad]] = some (rx31 x) := r31_c hx
abbrev sums31 (octet_Get : (List UInt8) → Int → Int → Option (Int × Bool)) (octet_Reader_Text : octet_Reader → Int → Option ((List UInt8) × octet_Reader)) (octet_Reader_Text_nil : Int → Option (List UInt8)) : List (Nat × Summ) := [(22, s22 octet_Get), (33, s33 octet_Reader_Text octet_Reader_Text_nil)]
theorem leads31 (octet_Get : (List UInt8) → Int → Int → Option (Int × Bool)) (octet_Reader_Text : octet_Reader → Int → Option ((List UInt8) × octet_Reader)) (octet_Reader_Text_nil : Int → Option (List UInt8)) (hS : SumsOK Try.prog (aget (sums31 octet_Get octet_Reader_Text octet_Reader_Text_nil))) (ra0 : octet_Reader) (k : Int) (res : Int × octet_Reader) (h : octet_Reader_NumF octet_Get octet_Reader_Text octet_Reader_Text_nil ra0 k = some res) :
    Leads Try.prog 31 1 ⟨⟨31, 23, [(0, .pointer (some ⟨0, 0, none⟩)), (1, .int .i64 k)], [.code k31_10], [], false, none⟩, [], [(0, .cells [.string ⟨⟨ra0.s⟩⟩, .bool ra0.made, .bool ra0.bad])], 1⟩ (fun v H _ => Res 1 (rx31 res) v H) := by
  unfold octet_Reader_NumF at h
  refine ev_ok tab_ok hS true 3000 ?_
  conv => whnf
  refine br.h h ?_ ?_ ?_
  · rfl
  · clear h; intro hb h; conv => whnf
    replace h := obind.elim h; obtain ⟨t, hy, h⟩ := h
    refine sumK.introF [0] (sumRun_of (aqs := [.pointer (some ⟨0, 0, none⟩), .int .i64 (-1)]) (ws := [.win 0 0 3 true]) (n := 0) (m := 0) (t' := 1) (ra_cons rfl rfl (ra_cons rfl rfl ra_nil)) rfl (by rfl) (r33_eq hy) rfl rfl rfl rfl (wb_win rfl rfl rfl ⟨rfl, Nat.le_of_ble_eq_true rfl⟩ rfl rfl wb_nil) an_nil rfl) ?_
    conv => whnf
    replace h := obind.elim h; obtain ⟨xg, hy, h⟩ := h
    refine sumK.q rfl rfl (r22_eq hy) rfl rfl rfl ?_
    conv => whnf
    all_goals (cases h)
    all_goals exact Res.of [] rfl nw_0 (by decide) js_0 (wr_s (rfl) (hs_cells rfl) wr_0)
  clear h; intro hb h; conv => whnf
  refine br.h h ?_ ?_ ?_
  · rfl
  · clear h; intro hb h; conv => whnf
    replace h := obind.elim h; obtain ⟨t1, hy, h⟩ := h
    refine sumK.introF [0] (sumRun_of (aqs := [.pointer (some ⟨0, 0, none⟩), .int .i64 (-1)]) (ws := [.win 0 0 3 true]) (n := 0) (m := 0) (t' := 1) (ra_cons rfl rfl (ra_cons rfl rfl ra_nil)) rfl (by rfl) (r33_eq hy) rfl rfl rfl rfl (wb_win rfl rfl rfl ⟨rfl, Nat.le_of_ble_eq_true rfl⟩ rfl rfl wb_nil) an_nil rfl) ?_
    conv => whnf
    replace h := obind.elim h; obtain ⟨xg1, hy, h⟩ := h
    refine sumK.q rfl rfl (r22_eq hy) rfl rfl rfl ?_
    conv => whnf
    all_goals (cases h)
    all_goals exact Res.of [] rfl nw_0 (by decide) js_0 (wr_s (rfl) (hs_cells rfl) wr_0)
  clear h; intro hb h; conv => whnf
  replace h := obind.elim h; obtain ⟨t2, hy, h⟩ := h
  refine sumK.introF [0] (sumRun_of (aqs := [.pointer (some ⟨0, 0, none⟩), .int .i64 k]) (ws := [.win 0 0 3 true]) (n := 0) (m := 0) (t' := 1) (ra_cons rfl rfl (ra_cons rfl rfl ra_nil)) rfl (by rfl) (r33_eq hy) rfl rfl rfl rfl (wb_win rfl rfl rfl ⟨rfl, Nat.le_of_ble_eq_true rfl⟩ rfl rfl wb_nil) an_nil rfl) ?_
  conv => whnf
  replace h := obind.elim h; obtain ⟨xg2, hy, h⟩ := h
  refine sumK.q rfl rfl (r22_eq hy) rfl rfl rfl ?_
  conv => whnf
  all_goals (cases h)
  all_goals exact Res.of [] rfl nw_0 (by decide) js_0 (wr_s (rfl) (hs_cells rfl) wr_0)
theorem ok31 (octet_Get : (List UInt8) → Int → Int → Option (Int × Bool)) (octet_Reader_Text : octet_Reader → Int → Option ((List UInt8) × octet_Reader)) (octet_Reader_Text_nil : Int → Option (List UInt8)) (hS : SumsOK Try.prog (aget (sums31 octet_Get octet_Reader_Text octet_Reader_Text_nil))) (hS2 : SumsOK Try.prog (aget (sums31n octet_Get octet_Reader_Text octet_Reader_Text_nil))) : SumOK Try.prog 31 (s31 (octet_Reader_NumF octet_Get octet_Reader_Text octet_Reader_Text_nil) (octet_Reader_Num_nilF octet_Get octet_Reader_Text octet_Reader_Text_nil)) := by
  refine SumOK.of_leads tab_ok (fun ar os r ha hr => ?_) ⟨Try.f31, rfl, by decide, rfl⟩
  have hp := pickN.elim hr; clear hr; rcases hp with hr | hr
  · skip
    replace hr : r31 (octet_Reader_NumF octet_Get octet_Reader_Text octet_Reader_Text_nil) ar (conts os) = some r := hr
    unfold r31 at hr
    generalize hc : conts os = C at hr
    have hq := dPt.elim hr; clear hr; obtain ⟨c0, l1, C, y0, rfl, rfl, e0, hr⟩ := hq; obtain rfl := unoctet_Reader_eq _ _ e0
    replace hr := dV.elim hr; obtain ⟨v1, l2, y1, rfl, e1, hr⟩ := hr; obtain rfl := asI_eq _ _ _ e1
    replace hr := dFin hr; obtain ⟨rfl, rfl, x, h, rfl⟩ := hr
    obtain ⟨os, rfl, ha, hc⟩ := kinds_some ha hc
    obtain rfl := kinds_nil hc
    exact ⟨_, rfl, leads31 octet_Get octet_Reader_Text octet_Reader_Text_nil hS _ _ x h⟩
  · skip
    replace hr : r31n (octet_Reader_Num_nilF octet_Get octet_Reader_Text octet_Reader_Text_nil) ar (conts os) = some r := hr
    unfold r31n at hr
    generalize hc : conts os = C at hr
    have hq := dNl.elim hr; clear hr; obtain ⟨l1, C, rfl, rfl, hr⟩ := hq; simp only [List.replicate, List.nil_append, List.cons_append] at hc
    replace hr := dV.elim hr; obtain ⟨v1, l2, y1, rfl, e1, hr⟩ := hr; obtain rfl := asI_eq _ _ _ e1
    replace hr := dFin hr; obtain ⟨rfl, rfl, x, h, rfl⟩ := hr
    obtain ⟨os, rfl, ha, hc⟩ := kinds_none ha hc
    obtain rfl := kinds_nil hc
    exact ⟨_, rfl, leads31n octet_Get octet_Reader_Text octet_Reader_Text_nil hS2 _ x h⟩
def octet_Reader_Num : octet_Reader → Int → Option (Int × octet_Reader) := octet_Reader_NumF octet_Get octet_Reader_Text octet_Reader_Text_nil
def octet_Reader_Num_nil : Int → Option Int := octet_Reader_Num_nilF octet_Get octet_Reader_Text octet_Reader_Text_nil
theorem lift31 : SumOK Try.prog 31 (s31 octet_Reader_Num octet_Reader_Num_nil) := ok31 octet_Get octet_Reader_Text octet_Reader_Text_nil (SumsOK.of_tab ⟨lift22, lift33, trivial⟩) (SumsOK.of_tab ⟨lift22, lift33, trivial⟩)
def octet_NewF (s : List UInt8) : Option octet_Reader :=
  some (octet_Reader.mk s true false)
def rx30 (x : octet_Reader) : SRes := ⟨.pointer (some ⟨0, 0, none⟩), [[.string ⟨⟨x.s⟩⟩, .bool x.made, .bool x.bad]], []⟩
def r30 (g : (List UInt8) → Option octet_Reader) : Dec := dV asS fun (y0 : List UInt8) => dEnd (ofG (g y0) rx30)
theorem r30_c {g : (List UInt8) → Option octet_Reader} {y0 : List UInt8} {x : octet_Reader} (hx : g y0 = some x) : r30 g [.string ⟨⟨y0⟩⟩] [] = some (rx30 x) := (dV_eq (asS_c)).trans (ofG_eq hx)
def s30 (g : (List UInt8) → Option octet_Reader) : Summ := ⟨[.v], r30 g⟩
theorem r30_eq {g : (List UInt8) → Option octet_Reader} {y0 : List UInt8} {x : octet_Reader} (hx : g y0 = some x) : (s30 g).run [.string ⟨⟨y0⟩⟩] [] = some (rx30 x) := r30_c hx
abbrev sums30 : List (Nat × Summ) := []
theorem leads30 (hS : SumsOK Try.prog (aget (sums30))) (s : List UInt8) (res : octet_Reader) (h : octet_NewF s = some res) :
    Leads Try.prog 30 0 ⟨⟨30, 6, [(0, .string ⟨⟨s⟩⟩)], [.code k30_3], [], false, none⟩, [], [], 0⟩ (fun v H _ => Res 0 (rx30 res) v H) := by
  unfold octet_NewF at h
  refine ev_ok tab_ok hS true 3000 ?_
  conv => whnf
  all_goals (cases h)
  all_goals exact Res.of [0] rfl (nw_s (rfl) (hs_cells rfl) nw_0) (by decide) (js_l (by decide) js_0) wr_0
theorem ok30 (hS : SumsOK Try.prog (aget (sums30))) : SumOK Try.prog 30 (s30 (octet_NewF)) := by
  refine SumOK.of_leads tab_ok (fun ar os r ha hr => ?_) ⟨Try.f30, rfl, by decide, rfl⟩
  replace hr : r30 (octet_NewF) ar (conts os) = some r := hr
  unfold r30 at hr
  generalize hc : conts os = C at hr
  replace hr := dV.elim hr; obtain ⟨v0, l1, y0, rfl, e0, hr⟩ := hr; obtain rfl := asS_eq _ _ e0
  replace hr := dFin hr; obtain ⟨rfl, rfl, x, h, rfl⟩ := hr
  obtain rfl := kinds_nil hc
  exact ⟨_, rfl, leads30 hS _ x h⟩
def octet_New : (List UInt8) → Option octet_Reader := octet_NewF
theorem lift30 : SumOK Try.prog 30 (s30 octet_New) := ok30 (SumsOK.of_tab trivial)
end Go.Vm.Code
namespace Go.Vm.Code
open Go Go.Vm
end Go.Vm.Code
namespace Go.Vm.Code
open Go Go.Vm Go.Proofs
set_option maxRecDepth 100000
set_option maxHeartbeats 4000000
set_option linter.unusedVariables false
def octet_Hex_s1 (s : List UInt8) (t9 : Int) (c : List Int) : Option (Sum (Int × (List Int)) (List UInt8)) :=
  cond (decide (t9 < (s.length : Int)))
    (
    oreq (decide ((0 : Int) ≤ t9 ∧ t9 < (s.length : Int))) <|
    ((bI s)[t9.toNat]?).bind fun (e1 : Int) =>
    oreq (decide (0 ≤ (e1.fdiv (2 ^ 4)))) <|
    ([48, 49, 50, 51, 52, 53, 54, 55, 56, 57, 97, 98, 99, 100, 101, 102][(e1.fdiv (2 ^ 4)).toNat]?).bind fun (b3 : UInt8) =>
    oreq (decide ((c.length + 1) * 1 ≤ 2 ^ 47)) <|
    let row1 := c ++ [(b3.toNat : Int)]
    oreq (decide (0 ≤ (andI .u8 e1 15))) <|
    ([48, 49, 50, 51, 52, 53, 54, 55, 56, 57, 97, 98, 99, 100, 101, 102][(andI .u8 e1 15).toNat]?).bind fun (b4 : UInt8) =>
    oreq (decide ((row1.length + 1) * 1 ≤ 2 ^ 47)) <|
    let row2 := row1 ++ [(b4.toNat : Int)]
    some (.inl (wI .i64 (t9 + 1), row2)))
    (
    oreq (decide (c.length < 2 ^ 63)) <|
    some (.inr (iB c)))
def octet_HexF (s : List UInt8) : Option (List UInt8) :=
  cond (decide (0 < (s.length : Int)))
    (
    oreq (decide ((0 : Int) ≤ (0 : Int) ∧ (0 : Int) < (s.length : Int))) <|
    ((bI s)[0]?).bind fun (e : Int) =>
    oreq (decide (0 ≤ (e.fdiv (2 ^ 4)))) <|
    ([48, 49, 50, 51, 52, 53, 54, 55, 56, 57, 97, 98, 99, 100, 101, 102][(e.fdiv (2 ^ 4)).toNat]?).bind fun (b : UInt8) =>
    oreq (decide (0 ≤ (andI .u8 e 15))) <|
    ([48, 49, 50, 51, 52, 53, 54, 55, 56, 57, 97, 98, 99, 100, 101, 102][(andI .u8 e 15).toNat]?).bind fun (b1 : UInt8) =>
    oreq (decide (([(b.toNat : Int)].length + 1) * 1 ≤ 2 ^ 47)) <|
    let row := [(b.toNat : Int)] ++ [(b1.toNat : Int)]
    iter (fun st => octet_Hex_s1 s st.1 st.2) FUEL (1, row))
    (
    some ([]))
def rx28 (x : List UInt8) : SRes := ⟨.string ⟨⟨x⟩⟩, [], []⟩
def r28 (g : (List UInt8) → Option (List UInt8)) : Dec := dV asS fun (y0 : List UInt8) => dEnd (ofG (g y0) rx28)
theorem r28_c {g : (List UInt8) → Option (List UInt8)} {y0 : List UInt8} {x : List UInt8} (hx : g y0 = some x) : r28 g [.string ⟨⟨y0⟩⟩] [] = some (rx28 x) := (dV_eq (asS_c)).trans (ofG_eq hx)
def s28 (g : (List UInt8) → Option (List UInt8)) : Summ := ⟨[.v], r28 g⟩
theorem r28_eq {g : (List UInt8) → Option (List UInt8)} {y0 : List UInt8} {x : List UInt8} (hx : g y0 = some x) : (s28 g).run [.string ⟨⟨y0⟩⟩] [] = some (rx28 x) := r28_c hx
abbrev sums28 : List (Nat × Summ) := []
def head28_1 (s : List UInt8) (t9 : Int) (c : List Int) : VM :=
  ⟨⟨28, 23, [(3, .pointer (some ⟨0, 0, none⟩)), (7, .slice (some ⟨1, 0, none⟩) s.length 1), (8, .int .i64 (s.length : Int)), (9, .int .i64 t9)], [.code k28_14, .inLoop k28_14, .inBlock 0, .code k28_19], [], false, none⟩, [], [(0, .ty 82 [.pointer (some ⟨0, 0, none⟩), .func (.method "") ⟨[.slice (some ⟨5, 0, none⟩) c.length 1]⟩ ⟨[]⟩]), (1, .row true (vI .u8 (bI s))), (5, .ty 5 (vI .u8 c))], 6⟩
theorem loop28_1 (hS : SumsOK Try.prog (aget (sums28))) (s : List UInt8) (res : List UInt8) : ∀ fuel (st : Int × (List Int)) (o : List UInt8), iter (fun st => octet_Hex_s1 s st.1 st.2) fuel st = some o → (o = res) →
    Leads Try.prog 28 0 (head28_1 s st.1 st.2) (fun v H _ => Res 0 (rx28 res) v H) := by
  intro fuel st o h hc
  refine iter_leads (head := fun st => head28_1 s st.1 st.2) (C := fun o => (o = res)) ?_ fuel st o h hc
  clear h hc o st fuel
  intro st o h hc
  obtain ⟨t9, c⟩ := st
  replace h : octet_Hex_s1 s t9 c = some o := h
  show Leads Try.prog 28 0 (head28_1 s t9 c) (fun v H _ => Res 0 (rx28 res) v H)
  unfold octet_Hex_s1 at h
  refine ev_ok tab_ok hS true 3000 ?_
  conv => whnf
  refine br.h2 h ?_ ?_ ?_
  · rfl
  · clear h; intro hb h; conv => whnf
    replace h := oreq.elim h; obtain ⟨hb, h⟩ := h
    refine req.intro (us_req rfl (by first | rfl | (simp; done)) (by first | rfl | omega | (simp; done) | (simp; omega) | (simp at *; omega)) (of_decide_eq_true hb)) ?_
    conv => whnf
    refine pk_us ?_
    conv => whnf
    all_goals (cases h; cases hc; exact Res.z rfl rfl rfl)
  clear h; intro hb h; conv => whnf
  replace h := oreq.elim h; obtain ⟨hb, h⟩ := h
  first | (refine req.intro hb ?_; conv => whnf) | skip
  replace h := obind.elim h; obtain ⟨e1, hy, h⟩ := h
  refine rd.I hy (by first | rfl | (rw [Nat.zero_add, Nat.mul_one]; try rfl; done) | omega) ?_
  conv => whnf
  replace h := oreq.elim h; obtain ⟨hb, h⟩ := h
  first | (refine req.intro hb ?_; conv => whnf) | skip
  replace h := obind.elim h; obtain ⟨b3, hy, h⟩ := h
  refine rdS.intro hy ?_
  conv => whnf
  replace h := oreq.elim h; obtain ⟨hb, h⟩ := h
  first | refine req.intro (apb_req (of_decide_eq_true hb) (by first | rfl | omega | (simp; done) | (simp; omega) | (simp at *; omega)) rfl rfl (by first | rfl | omega | (simp; done) | (simp; omega) | (simp at *; omega)) (by first | rfl | exact vI_one _ _ | exact vS_one _ | exact vB_one _ | exact vT_one (by first | exact coctet_Reader_one | exact cR02_Step_one | exact cR02_Reader_one) _ | (rw [ofBytes_vI]; exact vI_one _ _) | (simp [vI_one, vS_one, vB_one, vI_drop, vI_take, vS_drop, vS_take]; done) | (simp; exact List.all_eq_true.1 (vT_one (by first | exact coctet_Reader_one | exact cR02_Step_one | exact cR02_Reader_one) _))) rfl) ?_ | skip
  conv => whnf
  let row1 : List Int := c ++ [(b3.toNat : Int)]
  first | have hlen_row1 : row1.length = _ := List.length_append .. | skip
  refine pk_apW (xs := c) (ys := [(b3.toNat : Int)]) rfl (by first | rfl | omega | (simp; done) | (simp; omega) | (simp at *; omega)) (by first | rfl | omega | (simp; done) | (simp; omega) | (simp at *; omega)) ?_
  conv => whnf
  replace h := oreq.elim h; obtain ⟨hb, h⟩ := h
  first | (refine req.intro hb ?_; conv => whnf) | skip
  replace h := obind.elim h; obtain ⟨b4, hy, h⟩ := h
  refine rdS.intro hy ?_
  conv => whnf
  replace h := oreq.elim h; obtain ⟨hb, h⟩ := h
  first | refine req.intro (apb_req (of_decide_eq_true hb) (by first | rfl | omega | (simp; done) | (simp; omega) | (simp at *; omega)) rfl rfl (by first | rfl | omega | (simp; done) | (simp; omega) | (simp at *; omega)) (by first | rfl | exact vI_one _ _ | exact vS_one _ | exact vB_one _ | exact vT_one (by first | exact coctet_Reader_one | exact cR02_Step_one | exact cR02_Reader_one) _ | (rw [ofBytes_vI]; exact vI_one _ _) | (simp [vI_one, vS_one, vB_one, vI_drop, vI_take, vS_drop, vS_take]; done) | (simp; exact List.all_eq_true.1 (vT_one (by first | exact coctet_Reader_one | exact cR02_Step_one | exact cR02_Reader_one) _))) rfl) ?_ | skip
  conv => whnf
  let row2 : List Int := row1 ++ [(b4.toNat : Int)]
  first | have hlen_row2 : row2.length = _ := List.length_append .. | skip
  refine pk_apW (xs := row1) (ys := [(b4.toNat : Int)]) rfl (by first | rfl | omega | (simp; done) | (simp; omega) | (simp at *; omega)) (by first | rfl | omega | (simp; done) | (simp; omega) | (simp at *; omega)) ?_
  conv => whnf
  cases h; simp only [Sum.elim_inl, head28_1] at hc
  exact lrA0 hc [(0, 0), (1, 1), (5, 9)] rfl
theorem leads28 (hS : SumsOK Try.prog (aget (sums28))) (s : List UInt8) (res : List UInt8) (h : octet_HexF s = some res) :
    Leads Try.prog 28 0 ⟨⟨28, 23, [(0, .string ⟨⟨s⟩⟩)], [.code k28_22], [], false, none⟩, [], [], 0⟩ (fun v H _ => Res 0 (rx28 res) v H) := by
  unfold octet_HexF at h
  refine ev_ok tab_ok hS true 3000 ?_
  conv => whnf
  refine pk_s2b ?_
  conv => whnf
  refine ev_ok tab_ok hS true 3000 ?_
  conv => whnf
  refine br.h2 h ?_ ?_ ?_
  · rfl
  · clear h; intro hb h; conv => whnf
    all_goals (cases h; exact Res.z rfl rfl rfl)
  clear h; intro hb h; conv => whnf
  replace h := oreq.elim h; obtain ⟨hb, h⟩ := h
  first | (refine req.intro hb ?_; conv => whnf) | skip
  replace h := obind.elim h; obtain ⟨e, hy, h⟩ := h
  refine rd.I hy (by first | rfl | (rw [Nat.zero_add, Nat.mul_one]; try rfl; done) | omega) ?_
  conv => whnf
  replace h := oreq.elim h; obtain ⟨hb, h⟩ := h
  first | (refine req.intro hb ?_; conv => whnf) | skip
  replace h := obind.elim h; obtain ⟨b, hy, h⟩ := h
  refine rdS.intro hy ?_
  conv => whnf
  refine pk_ap0I (ys := [(b.toNat : Int)]) rfl (by first | rfl | omega | (simp; done) | (simp; omega) | (simp at *; omega)) ?_
  conv => whnf
  replace h := oreq.elim h; obtain ⟨hb, h⟩ := h
  first | (refine req.intro hb ?_; conv => whnf) | skip
  replace h := obind.elim h; obtain ⟨b1, hy, h⟩ := h
  refine rdS.intro hy ?_
  conv => whnf
  replace h := oreq.elim h; obtain ⟨hb, h⟩ := h
  first | refine req.intro (apb_req (of_decide_eq_true hb) (by first | rfl | omega | (simp; done) | (simp; omega) | (simp at *; omega)) rfl rfl (by first | rfl | omega | (simp; done) | (simp; omega) | (simp at *; omega)) (by first | rfl | exact vI_one _ _ | exact vS_one _ | exact vB_one _ | exact vT_one (by first | exact coctet_Reader_one | exact cR02_Step_one | exact cR02_Reader_one) _ | (rw [ofBytes_vI]; exact vI_one _ _) | (simp [vI_one, vS_one, vB_one, vI_drop, vI_take, vS_drop, vS_take]; done) | (simp; exact List.all_eq_true.1 (vT_one (by first | exact coctet_Reader_one | exact cR02_Step_one | exact cR02_Reader_one) _))) rfl) ?_ | skip
  conv => whnf
  let row : List Int := [(b.toNat : Int)] ++ [(b1.toNat : Int)]
  first | have hlen_row : row.length = _ := List.length_append .. | skip
  refine pk_apW (xs := [(b.toNat : Int)]) (ys := [(b1.toNat : Int)]) rfl (by first | rfl | omega | (simp; done) | (simp; omega) | (simp at *; omega)) (by first | rfl | omega | (simp; done) | (simp; omega) | (simp at *; omega)) ?_
  conv => whnf
  have hl := loop28_1 hS _ res _ _ _ h rfl; simp only [head28_1] at hl
  exact lrA0 hl [(0, 0), (1, 1), (5, 5)] rfl
theorem ok28 (hS : SumsOK Try.prog (aget (sums28))) : SumOK Try.prog 28 (s28 (octet_HexF)) := by
  refine SumOK.of_leads tab_ok (fun ar os r ha hr => ?_) ⟨Try.f28, rfl, by decide, rfl⟩
  replace hr : r28 (octet_HexF) ar (conts os) = some r := hr
  unfold r28 at hr
  generalize hc : conts os = C at hr
  replace hr := dV.elim hr; obtain ⟨v0, l1, y0, rfl, e0, hr⟩ := hr; obtain rfl := asS_eq _ _ e0
  replace hr := dFin hr; obtain ⟨rfl, rfl, x, h, rfl⟩ := hr
  obtain rfl := kinds_nil hc
  exact ⟨_, rfl, leads28 hS _ x h⟩
def octet_Hex : (List UInt8) → Option (List UInt8) := octet_HexF
theorem lift28 : SumOK Try.prog 28 (s28 octet_Hex) := ok28 (SumsOK.of_tab trivial)
def internal_stringslite_IndexByteF (s : List UInt8) (c : Int) : Option Int :=
  some (ixB s c)
def rx74 (x : Int) : SRes := ⟨.int .i64 x, [], []⟩
def r74 (g : (List UInt8) → Int → Option Int) : Dec := dV asS fun (y0 : List UInt8) => dV (asI .u8) fun (y1 : Int) => dEnd (ofG (g y0 y1) rx74)
theorem r74_c {g : (List UInt8) → Int → Option Int} {y0 : List UInt8} {y1 : Int} {x : Int} (hx : g y0 y1 = some x) : r74 g [.string ⟨⟨y0⟩⟩, .int .u8 y1] [] = some (rx74 x) := (dV_eq (asS_c)).trans ((dV_eq (asI_c _)).trans (ofG_eq hx))
def s74 (g : (List UInt8) → Int → Option Int) : Summ := ⟨[.v, .v], r74 g⟩
theorem r74_eq {g : (List UInt8) → Int → Option Int} {y0 : List UInt8} {y1 : Int} {x : Int} (hx : g y0 y1 = some x) : (s74 g).run [.string ⟨⟨y0⟩⟩, .int .u8 y1] [] = some (rx74 x) := r74_c hx
abbrev sums74 : List (Nat × Summ) := []
theorem leads74 (hS : SumsOK Try.prog (aget (sums74))) (s : List UInt8) (c : Int) (res : Int) (h : internal_stringslite_IndexByteF s c = some res) :
    Leads Try.prog 74 0 ⟨⟨74, 8, [(0, .string ⟨⟨s⟩⟩), (1, .int .u8 c)], [.code k74_3], [], false, none⟩, [], [], 0⟩ (fun v H _ => Res 0 (rx74 res) v H) := by
  unfold internal_stringslite_IndexByteF at h
  refine ev_ok tab_ok hS true 3000 ?_
  conv => whnf
  all_goals (cases h; exact Res.z rfl rfl rfl)
theorem ok74 (hS : SumsOK Try.prog (aget (sums74))) : SumOK Try.prog 74 (s74 (internal_stringslite_IndexByteF)) := by
  refine SumOK.of_leads tab_ok (fun ar os r ha hr => ?_) ⟨Try.f74, rfl, by decide, rfl⟩
  replace hr : r74 (internal_stringslite_IndexByteF) ar (conts os) = some r := hr
  unfold r74 at hr
  generalize hc : conts os = C at hr
  replace hr := dV.elim hr; obtain ⟨v0, l1, y0, rfl, e0, hr⟩ := hr; obtain rfl := asS_eq _ _ e0
  replace hr := dV.elim hr; obtain ⟨v1, l2, y1, rfl, e1, hr⟩ := hr; obtain rfl := asI_eq _ _ _ e1
  replace hr := dFin hr; obtain ⟨rfl, rfl, x, h, rfl⟩ := hr
  obtain rfl := kinds_nil hc
  exact ⟨_, rfl, leads74 hS _ _ x h⟩
def internal_stringslite_IndexByte : (List UInt8) → Int → Option Int := internal_stringslite_IndexByteF
theorem lift74 : SumOK Try.prog 74 (s74 internal_stringslite_IndexByte) := ok74 (SumsOK.of_tab trivial)
def strings_IndexByteF (internal_stringslite_IndexByte : (List UInt8) → Int → Option Int) (s : List UInt8) (c : Int) : Option Int :=
  (internal_stringslite_IndexByte s c).bind fun i =>
  some (i)
def rx64 (x : Int) : SRes := ⟨.int .i64 x, [], []⟩
def r64 (g : (List UInt8) → Int → Option Int) : Dec := dV asS fun (y0 : List UInt8) => dV (asI .u8) fun (y1 : Int) => dEnd (ofG (g y0 y1) rx64)
theorem r64_c {g : (List UInt8) → Int → Option Int} {y0 : List UInt8} {y1 : Int} {x : Int} (hx : g y0 y1 = some x) : r64 g [.string ⟨⟨y0⟩⟩, .int .u8 y1] [] = some (rx64 x) := (dV_eq (asS_c)).trans ((dV_eq (asI_c _)).trans (ofG_eq hx))
def s64 (g : (List UInt8) → Int → Option Int) : Summ := ⟨[.v, .v], r64 g⟩
theorem r64_eq {g : (List UInt8) → Int → Option Int} {y0 : List UInt8} {y1 : Int} {x : Int} (hx : g y0 y1 = some x) : (s64 g).run [.string ⟨⟨y0⟩⟩, .int .u8 y1] [] = some (rx64 x) := r64_c hx
abbrev sums64 (internal_stringslite_IndexByte : (List UInt8) → Int → Option Int) : List (Nat × Summ) := [(74, s74 internal_stringslite_IndexByte)]
theorem leads64 (internal_stringslite_IndexByte : (List UInt8) → Int → Option Int) (hS : SumsOK Try.prog (aget (sums64 internal_stringslite_IndexByte))) (s : List UInt8) (c : Int) (res : Int) (h : strings_IndexByteF internal_stringslite_IndexByte s c = some res) :
    Leads Try.prog 64 0 ⟨⟨64, 8, [(0, .string ⟨⟨s⟩⟩), (1, .int .u8 c)], [.code k64_3], [], false, none⟩, [], [], 0⟩ (fun v H _ => Res 0 (rx64 res) v H) := by
  unfold strings_IndexByteF at h
  refine ev_ok tab_ok hS true 3000 ?_
  conv => whnf
  replace h := obind.elim h; obtain ⟨i, hy, h⟩ := h
  refine sumK.q rfl rfl (r74_eq hy) rfl rfl rfl ?_
  conv => whnf
  all_goals (cases h; exact Res.z rfl rfl rfl)
theorem ok64 (internal_stringslite_IndexByte : (List UInt8) → Int → Option Int) (hS : SumsOK Try.prog (aget (sums64 internal_stringslite_IndexByte))) : SumOK Try.prog 64 (s64 (strings_IndexByteF internal_stringslite_IndexByte)) := by
  refine SumOK.of_leads tab_ok (fun ar os r ha hr => ?_) ⟨Try.f64, rfl, by decide, rfl⟩
  replace hr : r64 (strings_IndexByteF internal_stringslite_IndexByte) ar (conts os) = some r := hr
  unfold r64 at hr
  generalize hc : conts os = C at hr
  replace hr := dV.elim hr; obtain ⟨v0, l1, y0, rfl, e0, hr⟩ := hr; obtain rfl := asS_eq _ _ e0
  replace hr := dV.elim hr; obtain ⟨v1, l2, y1, rfl, e1, hr⟩ := hr; obtain rfl := asI_eq _ _ _ e1
  replace hr := dFin hr; obtain ⟨rfl, rfl, x, h, rfl⟩ := hr
  obtain rfl := kinds_nil hc
  exact ⟨_, rfl, leads64 internal_stringslite_IndexByte hS _ _ x h⟩
def strings_IndexByte : (List UInt8) → Int → Option Int := strings_IndexByteF internal_stringslite_IndexByte
theorem lift64 : SumOK Try.prog 64 (s64 strings_IndexByte) := ok64 internal_stringslite_IndexByte (SumsOK.of_tab ⟨lift74, trivial⟩)
def unicode_utf8_ValidRuneF (ra0 : Int) : Option Bool :=
  cond (decide (0 ≤ ra0))
    (
    cond (decide (ra0 < 55296))
      (
      some (true))
      (
      cond (decide (57343 < ra0))
        (
        cond (decide (ra0 ≤ 1114111))
          (
          some (true))
          (
          some (false)))
        (
        some (false))))
    (
    cond (decide (57343 < ra0))
      (
      cond (decide (ra0 ≤ 1114111))
        (
        some (true))
        (
        some (false)))
      (
      some (false)))
def rx65 (x : Bool) : SRes := ⟨.bool x, [], []⟩
def r65 (g : Int → Option Bool) : Dec := dV (asI .i32) fun (y0 : Int) => dEnd (ofG (g y0) rx65)
theorem r65_c {g : Int → Option Bool} {y0 : Int} {x : Bool} (hx : g y0 = some x) : r65 g [.int .i32 y0] [] = some (rx65 x) := (dV_eq (asI_c _)).trans (ofG_eq hx)
def s65 (g : Int → Option Bool) : Summ := ⟨[.v], r65 g⟩
theorem r65_eq {g : Int → Option Bool} {y0 : Int} {x : Bool} (hx : g y0 = some x) : (s65 g).run [.int .i32 y0] [] = some (rx65 x) := r65_c hx
abbrev sums65 : List (Nat × Summ) := []
theorem leads65 (hS : SumsOK Try.prog (aget (sums65))) (ra0 : Int) (res : Bool) (h : unicode_utf8_ValidRuneF ra0 = some res) :
    Leads Try.prog 65 0 ⟨⟨65, 17, [(0, .int .i32 ra0)], [.code k65_15], [], false, none⟩, [], [], 0⟩ (fun v H _ => Res 0 (rx65 res) v H) := by
  unfold unicode_utf8_ValidRuneF at h
  refine ev_ok tab_ok hS true 3000 ?_
  conv => whnf
  refine br.h2 h ?_ ?_ ?_
  · rfl
  · clear h; intro hb h; conv => whnf
    refine br.h2 h ?_ ?_ ?_
    · rfl
    · clear h; intro hb h; conv => whnf
      all_goals (cases h; exact Res.z rfl rfl rfl)
    clear h; intro hb h; conv => whnf
    refine br.h h ?_ ?_ ?_
    · rfl
    · clear h; intro hb h; conv => whnf
      all_goals (cases h; exact Res.z rfl rfl rfl)
    clear h; intro hb h; conv => whnf
    all_goals (cases h; exact Res.z rfl rfl rfl)
  clear h; intro hb h; conv => whnf
  refine br.h h ?_ ?_ ?_
  · rfl
  · clear h; intro hb h; conv => whnf
    all_goals (cases h; exact Res.z rfl rfl rfl)
  clear h; intro hb h; conv => whnf
  refine br.h2 h ?_ ?_ ?_
  · rfl
  · clear h; intro hb h; conv => whnf
    all_goals (cases h; exact Res.z rfl rfl rfl)
  clear h; intro hb h; conv => whnf
  refine br.h h ?_ ?_ ?_
  · rfl
  · clear h; intro hb h; conv => whnf
    all_goals (cases h; exact Res.z rfl rfl rfl)
  clear h; intro hb h; conv => whnf
  all_goals (cases h; exact Res.z rfl rfl rfl)
theorem ok65 (hS : SumsOK Try.prog (aget (sums65))) : SumOK Try.prog 65 (s65 (unicode_utf8_ValidRuneF)) := by
  refine SumOK.of_leads tab_ok (fun ar os r ha hr => ?_) ⟨Try.f65, rfl, by decide, rfl⟩
  replace hr : r65 (unicode_utf8_ValidRuneF) ar (conts os) = some r := hr
  unfold r65 at hr
  generalize hc : conts os = C at hr
  replace hr := dV.elim hr; obtain ⟨v0, l1, y0, rfl, e0, hr⟩ := hr; obtain rfl := asI_eq _ _ _ e0
  replace hr := dFin hr; obtain ⟨rfl, rfl, x, h, rfl⟩ := hr
  obtain rfl := kinds_nil hc
  exact ⟨_, rfl, leads65 hS _ x h⟩
def unicode_utf8_ValidRune : Int → Option Bool := unicode_utf8_ValidRuneF
theorem lift65 : SumOK Try.prog 65 (s65 unicode_utf8_ValidRune) := ok65 (SumsOK.of_tab trivial)
def strings_IndexRune_s1 (s : List UInt8) (c : Nat) : Option (Sum Nat Int) :=
  cond (decide (c < s.length))
    (
    cond (((Utf8.decode ⟨⟨s⟩⟩ c).1 : Int) == 65533)
      (
      some (.inr ((c : Int))))
      (
      some (.inl (c + (Utf8.decode ⟨⟨s⟩⟩ c).2))))
    (
    some (.inr ((-1))))
def strings_IndexRune_s2 (s : List UInt8) (ra1 : Int) (i2 : Int) (xj : Int) : Option (Sum (Int × Int) (Sum Unit Int)) :=
  cond (decide (xj < ((encR ra1).length : Int)))
    (
    oreq (decide (0 ≤ (wI .i64 (i2 - xj)))) <|
    (s[(wI .i64 (i2 - xj)).toNat]?).bind fun (b3 : UInt8) =>
    let t4 := wI .i64 ((wI .i64 (((encR ra1).length : Int) - 1)) - xj)
    oreq (decide (0 ≤ t4)) <|
    ((encR ra1)[t4.toNat]?).bind fun (b4 : UInt8) =>
    cond ((b3.toNat : Int) != (b4.toNat : Int))
      (
      none)
      (
      some (.inl (i2, wI .i64 (xj + 1)))))
    (
    let t5 := wI .i64 (i2 - (wI .i64 (((encR ra1).length : Int) - 1)))
    some (.inr (.inr (t5))))
def strings_IndexRune_s3 (strings_IndexByte : (List UInt8) → Int → Option Int) (s : List UInt8) (ra1 : Int) : Option (Sum Unit Int) :=
  let t := decide ((wI .i64 (((encR ra1).length : Int) - 1)) < (s.length : Int))
  cond (t)
    (
    oreq (decide (0 ≤ (wI .i64 (((encR ra1).length : Int) - 1)))) <|
    (s[(wI .i64 (((encR ra1).length : Int) - 1)).toNat]?).bind fun (b : UInt8) =>
    oreq (decide (0 ≤ (wI .i64 (((encR ra1).length : Int) - 1)))) <|
    ((encR ra1)[(wI .i64 (((encR ra1).length : Int) - 1)).toNat]?).bind fun (b1 : UInt8) =>
    cond ((b.toNat : Int) != (b1.toNat : Int))
      (
      let t1 := wI .i64 ((wI .i64 (((encR ra1).length : Int) - 1)) + 1)
      oreq (decide ((0 : Int) ≤ t1 ∧ t1 ≤ (s.length : Int))) <|
      let t2 := (s.drop t1.toNat).take (s.length - t1.toNat)
      oreq (decide (0 ≤ (wI .i64 (((encR ra1).length : Int) - 1)))) <|
      ((encR ra1)[(wI .i64 (((encR ra1).length : Int) - 1)).toNat]?).bind fun (b2 : UInt8) =>
      (strings_IndexByte t2 (b2.toNat : Int)).bind fun i1 =>
      cond (decide (i1 < 0))
        (
        some (.inr ((-1))))
        (
        let t3 := wI .i64 ((wI .i64 (((encR ra1).length : Int) - 1)) + (wI .i64 (i1 + 1)))
        iter (fun st => strings_IndexRune_s2 s ra1 st.1 st.2) FUEL (t3, 1)))
      (
      iter (fun st => strings_IndexRune_s2 s ra1 st.1 st.2) FUEL (wI .i64 (((encR ra1).length : Int) - 1), 1)))
    (
    some (.inr ((-1))))
def strings_IndexRuneF (strings_IndexByte : (List UInt8) → Int → Option Int) (unicode_utf8_ValidRune : Int → Option Bool) (s : List UInt8) (ra1 : Int) : Option Int :=
  cond (decide (0 ≤ ra1))
    (
    cond (decide (ra1 < 128))
      (
      (strings_IndexByte s (wI .u8 ra1)).bind fun i =>
      some (i))
      (
      cond (ra1 == 65533)
        (
        iter (fun st => strings_IndexRune_s1 s st) FUEL 0)
        (
        (unicode_utf8_ValidRune ra1).bind fun xv =>
        cond (!xv)
          (
          some ((-1)))
          (
          iter (fun _ => strings_IndexRune_s3 strings_IndexByte s ra1) FUEL ()))))
    (
    cond (ra1 == 65533)
      (
      iter (fun st => strings_IndexRune_s1 s st) FUEL 0)
      (
      (unicode_utf8_ValidRune ra1).bind fun xv1 =>
      cond (!xv1)
        (
        some ((-1)))
        (
        iter (fun _ => strings_IndexRune_s3 strings_IndexByte s ra1) FUEL ())))
def rx48 (x : Int) : SRes := ⟨.int .i64 x, [], []⟩
def r48 (g : (List UInt8) → Int → Option Int) : Dec := dV asS fun (y0 : List UInt8) => dV (asI .i32) fun (y1 : Int) => dEnd (ofG (g y0 y1) rx48)
theorem r48_c {g : (List UInt8) → Int → Option Int} {y0 : List UInt8} {y1 : Int} {x : Int} (hx : g y0 y1 = some x) : r48 g [.string ⟨⟨y0⟩⟩, .int .i32 y1] [] = some (rx48 x) := (dV_eq (asS_c)).trans ((dV_eq (asI_c _)).trans (ofG_eq hx))
def s48 (g : (List UInt8) → Int → Option Int) : Summ := ⟨[.v, .v], r48 g⟩
theorem r48_eq {g : (List UInt8) → Int → Option Int} {y0 : List UInt8} {y1 : Int} {x : Int} (hx : g y0 y1 = some x) : (s48 g).run [.string ⟨⟨y0⟩⟩, .int .i32 y1] [] = some (rx48 x) := r48_c hx
abbrev sums48 (strings_IndexByte : (List UInt8) → Int → Option Int) (unicode_utf8_ValidRune : Int → Option Bool) : List (Nat × Summ) := [(64, s64 strings_IndexByte), (65, s65 unicode_utf8_ValidRune)]
def head48_1 (s : List UInt8) (c : Nat) : VM :=
  ⟨⟨48, 187, [(175, .pointer (some ⟨0, 0, none⟩))], [.code k48_17, .inLoop k48_17, .inBlock 9, .code k48_22, .inBlock 0], [], false, none⟩, [], [(0, .siter ⟨⟨s⟩⟩ c)], 1⟩
def head48_2 (s : List UInt8) (ra1 : Int) (i2 : Int) (xj : Int) : VM :=
  ⟨⟨48, 187, [(0, .string ⟨⟨s⟩⟩), (7, .string ⟨⟨encR ra1⟩⟩), (8, .int .i64 (wI .i64 (((encR ra1).length : Int) - 1))), (9, .int .i64 i2), (12, .int .i64 xj)], [.code k48_56, .inLoop k48_56, .inBlock 3, .code k48_70, .inScope, .inBlock 2, .inLoop k48_75, .inBlock 1, .code k48_127, .inScope, .inBlock 0], [], false, none⟩, [], [], 13⟩
def head48_3 (s : List UInt8) (ra1 : Int) : VM :=
  ⟨⟨48, 187, [(0, .string ⟨⟨s⟩⟩), (7, .string ⟨⟨encR ra1⟩⟩), (8, .int .i64 (wI .i64 (((encR ra1).length : Int) - 1))), (9, .int .i64 (wI .i64 (((encR ra1).length : Int) - 1)))], [.code k48_75, .inLoop k48_75, .inBlock 1, .code k48_127, .inScope, .inBlock 0], [], false, none⟩, [], [], 0⟩
theorem loop48_1 (strings_IndexByte : (List UInt8) → Int → Option Int) (unicode_utf8_ValidRune : Int → Option Bool) (hS : SumsOK Try.prog (aget (sums48 strings_IndexByte unicode_utf8_ValidRune))) (s : List UInt8) (res : Int) : ∀ fuel (st : Nat) (o : Int), iter (fun st => strings_IndexRune_s1 s st) fuel st = some o → (o = res) →
    Leads Try.prog 48 0 (head48_1 s st) (fun v H _ => Res 0 (rx48 res) v H) := by
  intro fuel st o h hc
  refine iter_leads (head := fun st => head48_1 s st) (C := fun o => (o = res)) ?_ fuel st o h hc
  clear h hc o st fuel
  intro c o h hc
  replace h : strings_IndexRune_s1 s c = some o := h
  show Leads Try.prog 48 0 (head48_1 s c) (fun v H _ => Res 0 (rx48 res) v H)
  unfold strings_IndexRune_s1 at h
  refine ev_ok tab_ok hS true 3000 ?_
  conv => whnf
  refine br.h2 h ?_ ?_ ?_
  · rfl
  · clear h; intro hb h; conv => whnf
    all_goals (cases h; cases hc; exact Res.z rfl rfl rfl)
  clear h; intro hb h; conv => whnf
  refine br.h h ?_ ?_ ?_
  · rfl
  · clear h; intro hb h; conv => whnf
    all_goals (cases h; cases hc; exact Res.z rfl rfl rfl)
  clear h; intro hb h; conv => whnf
  cases h; simp only [Sum.elim_inl, head48_1] at hc
  exact lrA0 hc [(0, 0)] rfl
theorem loop48_2 (strings_IndexByte : (List UInt8) → Int → Option Int) (unicode_utf8_ValidRune : Int → Option Bool) (hS : SumsOK Try.prog (aget (sums48 strings_IndexByte unicode_utf8_ValidRune))) (s : List UInt8) (ra1 : Int) (res : Int) : ∀ fuel (st : Int × Int) (o : Sum Unit Int), iter (fun st => strings_IndexRune_s2 s ra1 st.1 st.2) fuel st = some o → (Sum.elim (fun _ => Leads Try.prog 48 0 (head48_3 s ra1 ) (fun v H _ => Res 0 (rx48 res) v H)) (fun r0 => r0 = res) o) →
    Leads Try.prog 48 0 (head48_2 s ra1 st.1 st.2) (fun v H _ => Res 0 (rx48 res) v H) := by
  intro fuel st o h hc
  refine iter_leads (head := fun st => head48_2 s ra1 st.1 st.2) (C := fun o => (Sum.elim (fun _ => Leads Try.prog 48 0 (head48_3 s ra1 ) (fun v H _ => Res 0 (rx48 res) v H)) (fun r0 => r0 = res) o)) ?_ fuel st o h hc
  clear h hc o st fuel
  intro st o h hc
  obtain ⟨i2, xj⟩ := st
  replace h : strings_IndexRune_s2 s ra1 i2 xj = some o := h
  show Leads Try.prog 48 0 (head48_2 s ra1 i2 xj) (fun v H _ => Res 0 (rx48 res) v H)
  unfold strings_IndexRune_s2 at h
  refine ev_ok tab_ok hS true 3000 ?_
  conv => whnf
  refine br.h2 h ?_ ?_ ?_
  · rfl
  · clear h; intro hb h; conv => whnf
    let t5 : Int := wI .i64 (i2 - (wI .i64 (((encR ra1).length : Int) - 1)))
    all_goals (cases h; cases hc; exact Res.z rfl rfl rfl)
  clear h; intro hb h; conv => whnf
  replace h := oreq.elim h; obtain ⟨hb, h⟩ := h
  first | (refine req.intro hb ?_; conv => whnf) | skip
  replace h := obind.elim h; obtain ⟨b3, hy, h⟩ := h
  refine rdS.intro hy ?_
  conv => whnf
  let t4 : Int := wI .i64 ((wI .i64 (((encR ra1).length : Int) - 1)) - xj)
  replace h := oreq.elim h; obtain ⟨hb, h⟩ := h
  first | (refine req.intro hb ?_; conv => whnf) | skip
  replace h := obind.elim h; obtain ⟨b4, hy, h⟩ := h
  refine rdS.intro hy ?_
  conv => whnf
  refine br.h h ?_ ?_ ?_
  · rfl
  · clear h; intro hb h; conv => whnf
    cases h
  clear h; intro hb h; conv => whnf
  cases h; simp only [Sum.elim_inl, head48_2] at hc
  exact lrA0 hc [] rfl
theorem loop48_3 (strings_IndexByte : (List UInt8) → Int → Option Int) (unicode_utf8_ValidRune : Int → Option Bool) (hS : SumsOK Try.prog (aget (sums48 strings_IndexByte unicode_utf8_ValidRune))) (s : List UInt8) (ra1 : Int) (res : Int) : ∀ fuel (st : Unit) (o : Int), iter (fun _ => strings_IndexRune_s3 strings_IndexByte s ra1) fuel st = some o → (o = res) →
    Leads Try.prog 48 0 (head48_3 s ra1 ) (fun v H _ => Res 0 (rx48 res) v H) := by
  intro fuel st o h hc
  refine iter_leads (head := fun st => head48_3 s ra1 ) (C := fun o => (o = res)) ?_ fuel st o h hc
  clear h hc o st fuel
  intro st o h hc
  replace h : strings_IndexRune_s3 strings_IndexByte s ra1 = some o := h
  show Leads Try.prog 48 0 (head48_3 s ra1 ) (fun v H _ => Res 0 (rx48 res) v H)
  unfold strings_IndexRune_s3 at h
  refine ev_ok tab_ok hS true 3000 ?_
  conv => whnf
  let t : Bool := decide ((wI .i64 (((encR ra1).length : Int) - 1)) < (s.length : Int))
  refine br.h2 h ?_ ?_ ?_
  · rfl
  · clear h; intro hb h; conv => whnf
    all_goals (cases h; cases hc; exact Res.z rfl rfl rfl)
  clear h; intro hb h; conv => whnf
  replace h := oreq.elim h; obtain ⟨hb, h⟩ := h
  first | (refine req.intro hb ?_; conv => whnf) | skip
  replace h := obind.elim h; obtain ⟨b, hy, h⟩ := h
  refine rdS.intro hy ?_
  conv => whnf
  replace h := oreq.elim h; obtain ⟨hb, h⟩ := h
  first | (refine req.intro hb ?_; conv => whnf) | skip
  replace h := obind.elim h; obtain ⟨b1, hy, h⟩ := h
  refine rdS.intro hy ?_
  conv => whnf
  refine br.h2 h ?_ ?_ ?_
  · rfl
  · clear h; intro hb h; conv => whnf
    have hl := loop48_2 strings_IndexByte unicode_utf8_ValidRune hS _ _ res _ _ _ h hc; simp only [head48_2] at hl
    exact lrA0 hl [] rfl
  clear h; intro hb h; conv => whnf
  let t1 : Int := wI .i64 ((wI .i64 (((encR ra1).length : Int) - 1)) + 1)
  replace h := oreq.elim h; obtain ⟨hb, h⟩ := h
  first | (refine req.intro hb ?_; conv => whnf) | skip
  let t2 : List UInt8 := (s.drop t1.toNat).take (s.length - t1.toNat)
  replace h := oreq.elim h; obtain ⟨hb, h⟩ := h
  first | (refine req.intro hb ?_; conv => whnf) | skip
  replace h := obind.elim h; obtain ⟨b2, hy, h⟩ := h
  refine rdS.intro hy ?_
  conv => whnf
  replace h := obind.elim h; obtain ⟨i1, hy, h⟩ := h
  refine sumK.q rfl rfl (r64_eq hy) rfl rfl rfl ?_
  conv => whnf
  refine br.h h ?_ ?_ ?_
  · rfl
  · clear h; intro hb h; conv => whnf
    all_goals (cases h; cases hc; exact Res.z rfl rfl rfl)
  clear h; intro hb h; conv => whnf
  let t3 : Int := wI .i64 ((wI .i64 (((encR ra1).length : Int) - 1)) + (wI .i64 (i1 + 1)))
  have hl := loop48_2 strings_IndexByte unicode_utf8_ValidRune hS _ _ res _ _ _ h hc; simp only [head48_2] at hl
  exact lrA0 hl [] rfl
theorem leads48 (strings_IndexByte : (List UInt8) → Int → Option Int) (unicode_utf8_ValidRune : Int → Option Bool) (hS : SumsOK Try.prog (aget (sums48 strings_IndexByte unicode_utf8_ValidRune))) (s : List UInt8) (ra1 : Int) (res : Int) (h : strings_IndexRuneF strings_IndexByte unicode_utf8_ValidRune s ra1 = some res) :
    Leads Try.prog 48 0 ⟨⟨48, 187, [(0, .string ⟨⟨s⟩⟩), (1, .int .i32 ra1)], [.code k48_141], [], false, none⟩, [], [], 0⟩ (fun v H _ => Res 0 (rx48 res) v H) := by
  unfold strings_IndexRuneF at h
  refine ev_ok tab_ok hS true 3000 ?_
  conv => whnf
  refine br.h2 h ?_ ?_ ?_
  · rfl
  · clear h; intro hb h; conv => whnf
    refine br.h h ?_ ?_ ?_
    · rfl
    · clear h; intro hb h; conv => whnf
      have hl := loop48_1 strings_IndexByte unicode_utf8_ValidRune hS _ res _ _ _ h rfl; simp only [head48_1] at hl
      exact lrA0 hl [(0, 0)] rfl
    clear h; intro hb h; conv => whnf
    replace h := obind.elim h; obtain ⟨xv1, hy, h⟩ := h
    refine sumK.q rfl rfl (r65_eq hy) rfl rfl rfl ?_
    conv => whnf
    refine br.h h ?_ ?_ ?_
    · rfl
    · clear h; intro hb h; conv => whnf
      all_goals (cases h; exact Res.z rfl rfl rfl)
    clear h; intro hb h; conv => whnf
    have hl := loop48_3 strings_IndexByte unicode_utf8_ValidRune hS _ _ res _ _ _ h rfl; simp only [head48_3] at hl
    exact lrA0 hl [] rfl
  clear h; intro hb h; conv => whnf
  refine br.h h ?_ ?_ ?_
  · rfl
  · clear h; intro hb h; conv => whnf
    replace h := obind.elim h; obtain ⟨i, hy, h⟩ := h
    refine sumK.q rfl rfl (r64_eq hy) rfl rfl rfl ?_
    conv => whnf
    all_goals (cases h; exact Res.z rfl rfl rfl)
  clear h; intro hb h; conv => whnf
  refine br.h h ?_ ?_ ?_
  · rfl
  · clear h; intro hb h; conv => whnf
    have hl := loop48_1 strings_IndexByte unicode_utf8_ValidRune hS _ res _ _ _ h rfl; simp only [head48_1] at hl
    exact lrA0 hl [(0, 0)] rfl
  clear h; intro hb h; conv => whnf
  replace h := obind.elim h; obtain ⟨xv, hy, h⟩ := h
  refine sumK.q rfl rfl (r65_eq hy) rfl rfl rfl ?_
  conv => whnf
  refine br.h h ?_ ?_ ?_
  · rfl
  · clear h; intro hb h; conv => whnf
    all_goals (cases h; exact Res.z rfl rfl rfl)
  clear h; intro hb h; conv => whnf
  have hl := loop48_3 strings_IndexByte unicode_utf8_ValidRune hS _ _ res _ _ _ h rfl; simp only [head48_3] at hl
  exact lrA0 hl [] rfl
theorem ok48 (strings_IndexByte : (List UInt8) → Int → Option Int) (unicode_utf8_ValidRune : Int → Option Bool) (hS : SumsOK Try.prog (aget (sums48 strings_IndexByte unicode_utf8_ValidRune))) : SumOK Try.prog 48 (s48 (strings_IndexRuneF strings_IndexByte unicode_utf8_ValidRune)) := by
  refine SumOK.of_leads tab_ok (fun ar os r ha hr => ?_) ⟨Try.f48, rfl, by decide, rfl⟩
  replace hr : r48 (strings_IndexRuneF strings_IndexByte unicode_utf8_ValidRune) ar (conts os) = some r := hr
  unfold r48 at hr
  generalize hc : conts os = C at hr
  replace hr := dV.elim hr; obtain ⟨v0, l1, y0, rfl, e0, hr⟩ := hr; obtain rfl := asS_eq _ _ e0
  replace hr := dV.elim hr; obtain ⟨v1, l2, y1, rfl, e1, hr⟩ := hr; obtain rfl := asI_eq _ _ _ e1
  replace hr := dFin hr; obtain ⟨rfl, rfl, x, h, rfl⟩ := hr
  obtain rfl := kinds_nil hc
  exact ⟨_, rfl, leads48 strings_IndexByte unicode_utf8_ValidRune hS _ _ x h⟩
def strings_IndexRune : (List UInt8) → Int → Option Int := strings_IndexRuneF strings_IndexByte unicode_utf8_ValidRune
theorem lift48 : SumOK Try.prog 48 (s48 strings_IndexRune) := ok48 strings_IndexByte unicode_utf8_ValidRune (SumsOK.of_tab ⟨lift64, lift65, trivial⟩)
end Go.Vm.Code
